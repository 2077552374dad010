/-
  Tables of producers: their form in memory; in, fine, Right, find, Look, record, the reference's Right. No condition.
-/
import Derived.Test.YtefinemhfgdpdaaGreatDoorSpA
import Derived.Test.YtefinemhfgdpdaaGreatDoorLib
import Derived.Test.YtefinemhfgdpdaaGreatDoorWiA
namespace Go.Proofs.YtefinemhfgdpdaaGreatDoor
open Go.RowKit
set_option maxRecDepth 100000
abbrev PrD := D_api_Producer
structure Pr where
  id : Int
  epoch : Int
  next : Int
  last : List Int
abbrev Pr.raw (p : Pr) (v : SV) : PrD := ⟨p.id, p.epoch, p.next, v⟩
abbrev PrL := List (Pr × SV)
def praws (L : PrL) : List PrD := L.map fun p => p.1.raw p.2
def prows (L : PrL) : Dat := Dat.all L fun p => rowR p.2.1 p.1.last
abbrev prs (L : PrL) : List Pr := L.map (·.1)
def inP (n : Int) : Prop := 0 ≤ n ∧ n ≤ 1099511627776
instance (n : Int) : Decidable (inP n) := by unfold inP; infer_instance
structure FineP (p : Pr) : Prop where
  id : inP p.id
  epoch : inP p.epoch
  next : inP p.next
  len : (p.last.length : Int) = min p.next 20
  each : ∀ i (h : i < p.last.length), inP p.last[i]
  asc : ∀ i (h : i < p.last.length), 0 < i → p.last[i - 1] < p.last[i]
structure RightT (s : List Pr) : Prop where
  fine : ∀ p ∈ s, FineP p
  asc : ∀ i (h : i < s.length), 0 < i → s[i - 1].id < s[i].id
  len : s.length ≤ 50
open Classical in
noncomputable def fineB (p : Pr) : Bool := decide (FineP p)
open Classical in
noncomputable def rightB (s : List Pr) : Bool := decide (RightT s)
theorem fineB_true {p : Pr} : fineB p = true ↔ FineP p := by simp [fineB]
theorem fineB_false {p : Pr} (h : ¬ FineP p) : fineB p = false := by simp [fineB, h]
theorem rightB_true {s : List Pr} : rightB s = true ↔ RightT s := by simp [rightB]
theorem rightB_false {s : List Pr} (h : ¬ RightT s) : rightB s = false := by simp [rightB, h]

section
variable {B : Base} {w : World}
theorem in_g (n : Int) : Gives Tryz.prog B (sCall F_producer_in #[.int .i64 n]) (.bool (decide (inP n))) := by
  refine Gives.intro fun B' w K base h k => ?_
  refine producer_in.up (producer_in.call ?_)
  unfold producer_in.pt
  simp -zeta only [bin_geq, bin_leq, ifB_dec]
  refine ⟨fun h1 => ?_, fun h1 => ?_⟩
  · have : decide (inP n) = decide (n ≤ 1099511627776) := decide_eq_decide.2 ⟨fun h => h.2, fun h => ⟨h1, h⟩⟩
    rw [this] at k
    exact k _ _ h
  · rw [decide_eq_false (fun hh : inP n => h1 hh.1)] at k
    exact k _ _ h
theorem rin_g (n : Int) : Gives Tryz.prog B (sCall F_errataref10_in #[.int .i64 n]) (.bool (decide (inP n))) := by
  refine Gives.intro fun B' w K base h k => ?_
  refine errataref10_in.up (errataref10_in.call ?_)
  unfold errataref10_in.pt
  simp -zeta only [bin_geq, bin_leq, ifB_dec]
  refine ⟨fun h1 => ?_, fun h1 => ?_⟩
  · have : decide (inP n) = decide (n ≤ 1099511627776) := decide_eq_decide.2 ⟨fun h => h.2, fun h => ⟨h1, h⟩⟩
    rw [this] at k
    exact k _ _ h
  · rw [decide_eq_false (fun hh : inP n => h1 hh.1)] at k
    exact k _ _ h

theorem fine_g {p : Pr} {sv : SV} (r : rowR sv.1 p.last B) (hl : p.last.length ≤ 4611686018427387904) : Gives Tryz.prog B (sCall F_producer_fine #[(p.raw sv).v]) (.bool (fineB p)) := by
  refine Gives.intro fun B' w K base h k => ?_
  replace r := base r
  refine producer_fine.up (producer_fine.call ?_)
  unfold producer_fine.pt
  have no : ∀ w' τ, Rel B' w' τ → ¬ FineP p → K (.bool false) w' := fun w' τ h hn => by rw [fineB_false hn] at k; exact k _ _ h
  refine h.box fun b w1 h => ?_
  have h : Rel B' w1 [cellD b T_api_Producer (p.raw sv).cs.toArray] := h
  simp -zeta only [field_addr f_api_Producer_0, field_addr f_api_Producer_1, field_addr f_api_Producer_2, field_addr f_api_Producer_3, Nat.add_zero, Nat.zero_add, h.ld 0 rfl sc_int (o := 0) rfl]
  refine h.ask (fun B2 own base2 => in_g p.id) fun w2 h => ?_
  rw [un_not, ifB_not, ifB_dec]
  refine ⟨fun c1 => ?_, fun c1 => no _ _ h fun hh => c1 hh.id⟩
  simp -zeta only [h.ld 0 rfl sc_int (o := 1) rfl]
  refine h.ask (fun B2 own base2 => in_g p.epoch) fun w3 h => ?_
  rw [un_not, ifB_not, ifB_dec]
  refine ⟨fun c2 => ?_, fun c2 => no _ _ h fun hh => c2 hh.epoch⟩
  simp -zeta only [h.ld 0 rfl sc_int (o := 2) rfl]
  refine h.ask (fun B2 own base2 => in_g p.next) fun w4 h => ?_
  rw [un_not, ifB_not, ifB_dec]
  refine ⟨fun c3 => ?_, fun c3 => no _ _ h fun hh => c3 hh.next⟩
  simp -zeta only [h.ld 0 rfl sc_int (o := 2) rfl, h.ld 0 rfl sc_s_int (o := 3) rfl, rowR.len r sl_s_int, blt_min, bin_neq, ifB_not, ifB_dec]
  refine ⟨fun c4 => ?_, fun c4 => no _ _ h fun hh => c4 hh.len⟩
  refine LOOP_intro (fun x w' => ∃ i : Nat, i ≤ p.last.length ∧ x = (.int .i64 i, ()) ∧ (∀ j (hj : j < p.last.length), j < i → inP p.last[j] ∧ (0 < j → p.last[j - 1] < p.last[j])) ∧ Rel B' w' [cellD b T_api_Producer (p.raw sv).cs.toArray]) (fun x _ => p.last.length - (match x.1 with | .int _ n => n.toNat | _ => 0))
    ⟨0, Nat.zero_le _, rfl, fun j _ hj => absurd hj (Nat.not_lt_zero j), h⟩ ?_
  clear h
  rintro x w5 ⟨i, hi, rfl, hin, h⟩ next hnext
  simp -zeta only [bin_lss, ifB_dec]
  refine ⟨fun hlt => ?_, fun hge => ?_⟩
  · have hil : i < p.last.length := by omega
    refine LETJ_intro fun J hJ => ?_
    replace hJ : inP p.last[i] → (0 < i → p.last[i - 1] < p.last[i]) → ∀ w', Rel B' w' [cellD b T_api_Producer (p.raw sv).cs.toArray] → J () w' := by
      intro h1 h2 w' h
      refine hJ _ _ ?_
      rw [bin_add, wrap_id (by omega) (by omega)]
      refine hnext _ _ ⟨i + 1, hil, rfl, fun j hj hji => ?_, h⟩ (by simp only; omega)
      by_cases e : j = i
      · subst e; exact ⟨h1, h2⟩
      · exact hin j hj (by omega)
    clear hnext
    obtain ⟨q, q1, q2⟩ := rowR.at_sc r h sl_s_int hil sc_int (x := .int .i64 p.last[i]) rfl
    rw [q1, q2]
    refine h.ask (fun B2 own base2 => in_g p.last[i]) fun w6 h => ?_
    rw [un_not, ifB_not, ifB_dec]
    refine ⟨fun c5 => ?_, fun c5 => no _ _ h fun hh => c5 (hh.each i hil)⟩
    simp -zeta only [bin_gtr, ifB_dec]
    refine ⟨fun c6 => ?_, fun c6 => hJ c5 (fun z => absurd z (by omega)) _ h⟩
    have hw : IntKind.i64.wrap ((i : Int) - 1) = ((i - 1 : Nat) : Int) := by rw [wrap_id (by omega) (by omega)]; omega
    obtain ⟨q', q3, q4⟩ := rowR.at_sc r h sl_s_int (i := i - 1) (by omega) sc_int (x := .int .i64 (p.last[i - 1]'(by omega))) rfl
    simp -zeta only [h.ld 0 rfl sc_s_int (o := 3) rfl, bin_sub, hw, q3, q4, bin_leq, ifB_dec]
    exact ⟨fun c7 => no _ _ h fun hh => by have := hh.asc i hil (by omega); omega, fun c7 => hJ c5 (fun _ => by omega) _ h⟩
  · have : FineP p := ⟨c1, c2, c3, c4, fun j hj => (hin j hj (by omega)).1, fun j hj => (hin j hj (by omega)).2⟩
    rw [fineB_true.2 this] at k
    exact k _ _ h

theorem Right_g {v : Value} {L : PrL} (r : rowR v (praws L) B) (q : prows L B) (hl : L.length ≤ 4611686018427387904) (hq : ∀ p ∈ L, p.1.last.length ≤ 4611686018427387904) : Gives Tryz.prog B (sCall F_producer_Right #[v]) (.bool (rightB (prs L))) := by
  refine Gives.intro fun B' w K base h k => ?_
  replace r := base r
  replace q := base q
  refine producer_Right.up (producer_Right.call ?_)
  unfold producer_Right.pt
  have hal : (praws L).length = L.length := List.length_map ..
  have hpl : (prs L).length = L.length := List.length_map ..
  have hget : ∀ i (h : i < L.length), (prs L)[i]'(by omega) = L[i].1 := fun i h => by simp
  have no : ∀ w' τ, Rel B' w' τ → ¬ RightT (prs L) → K (.bool false) w' := fun w' τ h hn => by rw [rightB_false hn] at k; exact k _ _ h
  simp -zeta only [rowR.len r sl_s_api_Producer]
  rw [hal]
  refine LOOP_intro (fun x w' => ∃ i : Nat, i ≤ L.length ∧ x = (.int .i64 i, ()) ∧ (∀ j (hj : j < L.length), j < i → FineP L[j].1 ∧ (0 < j → (L[j - 1]'(by omega)).1.id < L[j].1.id)) ∧ Rel B' w' []) (fun x _ => L.length - (match x.1 with | .int _ n => n.toNat | _ => 0))
    ⟨0, Nat.zero_le _, rfl, fun j _ hj => absurd hj (Nat.not_lt_zero j), h⟩ ?_
  clear h
  rintro x w1 ⟨i, hi, rfl, hin, h⟩ next hnext
  simp -zeta only [bin_lss, ifB_dec]
  refine ⟨fun hlt => ?_, fun hge => ?_⟩
  · have hil : i < L.length := by omega
    refine LETJ_intro fun J hJ => ?_
    replace hJ : FineP L[i].1 → (0 < i → (L[i - 1]'(by omega)).1.id < L[i].1.id) → ∀ w' τ, Rel B' w' τ → J () w' := by
      intro h1 h2 w' τ h
      refine hJ _ _ ?_
      rw [bin_add, wrap_id (by omega) (by omega)]
      refine hnext _ _ ⟨i + 1, hil, rfl, fun j hj hji => ?_, h.nil⟩ (by simp only; omega)
      by_cases e : j = i
      · subst e; exact ⟨h1, h2⟩
      · exact hin j hj (by omega)
    clear hnext
    obtain ⟨g, o, hx, hc⟩ := rowR.idx r sl_s_api_Producer (P := Tryz.prog) (i := i) (by omega)
    have hel : (praws L)[i]'(by omega) = L[i].1.raw L[i].2 := by simp [praws]
    rw [hel] at hc
    have hc : cellsR g o (L[i].1.raw L[i].2).cs B' := hc
    have hrow := q L[i] (List.getElem_mem hil)
    have hql := hq L[i] (List.getElem_mem hil)
    simp -zeta only [hx, cellsR.ldAg (h.hereB hc) ag_api_Producer rfl]
    refine h.allocAg (ds := (L[i].1.raw L[i].2).cs.toArray) z_api_Producer rfl ag_api_Producer rfl (fun v hv => Enc.one (L[i].1.raw L[i].2) v hv) fun b w4 h => ?_
    have h := h.tick
    have h : Rel B' (tick w4) [cellD b T_api_Producer (L[i].1.raw L[i].2).cs.toArray] := h
    rw [h.ldAg 0 rfl ag_api_Producer rfl]
    refine h.ask (fun B2 own base2 => fine_g (p := L[i].1) (sv := L[i].2) (base2 hrow) hql) fun w5 h => ?_
    rw [un_not, ifB_not, ifB_bool]
    refine ⟨fun c1 => ?_, fun c1 => no _ _ h fun hh => by
      have := fineB_true.2 (hh.fine L[i].1 (List.mem_map_of_mem (List.getElem_mem hil)))
      rw [this] at c1; cases c1⟩
    have c1 := fineB_true.1 c1
    simp -zeta only [bin_gtr, ifB_dec]
    refine ⟨fun c2 => ?_, fun c2 => hJ c1 (fun z => absurd z (by omega)) _ _ h⟩
    have hw : IntKind.i64.wrap ((i : Int) - 1) = ((i - 1 : Nat) : Int) := by rw [wrap_id (by omega) (by omega)]; omega
    obtain ⟨g2, o2, hx2, hc2⟩ := rowR.idx r sl_s_api_Producer (P := Tryz.prog) (i := i - 1) (by omega)
    have hel2 : (praws L)[i - 1]'(by omega) = (L[i - 1]'(by omega)).1.raw (L[i - 1]'(by omega)).2 := by simp [praws]
    rw [hel2] at hc2
    have hc2 : cellsR g2 o2 ((L[i - 1]'(by omega)).1.raw (L[i - 1]'(by omega)).2).cs B' := hc2
    simp -zeta only [field_addr f_api_Producer_0, Nat.add_zero, h.ld 0 rfl sc_int (o := 0) rfl, bin_sub, hw, hx2, cellsR.ld0 (h.hereB hc2) sc_int rfl, bin_leq, ifB_dec]
    refine ⟨fun c3 => no _ _ h fun hh => ?_, fun c3 => hJ c1 (fun _ => by omega) _ _ h⟩
    have := hh.asc i (by omega) (by omega)
    rw [hget _ hil, hget (i - 1) (by omega)] at this
    omega
  · rw [bin_leq]
    have e : rightB (prs L) = decide ((L.length : Int) ≤ 50) := by
      rw [Bool.eq_iff_iff, rightB_true, decide_eq_true_iff]
      refine ⟨fun hh => by have := hh.len; omega, fun hh => ⟨fun p hp => ?_, fun j hj h0 => ?_, by omega⟩⟩
      · obtain ⟨x, hx, rfl⟩ := List.mem_map.1 hp
        obtain ⟨j, hj, rfl⟩ := List.getElem_of_mem hx
        exact (hin j hj (by omega)).1
      · rw [hget j (by omega), hget (j - 1) (by omega)]
        exact (hin j (by omega) (by omega)).2 h0
    rw [e] at k
    exact k _ _ h
end
end Go.Proofs.YtefinemhfgdpdaaGreatDoor
/-
  find, Look. No condition.
-/
namespace Go.Proofs.YtefinemhfgdpdaaGreatDoor
open Go.RowKit
set_option maxRecDepth 100000

def isId (id : Int) (p : Pr) : Bool := decide (p.id = id)
def getP (s : List Pr) (id : Int) : Pr := match s.find? (isId id) with
  | some p => p
  | none => ⟨id, 0, 0, []⟩
def hasP (s : List Pr) (id : Int) : Bool := (s.find? (isId id)).isSome
theorem getP_mem {s : List Pr} {id : Int} (h : hasP s id = true) : getP s id ∈ s ∧ (getP s id).id = id := by
  unfold hasP at h
  unfold getP
  cases hf : s.find? (isId id) with
  | none => rw [hf] at h; cases h
  | some p =>
    have h1 := List.find?_some hf
    exact ⟨List.mem_of_find?_eq_some hf, of_decide_eq_true h1⟩
theorem getP_none {s : List Pr} {id : Int} (h : hasP s id = false) : getP s id = ⟨id, 0, 0, []⟩ ∧ ∀ p ∈ s, p.id ≠ id := by
  unfold hasP at h
  unfold getP
  cases hf : s.find? (isId id) with
  | none =>
    refine ⟨rfl, fun p hp e => ?_⟩
    have := List.find?_eq_none.1 hf p hp
    exact this (decide_eq_true e)
  | some p => rw [hf] at h; cases h
theorem getP_fine {s : List Pr} {id : Int} (h : RightT s) (hid : inP id) : FineP (getP s id) ∧ (getP s id).id = id := by
  cases e : hasP s id
  · rw [(getP_none e).1]
    exact ⟨⟨hid, (show inP 0 by decide), (show inP 0 by decide), rfl, fun i h => absurd h (Nat.not_lt_zero i), fun i h => absurd h (Nat.not_lt_zero i)⟩, rfl⟩
  · exact ⟨h.fine _ (getP_mem e).1, (getP_mem e).2⟩
theorem getP_small {s : List Pr} {id : Int} (h : RightT s) : 0 ≤ (getP s id).epoch ∧ (getP s id).epoch ≤ 1099511627776 ∧ 0 ≤ (getP s id).next ∧ (getP s id).next ≤ 1099511627776 ∧ (getP s id).last.length ≤ 20 := by
  cases e : hasP s id
  · rw [(getP_none e).1]
    show (0 : Int) ≤ 0 ∧ (0 : Int) ≤ 1099511627776 ∧ (0 : Int) ≤ 0 ∧ (0 : Int) ≤ 1099511627776 ∧ (0 : Nat) ≤ 20
    decide
  · have := h.fine _ (getP_mem e).1
    have h1 := this.epoch
    have h2 := this.next
    have h3 := this.len
    unfold inP at h1 h2
    omega
def okN (n : Int) : Prop := 0 ≤ n ∧ n < 1099511627776
instance (n : Int) : Decidable (okN n) := by unfold okN; infer_instance
def lookS (s : List Pr) (id e q : Int) : Int × Int :=
  if ¬ (okN id ∧ okN e ∧ okN q) then (0, 1) else if e < (getP s id).epoch then (0, 18) else if (getP s id).epoch < e then (0, 25) else if (getP s id).next < q then (0, 19)
  else if hasP s id = false ∧ 50 ≤ s.length then (0, 6) else if q = (getP s id).next then (0, 0)
  else if 0 ≤ (getP s id).last.length - ((getP s id).next - q) then ((getP s id).last.getD (((getP s id).last.length : Int) - ((getP s id).next - q)).toNat 0, 5) else (-1, 5)

theorem idx_cases {α : Type} (p : α → Bool) (l : List α) : (idxP p l = -1 ∧ ∀ x ∈ l, p x = false) ∨ ∃ i : Nat, idxP p l = i ∧ ∃ hi : i < l.length, p l[i] = true ∧ ∀ x ∈ l.take i, p x = false := by
  unfold idxP
  split
  · rename_i i hi
    obtain ⟨h1, h2, h3⟩ := List.findIdx?_eq_some_iff_getElem.1 hi
    refine .inr ⟨i, rfl, h1, h2, fun x hx => ?_⟩
    obtain ⟨j, hj, rfl⟩ := List.getElem_of_mem hx
    have := h3 j (by simp at hj; omega)
    simp at this ⊢
    exact this
  · rename_i h
    exact .inl ⟨rfl, List.findIdx?_eq_none_iff.1 h⟩
theorem find_at {s : List Pr} {id : Int} {i : Nat} (hi : i < s.length) (h : isId id s[i] = true) (hno : ∀ x ∈ s.take i, isId id x = false) : s.find? (isId id) = some s[i] := by
  rw [List.find?_eq_some_iff_getElem]
  refine ⟨h, i, hi, rfl, fun j hj => ?_⟩
  have := hno s[j] (List.mem_take_iff_getElem.2 ⟨j, by omega, rfl⟩)
  simp [this]
def nilSV : SV := ⟨.slice none 0 0, rfl⟩

section
variable {B : Base} {w : World}
theorem find1_g {b : Nat} {id : Int} (hc : cellD b T_int #[.int .i64 id] B) (x : PrD) : Gives Tryz.prog B (sCallV (.func (.func F_producer_find_1) #[] #[ptr b]) #[Enc.val x]) (.bool (decide (x.id = id))) := by
  refine Gives.intro fun B' w K base h k => ?_
  replace hc := base hc
  refine call_v ?_
  refine producer_find_1.up (p0 := x.v) (t1 := ptr b) (producer_find_1.call ?_)
  unfold producer_find_1.pt
  refine h.box fun b2 w1 h => ?_
  have h : Rel B' w1 [cellD b2 T_api_Producer x.cs.toArray] := h
  simp -zeta only [field_addr f_api_Producer_0, Nat.add_zero, h.ld 0 rfl sc_int (o := 0) rfl, cellD.ld (h.hereB hc) sc_int (o := 0) rfl, bin_eql]
  exact k _ _ h

theorem find_g {v : Value} {L : PrL} (r : rowR v (praws L) B) (q : prows L B) (hl : L.length ≤ 4611686018427387904) (id : Int) :
    ∃ sv : SV, rowR sv.1 (getP (prs L) id).last B ∧ Gives Tryz.prog B (sCall F_producer_find #[v, .int .i64 id]) (.tuple #[((getP (prs L) id).raw sv).v, .bool (hasP (prs L) id)]) := by
  have hal : (praws L).length = L.length := List.length_map ..
  have hpl : (prs L).length = L.length := List.length_map ..
  rcases idx_cases (fun x : PrD => decide (x.id = id)) (praws L) with ⟨hi, hno⟩ | ⟨i, hi, hil, hat, hno⟩
  · have hh : hasP (prs L) id = false := by
      unfold hasP
      have : (prs L).find? (isId id) = none := List.find?_eq_none.2 fun p hp => by
        obtain ⟨x, hx, rfl⟩ := List.mem_map.1 hp
        have := hno (x.1.raw x.2) (List.mem_map_of_mem hx)
        simpa [isId] using this
      rw [this]; rfl
    refine ⟨nilSV, ?_, ?_⟩
    · rw [(getP_none hh).1]; exact ⟨none, 0, rfl, Nat.le_refl _, .inl rfl⟩
    · rw [(getP_none hh).1, hh]
      refine Gives.intro fun B' w K base h k => ?_
      replace r := base r
      refine producer_find.up (producer_find.call ?_)
      unfold producer_find.pt
      refine h.box fun b w1 h => ?_
      have h : Rel B' w1 [cellD b T_int #[.int .i64 id]] := h
      refine h.alloc z_api_Producer fun o w2 h => ?_
      simp -zeta only [mk_func]
      refine h.ask (fun B2 own base2 => gslices_IndexFunc_s_api_Producer_api_Producer (base2 r) (by omega) (fun x => decide (x.id = id)) fun B3 base3 x _ => find1_g (base3 (own (i := 0) rfl)) x) fun w3 h => ?_
      rw [hi]
      have h : Rel B' w3 [cellD b T_int #[.int .i64 id], cellD o T_api_Producer #[.int .i64 0, .int .i64 0, .int .i64 0, .slice none 0 0]] := h
      simp -zeta only [bin_lss, ifB_dec, h.ld 0 rfl sc_int (o := 0) rfl, bd_api_Producer_0]
      refine ⟨fun _ => ?_, fun hh => absurd (by decide) hh⟩
      refine h.stAll 1 (ds := (⟨id, 0, 0, nilSV⟩ : PrD).cs.toArray) rfl ag_api_Producer rfl rfl (fun v hv => Enc.one (⟨id, 0, 0, nilSV⟩ : PrD) v hv) fun w4 h => ?_
      rw [rv_ag h 1 rfl ag_api_Producer rfl]
      exact k _ _ h
  · have hil' : i < L.length := by omega
    have hel : (praws L)[i] = L[i].1.raw L[i].2 := by simp [praws]
    have hgp : (prs L).find? (isId id) = some L[i].1 := by
      have := find_at (s := prs L) (id := id) (i := i) (by omega) (by
        have e : (prs L)[i]'(by omega) = L[i].1 := by simp
        rw [e]
        rw [hel] at hat
        exact hat) fun x hx => by
          have : x ∈ (L.take i).map (·.1) := by rw [List.map_take]; exact hx
          obtain ⟨y, hy, rfl⟩ := List.mem_map.1 this
          have hm : y.1.raw y.2 ∈ (praws L).take i := by
            unfold praws
            rw [← List.map_take]
            exact List.mem_map_of_mem hy
          exact hno _ hm
      rw [this]
      simp
    have hg : getP (prs L) id = L[i].1 := by unfold getP; rw [hgp]
    have hh : hasP (prs L) id = true := by unfold hasP; rw [hgp]; rfl
    refine ⟨L[i].2, by rw [hg]; exact q L[i] (List.getElem_mem hil'), ?_⟩
    rw [hg, hh]
    refine Gives.intro fun B' w K base h k => ?_
    replace r := base r
    refine producer_find.up (producer_find.call ?_)
    unfold producer_find.pt
    refine h.box fun b w1 h => ?_
    have h : Rel B' w1 [cellD b T_int #[.int .i64 id]] := h
    refine h.alloc z_api_Producer fun o w2 h => ?_
    simp -zeta only [mk_func]
    refine h.ask (fun B2 own base2 => gslices_IndexFunc_s_api_Producer_api_Producer (base2 r) (by omega) (fun x => decide (x.id = id)) fun B3 base3 x _ => find1_g (base3 (own (i := 0) rfl)) x) fun w3 h => ?_
    rw [hi]
    have h : Rel B' w3 [cellD b T_int #[.int .i64 id], cellD o T_api_Producer #[.int .i64 0, .int .i64 0, .int .i64 0, .slice none 0 0]] := h
    obtain ⟨g, oo, hx, hc⟩ := rowR.idx r sl_s_api_Producer (P := Tryz.prog) (i := i) (by omega)
    rw [hel] at hc
    have hc : cellsR g oo (L[i].1.raw L[i].2).cs B' := hc
    simp -zeta only [bin_lss, ifB_dec, hx, cellsR.ldAg (h.hereB hc) ag_api_Producer rfl]
    refine ⟨fun hh => absurd hh (by omega), fun _ => ?_⟩
    refine h.stAll 1 (ds := (L[i].1.raw L[i].2).cs.toArray) rfl ag_api_Producer rfl rfl (fun v hv => Enc.one (L[i].1.raw L[i].2) v hv) fun w4 h => ?_
    rw [rv_ag h 1 rfl ag_api_Producer rfl]
    exact k _ _ h

theorem Look_g {v : Value} {L : PrL} (r : rowR v (praws L) B) (q : prows L B) (hR : RightT (prs L)) (en : D_api_Entry) : Gives Tryz.prog B (sCall F_producer_Look #[v, en.v]) (.tuple #[.int .i64 (lookS (prs L) en.producer en.epoch en.seq).1, .int .i64 (lookS (prs L) en.producer en.epoch en.seq).2]) := by
  refine Gives.intro fun B' w K base h k => ?_
  replace r := base r
  replace q := base q
  have hal : (praws L).length = L.length := List.length_map ..
  have hpl : (prs L).length = L.length := List.length_map ..
  have hlen := hR.len
  refine producer_Look.up (producer_Look.call ?_)
  unfold producer_Look.pt
  refine h.box fun b w1 h => ?_
  have h : Rel B' w1 [cellD b T_api_Entry en.cs.toArray] := h
  have fin : ∀ (x : Int × Int) w' τ, lookS (prs L) en.producer en.epoch en.seq = x → Rel B' w' τ → K (.tuple #[.int .i64 x.1, .int .i64 x.2]) w' := fun x w' τ e h => by rw [e] at k; exact k _ _ h
  clear k
  simp -zeta only [field_addr f_api_Entry_1, field_addr f_api_Entry_2, field_addr f_api_Entry_3, Nat.add_zero, Nat.zero_add, h.ld 0 rfl sc_int (o := 1) rfl, h.ld 0 rfl sc_int (o := 2) rfl, h.ld 0 rfl sc_int (o := 3) rfl]
  refine h.buildN (α := Int) [en.producer, en.epoch, en.seq] sl_s_int fun u w2 h => ?_
  have h : Rel B' w2 [cellD b T_api_Entry en.cs.toArray, rowD T_int u ([en.producer, en.epoch, en.seq] : List Int)] := h
  have hu := rowD.read (h.here (i := 1) rfl)
  simp -zeta only [rowR.len hu sl_s_int]
  clear hu
  refine LOOP_intro (fun x w' => ∃ i : Nat, i ≤ 3 ∧ x = (.int .i64 i, ()) ∧ (∀ j (hj : j < 3), j < i → okN ([en.producer, en.epoch, en.seq] : List Int)[j]) ∧ Rel B' w' [cellD b T_api_Entry en.cs.toArray, rowD T_int u ([en.producer, en.epoch, en.seq] : List Int)]) (fun x _ => 3 - (match x.1 with | .int _ n => n.toNat | _ => 0))
    ⟨0, Nat.zero_le _, rfl, fun j _ hj => absurd hj (Nat.not_lt_zero j), h⟩ ?_
  clear h
  rintro x w3 ⟨i, hi, rfl, hin, h⟩ next hnext
  simp -zeta only [List.length_cons, List.length_nil, bin_lss, ifB_dec]
  refine ⟨fun hlt => ?_, fun hge => ?_⟩
  · have hil : i < 3 := by omega
    have hu := rowD.read (h.here (i := 1) rfl)
    have hu : rowR u ([en.producer, en.epoch, en.seq] : List Int) ⟨w3, fun _ => True⟩ := hu
    have hbad : ¬ okN (([en.producer, en.epoch, en.seq] : List Int)[i]) → ¬ (okN en.producer ∧ okN en.epoch ∧ okN en.seq) := fun hb hh => by
      have : i = 0 ∨ i = 1 ∨ i = 2 := by omega
      rcases this with rfl | rfl | rfl
      · exact hb hh.1
      · exact hb hh.2.1
      · exact hb hh.2.2
    obtain ⟨g, o, hx, hc⟩ := rowR.idx hu sl_s_int (P := Tryz.prog) (i := i) hil
    have hc : (cellsR g o [.int .i64 ([en.producer, en.epoch, en.seq] : List Int)[i]]).here w3 := hc
    rw [hx, cellsR.ld0 hc sc_int rfl]
    refine h.ask (fun B2 own base2 => in_g _) fun w4 h => ?_
    rw [un_not, ifB_not, ifB_dec]
    refine ⟨fun c1 => ?_, fun c1 => fin (0, 1) _ _ (by unfold lookS; rw [if_pos (hbad fun hh => c1 ⟨hh.1, by have := hh.2; omega⟩)]) h⟩
    simp -zeta only [bin_eql, ifB_dec]
    refine ⟨fun c2 => fin (0, 1) _ _ (by unfold lookS; rw [if_pos (hbad fun hh => by have := hh.2; omega)]) h, fun c2 => ?_⟩
    rw [bin_add, wrap_id (by omega) (by omega)]
    refine hnext _ _ ⟨i + 1, hil, rfl, fun j hj hji => ?_, h⟩ (by simp only; omega)
    by_cases e : j = i
    · subst e
      exact ⟨c1.1, by have := c1.2; omega⟩
    · exact hin j hj (by omega)
  · have h3 : okN en.producer ∧ okN en.epoch ∧ okN en.seq := ⟨hin 0 (by decide) (by omega), hin 1 (by decide) (by omega), hin 2 (by decide) (by omega)⟩
    clear hnext hin hge
    have hq0 : 0 ≤ en.seq ∧ en.seq < 1099511627776 := h3.2.2
    unfold lookS at fin
    rw [if_neg (fun hh => hh h3)] at fin
    simp -zeta only [h.ld 0 rfl sc_int (o := 1) rfl]
    obtain ⟨sv, hsv, hfind⟩ := find_g r q (by omega) en.producer
    refine hfind _ _ _ h fun w5 h => ?_
    simp -zeta only [ext_2_0, ext_2_1]
    have hsm := getP_small hR (id := en.producer)
    generalize getP (prs L) en.producer = p at *
    refine h.allocAg (ds := (p.raw sv).cs.toArray) z_api_Producer rfl ag_api_Producer rfl (fun v hv => Enc.one (p.raw sv) v hv) fun o w7 h => ?_
    have h : Rel B' w7 [cellD b T_api_Entry en.cs.toArray, rowD T_int u ([en.producer, en.epoch, en.seq] : List Int), cellD o T_api_Producer (p.raw sv).cs.toArray] := h
    simp -zeta only [field_addr f_api_Producer_1, field_addr f_api_Producer_2, field_addr f_api_Producer_3, Nat.zero_add]
    refine LETJ_intro fun J hJ => ?_
    replace hJ : ¬ en.epoch < p.epoch → ¬ p.epoch < en.epoch → ¬ p.next < en.seq → ¬ (hasP (prs L) en.producer = false ∧ 50 ≤ (prs L).length) → ¬ en.seq = p.next → J () w7 := by
      intro c1 c2 c3 c4 c5
      refine hJ _ _ ?_
      clear hJ
      rw [if_neg c1, if_neg c2, if_neg c3, if_neg c4, if_neg c5] at fin
      have hw1 : IntKind.i64.wrap (p.next - en.seq) = p.next - en.seq := wrap_id (by omega) (by omega)
      have hw2 : IntKind.i64.wrap ((p.last.length : Int) - (p.next - en.seq)) = (p.last.length : Int) - (p.next - en.seq) := wrap_id (by omega) (by omega)
      simp -zeta only [h.ld 2 rfl sc_s_int (o := 3) rfl, h.ld 2 rfl sc_int (o := 2) rfl, h.ld 0 rfl sc_int (o := 3) rfl, rowR.len hsv sl_s_int, bin_sub, hw1, hw2, bin_geq, ifB_dec]
      refine ⟨fun c6 => ?_, fun c6 => fin (-1, 5) _ _ (by rw [if_neg c6]) h⟩
      obtain ⟨m, hm⟩ : ∃ m : Nat, (p.last.length : Int) - (p.next - en.seq) = m := ⟨((p.last.length : Int) - (p.next - en.seq)).toNat, by omega⟩
      rw [if_pos c6, hm] at fin
      rw [hm]
      have hml : m < p.last.length := by omega
      obtain ⟨a, q1, q2⟩ := rowR.at_sc hsv h sl_s_int hml sc_int (x := .int .i64 p.last[m]) rfl
      rw [q1, q2]
      refine fin (p.last[m], 5) _ _ ?_ h
      rw [Int.toNat_natCast, List.getD_eq_getElem?_getD, List.getElem?_eq_getElem hml]
      rfl
    simp -zeta only [h.ld 2 rfl sc_int (o := 1) rfl, h.ld 2 rfl sc_int (o := 2) rfl, h.ld 0 rfl sc_int (o := 2) rfl, h.ld 0 rfl sc_int (o := 3) rfl, bin_lss, bin_gtr, bin_eql, ifB_dec]
    refine ⟨fun c1 => fin (0, 18) _ _ (by rw [if_pos c1]) h, fun c1 => ⟨fun c2 => fin (0, 25) _ _ (by rw [if_neg c1, if_pos c2]) h, fun c2 => ⟨fun c3 => fin (0, 19) _ _ (by rw [if_neg c1, if_neg c2, if_pos c3]) h, fun c3 => ?_⟩⟩⟩
    rw [un_not, ifB_not, ifB_bool]
    refine ⟨fun c4 => ?_, fun c4 => ?_⟩
    · have c4' : ¬ (hasP (prs L) en.producer = false ∧ 50 ≤ (prs L).length) := fun hh => by rw [c4] at hh; cases hh.1
      exact ⟨fun c5 => fin (0, 0) _ _ (by rw [if_neg c1, if_neg c2, if_neg c3, if_neg c4', if_pos c5]) h, fun c5 => hJ c1 c2 c3 c4' c5⟩
    · simp -zeta only [rowR.len r sl_s_api_Producer, bin_geq, ifB_dec]
      refine ⟨fun c5 => fin (0, 6) _ _ (by rw [if_neg c1, if_neg c2, if_neg c3, if_pos ⟨c4, by omega⟩]) h, fun c5 => ?_⟩
      have c4' : ¬ (hasP (prs L) en.producer = false ∧ 50 ≤ (prs L).length) := fun hh => c5 (by omega)
      exact ⟨fun c6 => fin (0, 0) _ _ (by rw [if_neg c1, if_neg c2, if_neg c3, if_neg c4', if_pos c6]) h, fun c6 => hJ c1 c2 c3 c4' c6⟩
end
end Go.Proofs.YtefinemhfgdpdaaGreatDoor
/-
  clone. No condition.
-/
namespace Go.Proofs.YtefinemhfgdpdaaGreatDoor
open Go.RowKit
set_option maxRecDepth 100000

theorem rowR.cells {α : Type} [Enc α] {B : Base} {l : List α} {g n cap : Nat} (h : rowR (.slice (some ⟨g, 0, none⟩) n cap) l B) {i : Nat} (hi : i < l.length) : cellsR g (i * Enc.sz α) (Enc.cells l[i]) B := by
  obtain ⟨a, cap', e, hc, h⟩ := h
  rcases h with rfl | ⟨g', o', ha, h1, h2, h3⟩
  · simp at hi
  · subst ha
    injection e with e1 e2 e3
    injection e1 with e1
    injection e1 with e1 e4 e5
    subst e1 e4
    refine ⟨h1, h2, fun j u hj => ?_⟩
    have := h3 _ _ (flat_get hi hj)
    rw [Nat.zero_add] at this
    exact this
def prEnt (p : Pr × SV) : Dat := rowD T_int p.2.1 p.1.last

section
variable {B : Base} {w : World}
theorem clone_m {v : Value} {L : PrL} (r : rowR v (praws L) B) (q : prows L B) (hl : L.length ≤ 1000000) (hq : ∀ p ∈ L, p.1.last.length ≤ 1000000) :
    Makes Tryz.prog B (sCall F_producer_clone #[v]) fun u τ => ∃ (g : Nat) (L' : PrL), prs L' = prs L ∧ u = .slice (some ⟨g, 0, none⟩) L'.length L'.length ∧ τ = [rowD T_api_Producer u (praws L'), prows L'] := by
  refine Makes.intro fun B' w K base h k => ?_
  replace r := base r
  replace q := base q
  have hal : ∀ L : PrL, (praws L).length = L.length := fun L => List.length_map ..
  refine producer_clone.up (producer_clone.call ?_)
  unfold producer_clone.pt
  simp -zeta only [rowR.len r sl_s_api_Producer]
  rw [hal]
  refine h.mkSliceV (⟨0, 0, 0, nilSV⟩ : PrD) sl_s_api_Producer (by kernel_rfl) (by omega) (by omega) fun g w1 h => ?_
  refine h.copyPart 0 (l2 := praws L) (n := L.length) (lo := 0) rfl sl_s_api_Producer (Rd.base r) (Nat.zero_le _) (.inl (by rw [Nat.zero_mul])) fun w2 h => ?_
  have e0 : (List.replicate L.length (⟨0, 0, 0, nilSV⟩ : PrD)).take 0 ++ (praws L).take ((List.replicate L.length (⟨0, 0, 0, nilSV⟩ : PrD)).length - 0) ++ (List.replicate L.length (⟨0, 0, 0, nilSV⟩ : PrD)).drop (0 + ((praws L).take ((List.replicate L.length (⟨0, 0, 0, nilSV⟩ : PrD)).length - 0)).length) = praws L := by
    have e1 : (praws L).take ((List.replicate L.length (⟨0, 0, 0, nilSV⟩ : PrD)).length - 0) = praws L := List.take_of_length_le (by rw [hal]; simp)
    rw [e1, List.take_zero, List.nil_append, List.drop_of_length_le (by rw [hal]; simp), List.append_nil]
  have h : Rel B' w2 [rowD T_api_Producer (.slice (some ⟨g, 0, none⟩) L.length L.length) ((List.replicate L.length (⟨0, 0, 0, nilSV⟩ : PrD)).take 0 ++ (praws L).take ((List.replicate L.length (⟨0, 0, 0, nilSV⟩ : PrD)).length - 0) ++ (List.replicate L.length (⟨0, 0, 0, nilSV⟩ : PrD)).drop (0 + ((praws L).take ((List.replicate L.length (⟨0, 0, 0, nilSV⟩ : PrD)).length - 0)).length))] := h
  rw [e0] at h
  have hr := rowD.read (h.here (i := 0) rfl)
  simp -zeta only [rowR.len hr sl_s_api_Producer]
  rw [hal]
  clear hr e0
  refine LOOP_intro (fun x w' => ∃ (i : Nat) (L' : PrL), i ≤ L.length ∧ L'.length = i ∧ prs L' = (prs L).take i ∧ x = (.int .i64 i, ()) ∧ Rel B' w' (rowD T_api_Producer (.slice (some ⟨g, 0, none⟩) L.length L.length) (praws (L' ++ L.drop i)) :: L'.map prEnt)) (fun x _ => L.length - (match x.1 with | .int _ n => n.toNat | _ => 0))
    ⟨0, [], Nat.zero_le _, rfl, rfl, rfl, h⟩ ?_
  clear h
  rintro x w3 ⟨i, L', hi, hl', hp, rfl, h⟩ next hnext
  simp -zeta only [bin_lss, ifB_dec]
  have hlen : (L' ++ L.drop i).length = L.length := by rw [List.length_append, List.length_drop]; omega
  refine ⟨fun hlt => ?_, fun hge => ?_⟩
  · have hil : i < L.length := by omega
    have hr := rowD.read (h.here (i := 0) rfl)
    have hel : (praws (L' ++ L.drop i))[i]'(by rw [hal, hlen]; exact hil) = L[i].1.raw L[i].2 := by
      simp [praws, List.getElem_append_right (show L'.length ≤ i by omega), hl']
    have hc := rowR.cells hr (i := i) (by rw [hal, hlen]; exact hil)
    rw [hel] at hc
    have hc : (cellsR g (i * Enc.sz PrD) (L[i].1.raw L[i].2).cs).here w3 := hc
    have hrow := q L[i] (List.getElem_mem hil)
    have hql := hq L[i] (List.getElem_mem hil)
    simp -zeta only [idx_own (α := PrD) (P := Tryz.prog) (g := g) (cap := L.length) (n := L.length) (i := i) sl_s_api_Producer hil, field_addr f_api_Producer_3, cellsR.ld hc sc_s_int (j := 3) rfl]
    refine h.make (fun B2 own base2 => gslices_Clone_s_int_int (base2 hrow) (by omega) (by omega)) fun v' τ w4 hp2 h => ?_
    subst hp2
    have h1 : v'.oneCell' = true := h.oneCell (i := (rowD T_api_Producer (.slice (some ⟨g, 0, none⟩) L.length L.length) (praws (L' ++ L.drop i)) :: L'.map prEnt).length) get_last
    refine h.set_sc 0 (j := i) (f := 3) rfl (L[i].1.raw ⟨v', h1⟩) (by rw [hal, hlen]; exact hil) rfl (by decide) (by rw [hel]; rfl) sc_s_int h1 fun w5 h => ?_
    rw [bin_add, wrap_id (by omega) (by omega)]
    refine hnext _ _ ⟨i + 1, L' ++ [(L[i].1, ⟨v', h1⟩)], by omega, by simp [hl'], ?_, rfl, ?_⟩ (by simp only; omega)
    · have : (prs L).take (i + 1) = (prs L).take i ++ [L[i].1] := by
        rw [List.take_succ_eq_append_getElem (by simpa using hil)]
        simp
      rw [this, ← hp]
      simp
    · have e : (praws (L' ++ L.drop i)).set i (L[i].1.raw ⟨v', h1⟩) = praws (L' ++ [(L[i].1, ⟨v', h1⟩)] ++ L.drop (i + 1)) := by
        have hd : L.drop i = L[i] :: L.drop (i + 1) := List.drop_eq_getElem_cons hil
        have hl2 : (praws L').length = i := by rw [hal, hl']
        unfold praws at hl2 ⊢
        rw [hd, List.map_append, List.set_append_right _ _ (by omega), hl2, Nat.sub_self, List.map_cons, List.set_cons_zero]
        simp
      have h : Rel B' w5 (rowD T_api_Producer (.slice (some ⟨g, 0, none⟩) L.length L.length) ((praws (L' ++ L.drop i)).set i (L[i].1.raw ⟨v', h1⟩)) :: L'.map prEnt ++ [rowD T_int v' L[i].1.last]) := h
      rw [e] at h
      simpa [prEnt] using h
  · have hie : i = L.length := by omega
    subst hie
    rw [List.drop_length, List.append_nil] at h
    rw [List.take_of_length_le (by simp)] at hp
    have h := Rel.gather (σ := [rowD T_api_Producer (.slice (some ⟨g, 0, none⟩) L.length L.length) (praws L')]) (g := fun p : Pr × SV => rowR p.2.1 p.1.last) h fun x _ B hx => rowD.read hx
    exact k _ _ _ ⟨g, L', hp, by rw [hl'], rfl⟩ h
end
end Go.Proofs.YtefinemhfgdpdaaGreatDoor
/-
  slices.Insert of one element where there is no room; slices.BinarySearchFunc. No condition.
-/
namespace Go.Proofs.YtefinemhfgdpdaaGreatDoor
open Go.RowKit
set_option maxRecDepth 100000

section
variable {B : Base} {w : World}
theorem insert_m {l : List PrD} {x : PrD} {v2 : Value} {g r : Nat} (rd : rowR (.slice (some ⟨g, 0, none⟩) l.length l.length) l B) (rd2 : rowR v2 [x] B) (hr : r ≤ l.length) (hl : l.length ≤ 1000000) :
    Makes Tryz.prog B (sCall F_slices_Insert_s_api_Producer_api_Producer #[.slice (some ⟨g, 0, none⟩) l.length l.length, .int .i64 r, v2]) fun u τ => τ = [rowD T_api_Producer u (l.take r ++ x :: l.drop r)] := by
  refine Makes.intro fun B' w K base h k => ?_
  replace rd := base rd
  replace rd2 := base rd2
  refine slices_Insert_s_api_Producer_api_Producer.up (slices_Insert_s_api_Producer_api_Producer.call ?_)
  unfold slices_Insert_s_api_Producer_api_Producer.pt
  have hw1 : IntKind.i64.wrap ((l.length : Int) + ((1 : Nat) : Int)) = ((l.length + 1 : Nat) : Int) := by rw [wrap_id (by omega) (by omega)]; omega
  rw [rowR.cutE rd sl_s_api_Producer (lo := r) (hi := l.length) Bnd.some Bnd.none hr (Nat.le_refl _)]
  simp -zeta only [rowR.len rd2 sl_s_api_Producer, rowR.len rd sl_s_api_Producer, List.length_cons, List.length_nil, Nat.zero_add, bin_eql, ifB_dec]
  refine ⟨fun e => absurd e (by omega), fun _ => ⟨fun e => ?_, fun e => ?_⟩⟩
  · have e : r = l.length := by omega
    subst e
    refine h.grow (l := l) (l2 := [x]) sl_s_api_Producer rfl (Rd.base rd) (Rd.base rd2) (by simp) (by simp; omega) (by simp; omega) fun u w1 h => ?_
    refine k _ _ _ ?_ h
    rw [List.take_length, List.drop_length]
    rfl
  · have hlt : r < l.length := by omega
    simp -zeta only [bin_add, hw1, cap_slice U_s_api_Producer, bin_gtr, ifB_dec]
    refine ⟨fun _ => ?_, fun hh => absurd (by omega) hh⟩
    have hw2 : IntKind.i64.wrap (((l.length + 1 : Nat) : Int) - (r : Int)) = ((l.length + 1 - r : Nat) : Int) := by rw [wrap_id (by omega) (by omega)]; omega
    have hw3 : IntKind.i64.wrap ((r : Int) + ((1 : Nat) : Int)) = ((r + 1 : Nat) : Int) := by rw [wrap_id (by omega) (by omega)]; omega
    rw [rowR.cutE rd sl_s_api_Producer (lo := 0) (hi := r) Bnd.none Bnd.some (Nat.zero_le _) hr]
    simp -zeta only [bin_sub, hw2, hw3]
    have rd0 : rowR (cutV (Enc.sz PrD) (.slice (some ⟨g, 0, none⟩) l.length l.length) 0 r) (l.take r) B' := by
      have := rowR.cutR rd (lo := 0) (hi := r) (Nat.zero_le _) hr
      rw [List.drop_zero] at this
      exact this
    have hcv : cutV (Enc.sz PrD) (.slice (some ⟨g, 0, none⟩) l.length l.length) 0 r = .slice (if l.length = 0 then (some ⟨g, 0, none⟩ : Option Addr) else (some (⟨g, 0, none⟩ : Addr)).map (·.add (0 * Enc.sz PrD))) (l.take r).length l.length := by
      have : (l.take r).length = r := by rw [List.length_take]; omega
      rw [this]
      rfl
    have htr : (l.take r).length = r := by rw [List.length_take]; omega
    refine h.appendZeros (l := l.take r) sl_s_api_Producer U_int hcv (Rd.base rd0) (⟨0, 0, 0, nilSV⟩ : PrD) (by kernel_rfl) (m := l.length + 1 - r) (by omega) (by omega) (by omega) (by omega) fun g2 cp w2 hcp h => ?_
    have hn : (l.take r).length + (l.length + 1 - r) = l.length + 1 := by omega
    rw [hn] at h hcp ⊢
    generalize hl0 : l.take r ++ List.replicate (l.length + 1 - r) (⟨0, 0, 0, nilSV⟩ : PrD) = l0 at h
    have hl0n : l0.length = l.length + 1 := by rw [← hl0, List.length_append, List.length_replicate]; omega
    have hr2 := rowD.read (h.here (i := 0) rfl)
    rw [← hl0n] at hr2
    have cut2 : ∀ (lo : Nat) (lov : Option Value), Bnd lov 0 lo → lo < l.length + 1 → ∀ {Kp : Value → Prop}, pureK Tryz.prog (sSlice T_s_api_Producer (.slice (some ⟨g2, 0, none⟩) (l.length + 1) cp) lov none none) Kp = Kp (.slice (some ⟨g2, lo * Enc.sz PrD, none⟩) (l.length + 1 - lo) (cp - lo)) := by
      intro lo lov hb hlo Kp
      rw [pureK_eq fun w => slice_run (α := PrD) (lo := lo) (hi := l.length + 1) sl_s_api_Producer hb Bnd.none (by omega) hcp w]
      rw [if_neg (by omega)]
      simp [addr_add]
    rw [cut2 r _ Bnd.some (by omega)]
    refine h.copyPart 0 (l := l0) (l2 := [x]) (n := l.length + 1) (lo := r) rfl sl_s_api_Producer (Rd.base rd2) (by omega) (.inl rfl) fun w3 h => ?_
    rw [cut2 (r + 1) _ Bnd.some (by omega), rowR.cutE rd sl_s_api_Producer (lo := r) (hi := l.length) Bnd.some Bnd.none hr (Nat.le_refl _)]
    have rd3 : rowR (cutV (Enc.sz PrD) (.slice (some ⟨g, 0, none⟩) l.length l.length) r l.length) (l.drop r) B' := by
      have := rowR.cutR rd (lo := r) (hi := l.length) hr (Nat.le_refl _)
      rw [List.take_length] at this
      exact this
    have e1 : l0.take r ++ [x].take (l0.length - r) ++ l0.drop (r + ([x].take (l0.length - r)).length) = l.take r ++ [x] ++ List.replicate (l.length - r) (⟨0, 0, 0, nilSV⟩ : PrD) := by
      have hx : [x].take (l0.length - r) = [x] := List.take_of_length_le (by simp; omega)
      rw [hx, ← hl0, List.take_append_of_le_length (by omega), List.take_of_length_le (by omega), List.drop_append, List.drop_of_length_le (by simp; omega), List.nil_append, List.drop_replicate]
      congr 2
      simp
      omega
    have h : Rel B' w3 [rowD T_api_Producer (.slice (some ⟨g2, 0, none⟩) (l.length + 1) cp) (l0.take r ++ [x].take (l0.length - r) ++ l0.drop (r + ([x].take (l0.length - r)).length))] := h
    rw [e1] at h
    have hl1 : (l.take r ++ [x] ++ List.replicate (l.length - r) (⟨0, 0, 0, nilSV⟩ : PrD)).length = l.length + 1 := by simp; omega
    have h := h.tick
    refine h.copyPart 0 (l := l.take r ++ [x] ++ List.replicate (l.length - r) (⟨0, 0, 0, nilSV⟩ : PrD)) (l2 := l.drop r) (n := l.length + 1) (lo := r + 1) rfl sl_s_api_Producer (Rd.base rd3) (by omega) (.inl rfl) fun w4 h => ?_
    generalize hY : l.take r ++ [x] ++ List.replicate (l.length - r) (⟨0, 0, 0, nilSV⟩ : PrD) = Y at h hl1
    have hd : (l.drop r).take (Y.length - (r + 1)) = l.drop r := List.take_of_length_le (by rw [hl1, List.length_drop]; omega)
    have a1 : Y.take (r + 1) = l.take r ++ [x] := by
      rw [← hY, List.take_append_of_le_length (by simp; omega), List.take_of_length_le (by simp; omega)]
    have a2 : Y.drop (r + 1 + (l.drop r).length) = [] := List.drop_of_length_le (by rw [hl1, List.length_drop]; omega)
    have h : Rel B' w4 [rowD T_api_Producer (.slice (some ⟨g2, 0, none⟩) (l.length + 1) cp) (Y.take (r + 1) ++ (l.drop r).take (Y.length - (r + 1)) ++ Y.drop (r + 1 + ((l.drop r).take (Y.length - (r + 1))).length))] := h
    rw [hd, a1, a2, List.append_nil, List.append_assoc] at h
    exact k _ _ _ rfl h

theorem with1_g (x : PrD) (id : Int) (h1 : -4611686018427387904 ≤ x.id ∧ x.id ≤ 4611686018427387903) (h2 : -4611686018427387904 ≤ id ∧ id ≤ 4611686018427387903) : Gives Tryz.prog B (sCallV (.func (.func F_producer_with_1) #[] #[]) #[Enc.val x, .int .i64 id]) (.int .i64 (x.id - id)) := by
  refine Gives.intro fun B' w K base h k => ?_
  refine call_v ?_
  refine producer_with_1.up (x0 := x.v) (id1 := .int .i64 id) (producer_with_1.call ?_)
  unfold producer_with_1.pt
  refine h.box fun b2 w1 h => ?_
  have h : Rel B' w1 [cellD b2 T_api_Producer x.cs.toArray] := h
  simp -zeta only [field_addr f_api_Producer_0, Nat.add_zero, h.ld 0 rfl sc_int (o := 0) rfl, bin_sub]
  rw [wrap_id (by omega) (by omega)]
  exact k _ _ h

theorem bs_g {v : Value} {L : PrL} {id : Int} {r : Nat} (rd : rowR v (praws L) B) (hl : L.length ≤ 1000000) (hb : ∀ p ∈ L, 0 ≤ p.1.id ∧ p.1.id ≤ 1099511627776) (hid : 0 ≤ id ∧ id ≤ 1099511627776) (hr : r ≤ L.length)
    (h1 : ∀ i (h : i < L.length), i < r → L[i].1.id < id) (h2 : ∀ i (h : i < L.length), r ≤ i → id ≤ L[i].1.id) {f : Bool} (hf : f = true ↔ ∃ h : r < L.length, L[r].1.id = id) :
    Gives Tryz.prog B (sCall F_slices_BinarySearchFunc_s_api_Producer_api_Producer_int #[v, .int .i64 id, .func (.func F_producer_with_1) #[] #[]]) (.tuple #[.int .i64 r, .bool f]) := by
  refine Gives.intro fun B' w K base h k => ?_
  replace rd := base rd
  have hal : (praws L).length = L.length := List.length_map ..
  have hel : ∀ i (h : i < L.length), (praws L)[i]'(by omega) = L[i].1.raw L[i].2 := fun i h => by simp [praws]
  refine slices_BinarySearchFunc_s_api_Producer_api_Producer_int.up (slices_BinarySearchFunc_s_api_Producer_api_Producer_int.call ?_)
  unfold slices_BinarySearchFunc_s_api_Producer_api_Producer_int.pt
  simp -zeta only [rowR.len rd sl_s_api_Producer]
  rw [hal]
  refine LETJ_intro fun J hJ => ?_
  replace hJ : ∀ w', Rel B' w' [] → J (.int .i64 r, ()) w' := by
    intro w1 h
    refine hJ _ _ ?_
    clear hJ
    dsimp only
    simp -zeta only [bin_lss, ifB_dec]
    refine ⟨fun hlt => ?_, fun hge => ?_⟩
    · have hrl : r < L.length := by omega
      obtain ⟨g, o, hx, hc⟩ := rowR.idx rd sl_s_api_Producer (P := Tryz.prog) (i := r) (by omega)
      rw [hel r hrl] at hc
      have hc : cellsR g o (L[r].1.raw L[r].2).cs B' := hc
      simp -zeta only [hx, cellsR.ldAg (h.hereB hc) ag_api_Producer rfl]
      have hbr := hb L[r] (List.getElem_mem hrl)
      refine h.ask (fun B2 own base2 => with1_g (L[r].1.raw L[r].2) id (by show -4611686018427387904 ≤ L[r].1.id ∧ L[r].1.id ≤ _; omega) (by omega)) fun w2 h => ?_
      rw [bin_eql]
      have : decide (L[r].1.id - id = 0) = f := by
        rw [Bool.eq_iff_iff, decide_eq_true_iff, hf]
        exact ⟨fun e => ⟨hrl, by omega⟩, fun ⟨_, e⟩ => by omega⟩
      have e2 : ((L[r].1.raw L[r].2).id - id = 0) = (L[r].1.id - id = 0) := rfl
      rw [show decide ((L[r].1.raw L[r].2).id - id = 0) = f from this]
      exact k _ _ h
    · have : f = false := by
        cases hfv : f
        · rfl
        · obtain ⟨hlt, _⟩ := hf.1 hfv
          omega
      rw [this] at k
      exact k _ _ h
  refine LOOP_intro (fun x w' => ∃ i j : Nat, i ≤ r ∧ r ≤ j ∧ j ≤ L.length ∧ x = (.int .i64 i, .int .i64 j, ()) ∧ Rel B' w' []) (fun x _ => (match x.2.1 with | .int _ n => n.toNat | _ => 0) - (match x.1 with | .int _ n => n.toNat | _ => 0))
    ⟨0, L.length, Nat.zero_le _, hr, Nat.le_refl _, rfl, h⟩ ?_
  clear h
  rintro x w1 ⟨i, j, hi, hj, hjn, rfl, h⟩ next hnext
  simp -zeta only [bin_lss, ifB_dec]
  refine ⟨fun hlt => ?_, fun hge => ?_⟩
  · simp -zeta only [bin_add]
    rw [wrap_id (by omega) (by omega), conv_int U_int U_uint, IntWalk.u64_in _ ⟨by omega, by omega⟩, bin_shr (by omega)]
    have e2 : ((i : Int) + j).fdiv (2 ^ min (Int.toNat 1) (IntKind.bits .u64)) = (((i + j) / 2 : Nat) : Int) := by
      have : (2 : Int) ^ min (Int.toNat 1) (IntKind.bits .u64) = 2 := by decide
      rw [this, Int.fdiv_eq_ediv_of_nonneg _ (by omega)]
      omega
    rw [e2, conv_int U_uint U_int, wrap_id (by omega) (by omega)]
    have hml : (i + j) / 2 < L.length := by omega
    obtain ⟨g, o, hx, hc⟩ := rowR.idx rd sl_s_api_Producer (P := Tryz.prog) (i := (i + j) / 2) (by omega)
    rw [hel _ hml] at hc
    have hc : cellsR g o (L[(i + j) / 2].1.raw L[(i + j) / 2].2).cs B' := hc
    simp -zeta only [hx, cellsR.ldAg (h.hereB hc) ag_api_Producer rfl]
    have hbr := hb L[(i + j) / 2] (List.getElem_mem hml)
    refine h.ask (fun B2 own base2 => with1_g (L[(i + j) / 2].1.raw L[(i + j) / 2].2) id (by show -4611686018427387904 ≤ L[(i + j) / 2].1.id ∧ L[(i + j) / 2].1.id ≤ _; omega) (by omega)) fun w2 h => ?_
    rw [bin_lss, ifB_dec]
    refine ⟨fun e => ?_, fun e => ?_⟩
    · have e : L[(i + j) / 2].1.id - id < 0 := e
      rw [bin_add, wrap_id (by omega) (by omega)]
      refine hnext _ _ ⟨(i + j) / 2 + 1, j, ?_, hj, hjn, rfl, h⟩ (by simp only; omega)
      refine Nat.lt_of_not_le fun hle => ?_
      have := h2 _ hml hle
      omega
    · have e : ¬ L[(i + j) / 2].1.id - id < 0 := e
      refine hnext _ _ ⟨i, (i + j) / 2, hi, ?_, by omega, rfl, h⟩ (by simp only; omega)
      refine Nat.le_of_not_lt fun hlt2 => ?_
      have := h1 _ hml hlt2
      omega
  · have : i = r := by omega
    subst this
    exact hJ _ h
end
end Go.Proofs.YtefinemhfgdpdaaGreatDoor
/-
  with, Put, Fence. No condition.
-/
namespace Go.Proofs.YtefinemhfgdpdaaGreatDoor
open Go.RowKit
set_option maxRecDepth 100000

def cntLt (s : List Pr) (id : Int) : Nat := (s.takeWhile fun p => decide (p.id < id)).length
theorem cnt_le (s : List Pr) (id : Int) : cntLt s id ≤ s.length := (List.takeWhile_prefix _).length_le
theorem cnt_cons (a : Pr) (s : List Pr) (id : Int) : cntLt (a :: s) id = if a.id < id then cntLt s id + 1 else 0 := by
  unfold cntLt
  by_cases h : a.id < id
  · rw [List.takeWhile_cons_of_pos (by simpa using h), if_pos h]; rfl
  · rw [List.takeWhile_cons_of_neg (by simpa using h), if_neg h]; rfl
theorem cnt_lt {s : List Pr} {id : Int} {i : Nat} (hi : i < cntLt s id) (h : i < s.length) : s[i].id < id := by
  induction s generalizing i with
  | nil => cases h
  | cons a s ih =>
    rw [cnt_cons] at hi
    split at hi
    · rename_i ha
      cases i with
      | zero => exact ha
      | succ i => exact ih (by omega) (by simpa using h)
    · omega
theorem cnt_stop {s : List Pr} {id : Int} (h : cntLt s id < s.length) : ¬ s[cntLt s id].id < id := by
  induction s with
  | nil => cases h
  | cons a s ih =>
    by_cases ha : a.id < id
    · have e : cntLt (a :: s) id = cntLt s id + 1 := by rw [cnt_cons, if_pos ha]
      have h' : cntLt s id < s.length := by rw [e] at h; simpa using h
      have := ih h'
      simp only [e, List.getElem_cons_succ]
      exact this
    · have e : cntLt (a :: s) id = 0 := by rw [cnt_cons, if_neg ha]
      simp only [e, List.getElem_cons_zero]
      exact ha
theorem asc_lt {s : List Pr} (hs : ∀ i (h : i < s.length), 0 < i → s[i - 1].id < s[i].id) {i j : Nat} (hij : i < j) (hj : j < s.length) : s[i].id < s[j].id := by
  induction j with
  | zero => omega
  | succ j ih =>
    have h1 := hs (j + 1) hj (by omega)
    have h1 : s[j].id < s[j + 1].id := h1
    by_cases e : i = j
    · subst e; exact h1
    · exact Int.lt_trans (ih (by omega) (by omega)) h1
theorem cnt_ge {s : List Pr} (hs : ∀ i (h : i < s.length), 0 < i → s[i - 1].id < s[i].id) {id : Int} {i : Nat} (hi : cntLt s id ≤ i) (h : i < s.length) : id ≤ s[i].id := by
  have hlt : cntLt s id < s.length := by omega
  have h0 : ¬ s[cntLt s id].id < id := cnt_stop hlt
  by_cases e : i = cntLt s id
  · subst e; omega
  · have := asc_lt hs (i := cntLt s id) (j := i) (by omega) h
    omega
def withS (s : List Pr) (p : Pr) : List Pr := if hasP s p.id = true then s.set (cntLt s p.id) p else s.take (cntLt s p.id) ++ p :: s.drop (cntLt s p.id)
theorem has_iff {s : List Pr} (hs : ∀ i (h : i < s.length), 0 < i → s[i - 1].id < s[i].id) {id : Int} : hasP s id = true ↔ ∃ h : cntLt s id < s.length, s[cntLt s id].id = id := by
  constructor
  · intro h
    obtain ⟨h1, h2⟩ := getP_mem h
    obtain ⟨j, hj, e⟩ := List.getElem_of_mem h1
    have hej : s[j].id = id := by rw [e]; exact h2
    have hle : cntLt s id ≤ j := Nat.le_of_not_lt fun hlt => by have := cnt_lt hlt hj; omega
    have hlt : cntLt s id < s.length := by omega
    refine ⟨hlt, ?_⟩
    have h3 := cnt_ge hs (Nat.le_refl _) hlt
    by_cases ej : cntLt s id = j
    · simp only [ej]; exact hej
    · have := asc_lt hs (i := cntLt s id) (j := j) (by omega) hj
      omega
  · rintro ⟨h, e⟩
    unfold hasP
    rw [List.find?_isSome]
    exact ⟨_, List.getElem_mem h, decide_eq_true e⟩

/-- A table that can be read. -/
def tabD (u : Value) (s : List Pr) : Dat := ⟨fun B => ∃ L : PrL, prs L = s ∧ rowR u (praws L) B ∧ prows L B, fun hl ⟨L, h1, h2, h3⟩ => ⟨L, h1, Dat.mono _ hl h2, Dat.mono _ hl h3⟩⟩
/-- What was made is a table of one's own. -/
def OwnTab (u : Value) (s : List Pr) (τ : List Dat) : Prop := ∀ (B : Base) (w : World) (σ : List Dat), Rel B w (σ ++ τ) → Rel B w (σ ++ [tabD u s])
theorem own_stars {u : Value} {s : List Pr} {τ : List Dat} (h : ∀ B, (stars τ) B → tabD u s B) : OwnTab u s τ := fun B w σ hr => by
  have h1 := (Rel.restars hr).imp (i := σ.length) (e := tabD u s) get_last h
  rw [List.set_append_right _ _ (Nat.le_refl _), Nat.sub_self, List.set_cons_zero] at h1
  exact h1
theorem Makes.imp {P : Program} {B : Base} {s : Sem Next} {post post' : Value → List Dat → Prop} (h : Makes P B s post) (hi : ∀ v τ, post v τ → post' v τ) : Makes P B s post' := fun w σ K hr k => h w σ K hr fun v τ w' hp h2 => k v τ w' (hi v τ hp) h2
def NewTab (u : Value) (s : List Pr) (τ : List Dat) : Prop := ∀ (B : Base) (w : World) (σ : List Dat), Rel B w (σ ++ τ) → ∃ (B' : Base) (L' : PrL), B.ext B' ∧ Rel B' w σ ∧ prs L' = s ∧ rowR u (praws L') B' ∧ prows L' B'

theorem OwnTab.new {u : Value} {s : List Pr} {τ : List Dat} (h : OwnTab u s τ) : NewTab u s τ := fun B w σ hr => by
  obtain ⟨B', e, h2, L, h3, h4, h5⟩ := (h B w σ hr).frz1
  exact ⟨B', L, e, h2, h3, h4, h5⟩
section
variable {B : Base} {w : World}
theorem with_m {v : Value} {L : PrL} (r : rowR v (praws L) B) (q : prows L B) (hR : RightT (prs L)) {p : Pr} {sv : SV} (hid : inP p.id) :
    Makes Tryz.prog B (sCall F_producer_with #[v, (p.raw sv).v]) fun u τ => ∃ Lc L' : PrL, prs L' = withS (prs L) p ∧ (∀ x ∈ L', x ∈ Lc ∨ x = (p, sv)) ∧ τ = [rowD T_api_Producer u (praws L'), prows Lc] := by
  refine Makes.intro fun B' w K base h k => ?_
  replace r := base r
  replace q := base q
  have hpl : ∀ L : PrL, (prs L).length = L.length := fun L => List.length_map ..
  have hal : ∀ L : PrL, (praws L).length = L.length := fun L => List.length_map ..
  have hlen := hR.len
  rw [hpl] at hlen
  refine producer_with.up (producer_with.call ?_)
  unfold producer_with.pt
  refine h.box fun b w1 h => ?_
  have h : Rel B' w1 [cellD b T_api_Producer (p.raw sv).cs.toArray] := h
  refine h.make (fun B2 own base2 => clone_m (base2 r) (base2 q) (by omega) fun x hx => by have := (hR.fine x.1 (List.mem_map_of_mem hx)).len; omega) fun u τ w2 hp h => ?_
  obtain ⟨g, Lc, hpc, rfl, rfl⟩ := hp
  have hlc : Lc.length = L.length := by rw [← hpl Lc, hpc, hpl]
  have h : Rel B' w2 [cellD b T_api_Producer (p.raw sv).cs.toArray, rowD T_api_Producer (.slice (some ⟨g, 0, none⟩) Lc.length Lc.length) (praws Lc), prows Lc] := h
  simp -zeta only [field_addr f_api_Producer_0, Nat.add_zero, h.ld 0 rfl sc_int (o := 0) rfl]
  have hget : ∀ i (h : i < Lc.length), Lc[i].1 = (prs L)[i]'(by rw [hpl]; omega) := fun i h => by
    have : (prs Lc)[i]'(by rw [hpl]; exact h) = Lc[i].1 := by simp
    rw [← this]
    simp only [hpc]
  have hcl := cnt_le (prs L) p.id
  rw [hpl] at hcl
  refine h.ask (fun B2 own base2 => bs_g (L := Lc) (id := p.id) (r := cntLt (prs L) p.id) (f := hasP (prs L) p.id) (rowD.read (own (i := 1) rfl)) (by omega)
    (fun x hx => by
      have hm : x.1 ∈ prs L := by rw [← hpc]; exact List.mem_map_of_mem hx
      exact (hR.fine _ hm).id) hid (by omega) (fun i hi hlt => by rw [hget i hi]; exact cnt_lt hlt _) (fun i hi hge => by rw [hget i hi]; exact cnt_ge hR.asc hge _) (by
        rw [has_iff hR.asc]
        constructor
        · rintro ⟨h1, h2⟩
          have h1' : cntLt (prs L) p.id < Lc.length := by rw [hpl] at h1; omega
          exact ⟨h1', by rw [hget _ h1']; exact h2⟩
        · rintro ⟨h1, h2⟩
          exact ⟨by rw [hpl]; omega, by rw [← hget _ h1]; exact h2⟩)) fun w3 h => ?_
  simp -zeta only [ext_2_0, ext_2_1]
  rw [ifB_bool]
  generalize hc : cntLt (prs L) p.id = c at hcl ⊢
  refine ⟨fun e => ?_, fun e => ?_⟩
  · have hcl2 : c < Lc.length := by
      obtain ⟨h1, _⟩ := (has_iff hR.asc).1 e
      rw [hc, hpl] at h1
      omega
    simp -zeta only [h.ldAg 0 rfl ag_api_Producer rfl, idx_own (α := PrD) (P := Tryz.prog) (g := g) (cap := Lc.length) (n := Lc.length) (i := c) sl_s_api_Producer hcl2]
    refine h.set_ag 1 (j := c) rfl (p.raw sv) (by rw [hal]; exact hcl2) ag_api_Producer rfl rfl fun w4 h => ?_
    have h := h.pick [1, 2] (by decide)
    refine k _ _ _ ⟨Lc, Lc.set c (p, sv), ?_, fun x hx => List.mem_or_eq_of_mem_set hx, rfl⟩ ?_
    · unfold withS
      rw [if_pos e, hc, ← hpc]
      exact List.map_set
    · have e2 : praws (Lc.set c (p, sv)) = (praws Lc).set c (p.raw sv) := List.map_set
      rw [e2]
      exact h
  · simp -zeta only [h.ldAg 0 rfl ag_api_Producer rfl]
    refine h.build1 (α := PrD) (p.raw sv) sl_s_api_Producer (by decide) fun v2 w4 h => ?_
    have h : Rel B' w4 [cellD b T_api_Producer (p.raw sv).cs.toArray, rowD T_api_Producer (.slice (some ⟨g, 0, none⟩) Lc.length Lc.length) (praws Lc), prows Lc, rowD T_api_Producer v2 [p.raw sv]] := h
    rw [← hal Lc] at h ⊢
    refine h.make (fun B2 own base2 => insert_m (l := praws Lc) (x := p.raw sv) (r := c) (rowD.read (own (i := 1) rfl)) (rowD.read (own (i := 3) rfl)) (by rw [hal]; omega) (by rw [hal]; omega)) fun u τ w5 hp h => ?_
    subst hp
    have h := h.pick [4, 2] (by decide)
    refine k _ _ _ ⟨Lc, Lc.take c ++ (p, sv) :: Lc.drop c, ?_, fun x hx => ?_, rfl⟩ ?_
    · unfold withS
      rw [if_neg (by rw [e]; decide), hc, ← hpc]
      simp
    · rcases List.mem_append.1 hx with hx | hx
      · exact .inl (List.mem_of_mem_take hx)
      · rcases List.mem_cons.1 hx with hx | hx
        · exact .inr hx
        · exact .inl (List.mem_of_mem_drop hx)
    · have e2 : praws (Lc.take c ++ (p, sv) :: Lc.drop c) = (praws Lc).take c ++ p.raw sv :: (praws Lc).drop c := by simp [praws]
      rw [e2]
      exact h

def fenceS (s : List Pr) (id : Int) : List Pr × Int × Int :=
  if ¬ okN id ∨ (getP s id).epoch = 1099511627776 then ([], 0, 1) else if hasP s id = false ∧ 50 ≤ s.length then ([], 0, 6) else (withS s ⟨id, (getP s id).epoch + 1, 0, []⟩, (getP s id).epoch + 1, 0)
theorem nilTab (τ : List Dat) : OwnTab (.slice none 0 0) [] τ := own_stars fun B _ => ⟨[], rfl, ⟨none, 0, rfl, Nat.le_refl _, .inl rfl⟩, fun x hx => by cases hx⟩
theorem Fence_o {v : Value} {L : PrL} (r : rowR v (praws L) B) (q : prows L B) (hR : RightT (prs L)) (id : Int) :
    Makes Tryz.prog B (sCall F_producer_Fence #[v, .int .i64 id]) fun u τ => ∃ tv, u = .tuple #[tv, .int .i64 (fenceS (prs L) id).2.1, .int .i64 (fenceS (prs L) id).2.2] ∧ OwnTab tv (fenceS (prs L) id).1 τ := by
  refine Makes.intro fun B' w K base h k => ?_
  replace r := base r
  replace q := base q
  have hpl : ∀ L : PrL, (prs L).length = L.length := fun L => List.length_map ..
  have hal : ∀ L : PrL, (praws L).length = L.length := fun L => List.length_map ..
  have hlen := hR.len
  rw [hpl] at hlen
  refine producer_Fence.up (producer_Fence.call ?_)
  unfold producer_Fence.pt
  have fin : ∀ (x : List Pr × Int × Int) tv τ w', fenceS (prs L) id = x → OwnTab tv x.1 τ → Rel B' w' τ → K (.tuple #[tv, .int .i64 x.2.1, .int .i64 x.2.2]) w' := fun x tv τ w' e hn h => k _ τ w' ⟨tv, by rw [e], by rw [e]; exact hn⟩ h
  clear k
  unfold fenceS at fin
  obtain ⟨sv, hsv, hfind⟩ := find_g r q (by omega) id
  refine hfind _ _ _ h fun w1 h => ?_
  simp -zeta only [ext_2_0, ext_2_1]
  have hsm := getP_small hR (id := id)
  generalize getP (prs L) id = p at *
  refine h.allocAg (ds := (p.raw sv).cs.toArray) z_api_Producer rfl ag_api_Producer rfl (fun v hv => Enc.one (p.raw sv) v hv) fun o w3 h => ?_
  have h : Rel B' w3 [cellD o T_api_Producer (p.raw sv).cs.toArray] := h
  refine LETJ_intro fun J hJ => ?_
  replace hJ : okN id → ¬ p.epoch = 1099511627776 → ¬ (hasP (prs L) id = false ∧ 50 ≤ (prs L).length) → ∀ w', Rel B' w' [cellD o T_api_Producer (p.raw sv).cs.toArray] → J () w' := by
    intro c1 c2 c3 w4 h
    refine hJ _ _ ?_
    clear hJ
    rw [if_neg (fun hh => hh.elim (fun a => a c1) c2), if_neg c3] at fin
    simp -zeta only [field_addr f_api_Producer_1, Nat.zero_add, h.ld 0 rfl sc_int (o := 1) rfl, bin_add]
    rw [wrap_id (by omega) (by omega), bd_api_Producer_0_1]
    refine h.stAll 0 (ds := (⟨id, p.epoch + 1, 0, nilSV⟩ : PrD).cs.toArray) rfl ag_api_Producer rfl rfl (fun v hv => Enc.one (⟨id, p.epoch + 1, 0, nilSV⟩ : PrD) v hv) fun w5 h => ?_
    have h := h.tick
    have h : Rel B' (tick w5) [cellD o T_api_Producer (⟨id, p.epoch + 1, 0, nilSV⟩ : PrD).cs.toArray] := h
    simp -zeta only [h.ldAg 0 rfl ag_api_Producer rfl, h.ld 0 rfl sc_int (o := 1) rfl]
    refine h.make (fun B2 own base2 => with_m (p := ⟨id, p.epoch + 1, 0, []⟩) (sv := nilSV) (base2 r) (base2 q) hR ⟨c1.1, by have := c1.2; show id ≤ _; omega⟩) fun u τ w6 hp h => ?_
    obtain ⟨Lc, L', hp, hm, rfl⟩ := hp
    refine ⟨h.is 0 rfl sc_int (o := 1) rfl, ?_⟩
    refine fin (withS (prs L) ⟨id, p.epoch + 1, 0, []⟩, p.epoch + 1, 0) u [rowD T_api_Producer u (praws L'), prows Lc] _ rfl ?_ (h.pick [1, 2] (by decide))
    refine own_stars fun B3 hB3 => ⟨L', hp, rowD.read (Dat.star.left hB3), fun x hx => ?_⟩
    rcases hm x hx with hx | rfl
    · exact (Dat.star.left (Dat.star.right hB3) : prows Lc B3) x hx
    · exact ⟨none, 0, rfl, Nat.le_refl _, .inl rfl⟩
  refine h.ask (fun B2 own base2 => in_g id) fun w4 h => ?_
  rw [un_not, ifB_not, ifB_dec]
  refine ⟨fun c1 => ?_, fun c1 => fin ([], 0, 1) _ _ _ (by rw [if_pos (.inl fun hh => c1 ⟨hh.1, by have := hh.2; omega⟩)]) (nilTab []) h.nil⟩
  simp -zeta only [bin_eql, ifB_dec]
  refine ⟨fun c2 => fin ([], 0, 1) _ _ _ (by rw [if_pos (.inl fun hh => by have := hh.2; omega)]) (nilTab []) h.nil, fun c2 => ?_⟩
  have c1 : okN id := ⟨c1.1, by have := c1.2; omega⟩
  simp -zeta only [field_addr f_api_Producer_1, Nat.zero_add, h.ld 0 rfl sc_int (o := 1) rfl, bin_eql, ifB_dec]
  refine ⟨fun c3 => fin ([], 0, 1) _ _ _ (by rw [if_pos (.inr c3)]) (nilTab []) h.nil, fun c3 => ?_⟩
  rw [un_not, ifB_not, ifB_bool]
  refine ⟨fun c4 => hJ c1 c3 (fun hh => by rw [c4] at hh; cases hh.1) _ h, fun c4 => ?_⟩
  simp -zeta only [rowR.len r sl_s_api_Producer, bin_geq, ifB_dec]
  rw [hal]
  exact ⟨fun c5 => fin ([], 0, 6) _ _ _ (by rw [if_neg (fun hh => hh.elim (fun a => a c1) c3), if_pos ⟨c4, by rw [hpl]; omega⟩]) (nilTab []) h.nil, fun c5 => hJ c1 c3 (fun hh => c5 (by have := hh.2; rw [hpl] at this; omega)) _ h⟩
theorem Fence_m {v : Value} {L : PrL} (r : rowR v (praws L) B) (q : prows L B) (hR : RightT (prs L)) (id : Int) :
    Makes Tryz.prog B (sCall F_producer_Fence #[v, .int .i64 id]) fun u τ => ∃ tv, u = .tuple #[tv, .int .i64 (fenceS (prs L) id).2.1, .int .i64 (fenceS (prs L) id).2.2] ∧ NewTab tv (fenceS (prs L) id).1 τ :=
  (Fence_o r q hR id).imp fun _ _ ⟨tv, h1, h2⟩ => ⟨tv, h1, h2.new⟩
end
end Go.Proofs.YtefinemhfgdpdaaGreatDoor
/-
  Put. No condition.
-/
namespace Go.Proofs.YtefinemhfgdpdaaGreatDoor
open Go.RowKit
set_option maxRecDepth 100000

def putP (p : Pr) (pos : Int) : Pr := ⟨p.id, p.epoch, p.next + 1, (p.last ++ [pos]).drop ((p.last ++ [pos]).length - 20)⟩
def putS (s : List Pr) (id e q pos : Int) : List Pr :=
  if (lookS s id e q).2 ≠ 0 then s else if ¬ inP pos then s else if 0 < (getP s id).last.length ∧ pos ≤ (getP s id).last.getD ((getP s id).last.length - 1) 0 then s else withS s (putP (getP s id) pos)
theorem getP_id (s : List Pr) (id : Int) : (getP s id).id = id := by
  cases e : hasP s id
  · rw [(getP_none e).1]
  · exact (getP_mem e).2
theorem look_ok {s : List Pr} {id e q : Int} (h : (lookS s id e q).2 = 0) : (okN id ∧ okN e ∧ okN q) ∧ e = (getP s id).epoch ∧ q = (getP s id).next ∧ ¬ (hasP s id = false ∧ 50 ≤ s.length) := by
  unfold lookS at h
  by_cases c0 : okN id ∧ okN e ∧ okN q
  · rw [if_neg (fun hh => hh c0)] at h
    by_cases c1 : e < (getP s id).epoch
    · rw [if_pos c1] at h; cases h
    rw [if_neg c1] at h
    by_cases c2 : (getP s id).epoch < e
    · rw [if_pos c2] at h; cases h
    rw [if_neg c2] at h
    by_cases c3 : (getP s id).next < q
    · rw [if_pos c3] at h; cases h
    rw [if_neg c3] at h
    by_cases c4 : hasP s id = false ∧ 50 ≤ s.length
    · rw [if_pos c4] at h; cases h
    rw [if_neg c4] at h
    by_cases c5 : q = (getP s id).next
    · exact ⟨c0, by omega, c5, c4⟩
    rw [if_neg c5] at h
    split at h <;> cases h
  · rw [if_pos c0] at h; cases h

section
variable {B : Base} {w : World}
theorem Put_o {v : Value} {L : PrL} (r : rowR v (praws L) B) (q : prows L B) (hR : RightT (prs L)) (en : D_api_Entry) (pos : Int) :
    Makes Tryz.prog B (sCall F_producer_Put #[v, en.v, .int .i64 pos]) fun u τ => OwnTab u (putS (prs L) en.producer en.epoch en.seq pos) τ := by
  refine Makes.intro fun B' w K base h k => ?_
  replace r := base r
  replace q := base q
  have hpl : ∀ L : PrL, (prs L).length = L.length := fun L => List.length_map ..
  have hal : ∀ L : PrL, (praws L).length = L.length := fun L => List.length_map ..
  have hlen := hR.len
  rw [hpl] at hlen
  refine producer_Put.up (producer_Put.call ?_)
  unfold producer_Put.pt
  have fin : ∀ s u τ w', putS (prs L) en.producer en.epoch en.seq pos = s → OwnTab u s τ → Rel B' w' τ → K u w' := fun s u τ w' e hn h => k _ τ w' (by rw [e]; exact hn) h
  clear k
  unfold putS at fin
  refine h.box fun b w1 h => ?_
  have h : Rel B' w1 [cellD b T_api_Entry en.cs.toArray] := h
  simp -zeta only [field_addr f_api_Entry_1, Nat.zero_add, h.ld 0 rfl sc_int (o := 1) rfl]
  obtain ⟨sv, hsv, hfind⟩ := find_g r q (by omega) en.producer
  refine hfind _ _ _ h fun w2 h => ?_
  simp -zeta only [ext_2_0, ext_2_1]
  have hsm := getP_small hR (id := en.producer)
  have hid := getP_id (prs L) en.producer
  have hlk : (lookS (prs L) en.producer en.epoch en.seq).2 = 0 → okN en.producer := fun hh => (look_ok hh).1.1
  generalize getP (prs L) en.producer = p at *
  refine h.allocAg (ds := (p.raw sv).cs.toArray) z_api_Producer rfl ag_api_Producer rfl (fun v hv => Enc.one (p.raw sv) v hv) fun o w3 h => ?_
  have h : Rel B' w3 [cellD b T_api_Entry en.cs.toArray, cellD o T_api_Producer (p.raw sv).cs.toArray] := h
  have cl : ∀ w', (if (lookS (prs L) en.producer en.epoch en.seq).2 ≠ 0 then prs L else if ¬ inP pos then prs L else if 0 < p.last.length ∧ pos ≤ p.last.getD (p.last.length - 1) 0 then prs L else withS (prs L) (putP p pos)) = prs L →
      Rel B' w' [cellD b T_api_Entry en.cs.toArray, cellD o T_api_Producer (p.raw sv).cs.toArray] → upK Tryz.prog (sCall F_producer_clone #[v]) w' fun t w => K t w := by
    intro w' e h
    refine h.make (fun B2 own base2 => clone_m (base2 r) (base2 q) (by omega) fun x hx => by have := (hR.fine x.1 (List.mem_map_of_mem hx)).len; omega) fun u τ w5 hp h => ?_
    obtain ⟨g, Lc, hpc, rfl, rfl⟩ := hp
    refine fin (prs L) _ [rowD T_api_Producer (.slice (some ⟨g, 0, none⟩) Lc.length Lc.length) (praws Lc), prows Lc] _ e ?_ (h.pick [2, 3] (by decide))
    exact own_stars fun B3 hB3 => ⟨Lc, hpc, rowD.read (Dat.star.left hB3), Dat.star.left (Dat.star.right hB3)⟩
  refine LETJ_intro fun J hJ => ?_
  replace hJ : (lookS (prs L) en.producer en.epoch en.seq).2 = 0 → inP pos → ¬ (0 < p.last.length ∧ pos ≤ p.last.getD (p.last.length - 1) 0) → ∀ w', Rel B' w' [cellD b T_api_Entry en.cs.toArray, cellD o T_api_Producer (p.raw sv).cs.toArray] → J () w' := by
    intro c1 c2 c3 w5 h
    refine hJ _ _ ?_
    clear hJ cl
    rw [if_neg (fun hh => hh c1), if_neg (fun hh => hh c2), if_neg c3] at fin
    have hin := hlk c1
    simp -zeta only [field_addr f_api_Producer_2, field_addr f_api_Producer_3, Nat.zero_add, h.ld 1 rfl sc_int (o := 2) rfl, bin_add]
    rw [wrap_id (by omega) (by omega)]
    refine h.st 1 rfl sc_int (show 2 < 4 by omega) rfl fun w6 h => ?_
    simp -zeta only [h.ld 1 rfl sc_s_int (o := 3) rfl]
    refine h.make (fun B2 own base2 => gslices_Clone_s_int_int (base2 hsv) (by omega) (by omega)) fun v' τ w7 hp h => ?_
    subst hp
    refine h.push1 (α := Int) 2 rfl pos sl_s_int (by decide) (by omega) (by omega) fun v2 w9 h => ?_
    have h1 : v2.oneCell' = true := h.oneCell (i := 2) rfl
    refine h.st 1 rfl sc_s_int (show 3 < 4 by omega) h1 fun w10 h => ?_
    have hr2 : rowR v2 (p.last ++ [pos]) ⟨w10, fun _ => True⟩ := rowD.read (h.here (i := 2) rfl)
    have hl2 : (p.last ++ [pos]).length = p.last.length + 1 := by simp
    have hw : IntKind.i64.wrap (((p.last ++ [pos]).length : Int) - 20) = ((p.last ++ [pos]).length : Int) - 20 := wrap_id (by omega) (by omega)
    have hmx : max (((p.last ++ [pos]).length : Int) - 20) 0 = (((p.last ++ [pos]).length - 20 : Nat) : Int) := by omega
    simp -zeta only [h.ld 1 rfl sc_s_int (o := 3) rfl, rowR.len hr2 sl_s_int, bin_sub, hw, blt_max, hmx]
    rw [rowR.cutE hr2 sl_s_int (lo := (p.last ++ [pos]).length - 20) (hi := (p.last ++ [pos]).length) Bnd.some Bnd.none (by omega) (Nat.le_refl _)]
    have hc1 : (cutV (Enc.sz Int) v2 ((p.last ++ [pos]).length - 20) (p.last ++ [pos]).length).oneCell' = true := rowR.oneCell (rowR.cutR hr2 (by omega) (Nat.le_refl _))
    refine h.st 1 rfl sc_s_int (show 3 < 4 by omega) hc1 fun w11 h => ?_
    have h : Rel B' w11 [cellD b T_api_Entry en.cs.toArray, cellD o T_api_Producer ((putP p pos).raw ⟨_, hc1⟩).cs.toArray, rowD T_int v2 (p.last ++ [pos])] := h
    rw [h.ldAg 1 rfl ag_api_Producer rfl]
    refine h.make (fun B2 own base2 => with_m (p := putP p pos) (sv := ⟨_, hc1⟩) (base2 r) (base2 q) hR (by show inP p.id; rw [hid]; exact ⟨hin.1, by have := hin.2; omega⟩)) fun u τ w12 hp h => ?_
    obtain ⟨Lc, L', hp, hm, rfl⟩ := hp
    refine fin (withS (prs L) (putP p pos)) u [rowD T_int v2 (p.last ++ [pos]), rowD T_api_Producer u (praws L'), prows Lc] _ rfl ?_ (h.pick [2, 3, 4] (by decide))
    refine own_stars fun B3 hB3 => ⟨L', hp, rowD.read (Dat.star.left (Dat.star.right hB3)), fun x hx => ?_⟩
    rcases hm x hx with hx | rfl
    · exact (Dat.star.left (Dat.star.right (Dat.star.right hB3)) : prows Lc B3) x hx
    · have := rowR.cutR (rowD.read (Dat.star.left hB3)) (lo := (p.last ++ [pos]).length - 20) (hi := (p.last ++ [pos]).length) (by omega) (Nat.le_refl _)
      rw [List.take_length] at this
      exact this
  rw [h.ldAg 0 rfl ag_api_Entry rfl]
  refine h.ask (fun B2 own base2 => Look_g (base2 r) (base2 q) hR en) fun w4 h => ?_
  simp -zeta only [ext_2_0, ext_2_1, bin_neq, ifB_not, ifB_dec]
  refine ⟨fun c1 => ?_, fun c1 => cl _ (by rw [if_pos c1]) h⟩
  have c1 : (lookS (prs L) en.producer en.epoch en.seq).2 = 0 := c1
  refine h.ask (fun B2 own base2 => in_g pos) fun w5 h => ?_
  rw [un_not, ifB_not, ifB_dec]
  refine ⟨fun c2 => ?_, fun c2 => cl _ (by rw [if_neg (fun hh => hh c1), if_pos c2]) h⟩
  simp -zeta only [field_addr f_api_Producer_3, Nat.zero_add, h.ld 1 rfl sc_s_int (o := 3) rfl, rowR.len hsv sl_s_int, bin_gtr, ifB_dec]
  refine ⟨fun c3 => ?_, fun c3 => hJ c1 c2 (fun hh => c3 (by omega)) _ h⟩
  have hw : IntKind.i64.wrap ((p.last.length : Int) - 1) = ((p.last.length - 1 : Nat) : Int) := by rw [wrap_id (by omega) (by omega)]; omega
  have hml : p.last.length - 1 < p.last.length := by omega
  obtain ⟨a, q1, q2⟩ := rowR.at_sc hsv h sl_s_int hml sc_int (x := .int .i64 p.last[p.last.length - 1]) rfl
  have hgd : p.last.getD (p.last.length - 1) 0 = p.last[p.last.length - 1] := by rw [List.getD_eq_getElem?_getD, List.getElem?_eq_getElem hml]; rfl
  simp -zeta only [bin_sub, hw, q1, q2, bin_leq, ifB_dec]
  exact ⟨fun c4 => cl _ (by rw [if_neg (fun hh => hh c1), if_neg (fun hh => hh c2), if_pos ⟨by omega, by rw [hgd]; exact c4⟩]) h, fun c4 => hJ c1 c2 (fun hh => c4 (by rw [← hgd]; exact hh.2)) _ h⟩
theorem Put_m {v : Value} {L : PrL} (r : rowR v (praws L) B) (q : prows L B) (hR : RightT (prs L)) (en : D_api_Entry) (pos : Int) :
    Makes Tryz.prog B (sCall F_producer_Put #[v, en.v, .int .i64 pos]) fun u τ => NewTab u (putS (prs L) en.producer en.epoch en.seq pos) τ :=
  (Put_o r q hR en pos).imp fun _ _ h => h.new
end
end Go.Proofs.YtefinemhfgdpdaaGreatDoor
/-
  Plain laws of tables. No condition.
-/
namespace Go.Proofs.YtefinemhfgdpdaaGreatDoor
open Go.RowKit
set_option maxRecDepth 100000

abbrev Asc (s : List Pr) : Prop := s.Pairwise fun a b => a.id < b.id
theorem asc_iff {s : List Pr} : (∀ i (h : i < s.length), 0 < i → s[i - 1].id < s[i].id) ↔ Asc s := by
  constructor
  · intro h
    show s.Pairwise fun a b => a.id < b.id
    rw [List.pairwise_iff_getElem]
    intro i j hi hj hij
    exact asc_lt h hij hj
  · intro h i hi h0
    have h : s.Pairwise fun a b => a.id < b.id := h
    rw [List.pairwise_iff_getElem] at h
    exact h (i - 1) i (by omega) hi (by omega)
theorem RightT.pw {s : List Pr} (h : RightT s) : Asc s := asc_iff.1 h.asc
theorem asc_uniq {s : List Pr} (h : Asc s) {x y : Pr} (hx : x ∈ s) (hy : y ∈ s) (e : x.id = y.id) : x = y := by
  have h : s.Pairwise fun a b => a.id < b.id := h
  rw [List.pairwise_iff_getElem] at h
  obtain ⟨i, hi, rfl⟩ := List.getElem_of_mem hx
  obtain ⟨j, hj, rfl⟩ := List.getElem_of_mem hy
  rcases Nat.lt_trichotomy i j with hij | rfl | hij
  · have := h i j hi hj hij; omega
  · rfl
  · have := h j i hj hi hij; omega
theorem getP_of {s : List Pr} (h : Asc s) {x : Pr} (hx : x ∈ s) : getP s x.id = x ∧ hasP s x.id = true := by
  have hh : hasP s x.id = true := by
    unfold hasP
    rw [List.find?_isSome]
    exact ⟨x, hx, decide_eq_true rfl⟩
  obtain ⟨h1, h2⟩ := getP_mem hh
  exact ⟨asc_uniq h h1 hx h2, hh⟩
theorem hasP_false {s : List Pr} {id : Int} (h : ∀ x ∈ s, x.id ≠ id) : hasP s id = false := by
  cases e : hasP s id
  · rfl
  · obtain ⟨h1, h2⟩ := getP_mem e
    exact absurd h2 (h _ h1)
theorem withS_eq {s : List Pr} (h : Asc s) (p : Pr) : ∃ c d, withS s p = s.take c ++ p :: s.drop d ∧ (∀ x ∈ s.take c, x.id < p.id) ∧ (∀ x ∈ s.drop d, p.id < x.id) ∧ c ≤ s.length ∧ d ≤ s.length ∧ ((d = c ∧ hasP s p.id = false) ∨ (d = c + 1 ∧ hasP s p.id = true ∧ ∃ hc : c < s.length, s[c].id = p.id)) := by
  have ha := asc_iff.2 h
  have hlt : ∀ x ∈ s.take (cntLt s p.id), x.id < p.id := fun x hx => by
    obtain ⟨i, hi, rfl⟩ := List.mem_take_iff_getElem.1 hx
    exact cnt_lt (by omega) (by omega)
  have hle := cnt_le s p.id
  cases e : hasP s p.id
  · refine ⟨cntLt s p.id, cntLt s p.id, by unfold withS; rw [if_neg (by rw [e]; decide)], hlt, fun x hx => ?_, hle, hle, .inl ⟨rfl, rfl⟩⟩
    obtain ⟨i, hi, rfl⟩ := List.mem_drop_iff_getElem.1 hx
    have h1 := cnt_ge ha (id := p.id) (i := cntLt s p.id + i) (by omega) (by omega)
    have h2 := (getP_none e).2 _ (List.getElem_mem (show cntLt s p.id + i < s.length by omega))
    omega
  · obtain ⟨hc, hid⟩ := (has_iff ha).1 e
    refine ⟨cntLt s p.id, cntLt s p.id + 1, by unfold withS; rw [if_pos e, List.set_eq_take_append_cons_drop, if_pos hc], hlt, fun x hx => ?_, hle, by omega, .inr ⟨rfl, rfl, hc, hid⟩⟩
    obtain ⟨i, hi, rfl⟩ := List.mem_drop_iff_getElem.1 hx
    have := asc_lt ha (i := cntLt s p.id) (j := cntLt s p.id + 1 + i) (by omega) (by omega)
    omega
theorem withS_asc {s : List Pr} (h : Asc s) (p : Pr) : Asc (withS s p) := by
  obtain ⟨c, d, e, h1, h2, _, _, hcd⟩ := withS_eq h p
  rw [e]
  unfold Asc
  rw [List.pairwise_append, List.pairwise_cons]
  refine ⟨h.sublist (List.take_sublist _ _), ⟨h2, h.sublist (List.drop_sublist _ _)⟩, fun x hx y hy => ?_⟩
  rcases List.mem_cons.1 hy with rfl | hy
  · exact h1 x hx
  · exact Int.lt_trans (h1 x hx) (h2 y hy)
theorem withS_mem {s : List Pr} (h : Asc s) (p x : Pr) : x ∈ withS s p ↔ x = p ∨ (x ∈ s ∧ x.id ≠ p.id) := by
  obtain ⟨c, d, e, h1, h2, hc, hd, hcd⟩ := withS_eq h p
  rw [e, List.mem_append, List.mem_cons]
  constructor
  · rintro (hx | rfl | hx)
    · exact .inr ⟨List.mem_of_mem_take hx, by have := h1 x hx; omega⟩
    · exact .inl rfl
    · exact .inr ⟨List.mem_of_mem_drop hx, by have := h2 x hx; omega⟩
  · rintro (rfl | ⟨hx, hne⟩)
    · exact .inr (.inl rfl)
    · have hs : s = s.take c ++ s.drop c := (List.take_append_drop c s).symm
      rw [hs] at hx
      rcases List.mem_append.1 hx with hx | hx
      · exact .inl hx
      · rcases hcd with ⟨rfl, _⟩ | ⟨rfl, _, hlt, hid⟩
        · exact .inr (.inr hx)
        · rw [List.drop_eq_getElem_cons hlt] at hx
          rcases List.mem_cons.1 hx with rfl | hx
          · exact absurd hid hne
          · exact .inr (.inr hx)
theorem getP_with {s : List Pr} (h : Asc s) (p : Pr) : getP (withS s p) p.id = p ∧ hasP (withS s p) p.id = true := getP_of (withS_asc h p) ((withS_mem h p p).2 (.inl rfl))
theorem getP_with_ne {s : List Pr} (h : Asc s) (p : Pr) {id : Int} (hid : id ≠ p.id) : getP (withS s p) id = getP s id ∧ hasP (withS s p) id = hasP s id := by
  cases e : hasP s id
  · obtain ⟨e1, e2⟩ := getP_none e
    have : hasP (withS s p) id = false := hasP_false fun x hx => by
      rcases (withS_mem h p x).1 hx with rfl | ⟨hx, _⟩
      · exact Ne.symm hid
      · exact e2 x hx
    exact ⟨by rw [(getP_none this).1, e1], this⟩
  · obtain ⟨e1, e2⟩ := getP_mem e
    have hm : getP s id ∈ withS s p := (withS_mem h p _).2 (.inr ⟨e1, by rw [e2]; exact hid⟩)
    have := getP_of (withS_asc h p) hm
    rw [e2] at this
    exact this
theorem with_len {s : List Pr} (h : Asc s) (p : Pr) : (withS s p).length = if hasP s p.id = true then s.length else s.length + 1 := by
  obtain ⟨c, d, e, h1, h2, hc, hd, hcd⟩ := withS_eq h p
  rw [e, List.length_append, List.length_cons, List.length_take, List.length_drop]
  rcases hcd with ⟨rfl, hh⟩ | ⟨rfl, hh, hlt, _⟩
  · rw [if_neg (by rw [hh]; decide)]; omega
  · rw [if_pos hh]; omega
theorem with_right {s : List Pr} (h : RightT s) {p : Pr} (hp : FineP p) (hl : hasP s p.id = true ∨ s.length < 50) : RightT (withS s p) := by
  refine ⟨fun x hx => ?_, asc_iff.2 (withS_asc h.pw p), ?_⟩
  · rcases (withS_mem h.pw p x).1 hx with rfl | ⟨hx, _⟩
    · exact hp
    · exact h.fine x hx
  · rw [with_len h.pw p]
    have := h.len
    split
    · exact this
    · rename_i hh
      rcases hl with hl | hl
      · exact absurd hl hh
      · omega
/-- A producer with one more position. -/
theorem putP_fine {p : Pr} (hp : FineP p) (hn : p.next < 1099511627776) {pos : Int} (hpos : inP pos) (hb : ¬ (0 < p.last.length ∧ pos ≤ p.last.getD (p.last.length - 1) 0)) : FineP (putP p pos) := by
  have hnext := hp.next
  have hlen := hp.len
  have hl2 : (p.last ++ [pos]).length = p.last.length + 1 := by simp
  have hget : ∀ i (h : i < (p.last ++ [pos]).length), (p.last ++ [pos])[i] = if h' : i < p.last.length then p.last[i] else pos := fun i h => by
    by_cases h' : i < p.last.length
    · rw [dif_pos h', List.getElem_append_left h']
    · rw [dif_neg h', List.getElem_append_right (by omega)]
      simp
  have each : ∀ i (h : i < (p.last ++ [pos]).length), inP (p.last ++ [pos])[i] := fun i h => by
    rw [hget i h]
    split
    · rename_i h'; exact hp.each i h'
    · exact hpos
  have asc : ∀ i (h : i < (p.last ++ [pos]).length), 0 < i → (p.last ++ [pos])[i - 1] < (p.last ++ [pos])[i] := fun i h h0 => by
    rw [hget i h, hget (i - 1) (by omega)]
    by_cases h' : i < p.last.length
    · rw [dif_pos h', dif_pos (by omega)]; exact hp.asc i h' h0
    · rw [dif_neg h', dif_pos (by omega)]
      have hi : i - 1 = p.last.length - 1 := by omega
      have hgd : p.last.getD (p.last.length - 1) 0 = p.last[p.last.length - 1]'(by omega) := by rw [List.getD_eq_getElem?_getD, List.getElem?_eq_getElem (by omega)]; rfl
      rw [hgd] at hb
      simp only [hi]
      omega
  unfold inP at hnext
  have hdl : (putP p pos).last.length = (p.last ++ [pos]).length - ((p.last ++ [pos]).length - 20) := List.length_drop ..
  refine ⟨hp.id, hp.epoch, ⟨by show 0 ≤ p.next + 1; omega, by show p.next + 1 ≤ _; omega⟩, ?_, fun i h => ?_, fun i h h0 => ?_⟩
  · rw [hdl]
    show _ = min (p.next + 1) 20
    omega
  · have : (putP p pos).last[i] = (p.last ++ [pos])[(p.last ++ [pos]).length - 20 + i]'(by rw [hdl] at h; omega) := List.getElem_drop ..
    rw [this]
    exact each _ _
  · have e1 : (putP p pos).last[i] = (p.last ++ [pos])[(p.last ++ [pos]).length - 20 + i]'(by rw [hdl] at h; omega) := List.getElem_drop ..
    have e2 : (putP p pos).last[i - 1] = (p.last ++ [pos])[(p.last ++ [pos]).length - 20 + (i - 1)]'(by rw [hdl] at h; omega) := List.getElem_drop ..
    rw [e1, e2]
    have := asc ((p.last ++ [pos]).length - 20 + i) (by rw [hdl] at h; omega) (by omega)
    have e3 : (p.last ++ [pos]).length - 20 + i - 1 = (p.last ++ [pos]).length - 20 + (i - 1) := by omega
    simp only [e3] at this
    exact this
end Go.Proofs.YtefinemhfgdpdaaGreatDoor
/-
  Tables stay right; chapter 10's small. No condition.
-/
namespace Go.Proofs.YtefinemhfgdpdaaGreatDoor
open Go.RowKit
set_option maxRecDepth 100000

theorem put_right {s : List Pr} (h : RightT s) (id e q pos : Int) : RightT (putS s id e q pos) := by
  unfold putS
  by_cases c0 : (lookS s id e q).2 ≠ 0
  · rw [if_pos c0]; exact h
  rw [if_neg c0]
  have c0 : (lookS s id e q).2 = 0 := by simpa using c0
  obtain ⟨⟨h1, _, h3⟩, he, hq, hfull⟩ := look_ok c0
  by_cases c1 : ¬ inP pos
  · rw [if_pos c1]; exact h
  rw [if_neg c1]
  by_cases c2 : 0 < (getP s id).last.length ∧ pos ≤ (getP s id).last.getD ((getP s id).last.length - 1) 0
  · rw [if_pos c2]; exact h
  rw [if_neg c2]
  have hid := getP_id s id
  have hfine := (getP_fine h (id := id) ⟨h1.1, by have := h1.2; omega⟩).1
  refine with_right h (putP_fine hfine (by rw [← hq]; exact h3.2) (Decidable.of_not_not c1) c2) ?_
  show hasP s (getP s id).id = true ∨ _
  rw [hid]
  cases e : hasP s id
  · right
    exact Nat.lt_of_not_le fun hh => hfull ⟨e, hh⟩
  · exact .inl rfl
theorem fence_ok {s : List Pr} {id : Int} (h : (fenceS s id).2.2 = 0) : okN id ∧ ¬ (getP s id).epoch = 1099511627776 ∧ ¬ (hasP s id = false ∧ 50 ≤ s.length) ∧ fenceS s id = (withS s ⟨id, (getP s id).epoch + 1, 0, []⟩, (getP s id).epoch + 1, 0) := by
  unfold fenceS at h ⊢
  by_cases c1 : ¬ okN id ∨ (getP s id).epoch = 1099511627776
  · rw [if_pos c1] at h; cases h
  rw [if_neg c1] at h ⊢
  by_cases c2 : hasP s id = false ∧ 50 ≤ s.length
  · rw [if_pos c2] at h; cases h
  rw [if_neg c2]
  exact ⟨Decidable.of_not_not fun hh => c1 (.inl hh), fun hh => c1 (.inr hh), c2, rfl⟩
theorem fence_right {s : List Pr} (h : RightT s) {id : Int} (he : (fenceS s id).2.2 = 0) : RightT (fenceS s id).1 := by
  obtain ⟨h1, h2, h3, e⟩ := fence_ok he
  rw [e]
  have hsm := getP_small h (id := id)
  refine with_right h ⟨⟨h1.1, by have := h1.2; show id ≤ _; omega⟩, ⟨by show 0 ≤ (getP s id).epoch + 1; omega, by show (getP s id).epoch + 1 ≤ _; omega⟩, (show inP 0 by decide), rfl, fun i h => absurd h (Nat.not_lt_zero i), fun i h => absurd h (Nat.not_lt_zero i)⟩ ?_
  show hasP s id = true ∨ _
  cases e : hasP s id
  · right
    exact Nat.lt_of_not_le fun hh => h3 ⟨e, hh⟩
  · exact .inl rfl
theorem right_nil : RightT [] := ⟨fun p hp => (by cases hp), fun i h => absurd h (Nat.not_lt_zero i), Nat.zero_le _⟩

abbrev ent (a b c : Int) : D_api_Entry := ⟨0, a, b, c, ⟨#[]⟩, 0, 0, nilSV⟩
section
variable {B : Base} {w : World}
theorem nilT (B : Base) : (rowR (.slice none 0 0) (praws [])) B := ⟨none, 0, rfl, Nat.le_refl _, .inl rfl⟩
theorem nilQ (B : Base) : prows [] B := fun x hx => by cases hx
end
end Go.Proofs.YtefinemhfgdpdaaGreatDoor
/-
  The reference's Right; few. No condition.
-/
--@auto
namespace Go.Proofs.YtefinemhfgdpdaaGreatDoor
open Go.RowKit
set_option maxRecDepth 100000

section
variable {B : Base} {w : World}
structure FewT (L : PrL) : Prop where
  each : ∀ p ∈ L, p.1.last.length ≤ 30
  len : L.length ≤ 60
theorem RRight_g {v : Value} {L : PrL} (r : rowR v (praws L) B) (q : prows L B) (hl : L.length ≤ 4611686018427387904) (hq : ∀ p ∈ L, p.1.last.length ≤ 4611686018427387904) : Gives Tryz.prog B (sCall F_errataref10_Right #[v]) (.bool (rightB (prs L))) := by
  refine Gives.intro fun B' w K base h k => ?_
  replace r := base r
  replace q := base q
  refine errataref10_Right.up (errataref10_Right.call ?_)
  unfold errataref10_Right.pt
  have hal : (praws L).length = L.length := List.length_map ..
  have hpl : (prs L).length = L.length := List.length_map ..
  have hget : ∀ i (h : i < L.length), (prs L)[i]'(by omega) = L[i].1 := fun i h => by simp
  have no : ∀ w' τ, Rel B' w' τ → ¬ RightT (prs L) → K (.bool false) w' := fun w' τ h hn => by rw [rightB_false hn] at k; exact k _ _ h
  have inT : ∀ i (h : i < L.length), L[i].1 ∈ prs L := fun i h => List.mem_map_of_mem (List.getElem_mem h)
  simp -zeta only [rowR.len r sl_s_api_Producer, bin_gtr, ifB_dec]
  rw [hal]
  refine ⟨fun c0 => no _ _ h fun hh => by have := hh.len; omega, fun c0 => ?_⟩
  refine LOOP_intro (fun x w' => ∃ (i : Nat) (pv : Int), i ≤ L.length ∧ x = (.int .i64 pv, .int .i64 i, ()) ∧ (i = 0 → pv = -1) ∧ (∀ h0 : 0 < i, ∃ hi : i - 1 < L.length, pv = L[i - 1].1.id) ∧ (∀ j (hj : j < L.length), j < i → FineP L[j].1 ∧ (0 < j → (L[j - 1]'(by omega)).1.id < L[j].1.id)) ∧ Rel B' w' []) (fun x _ => L.length - (match x.2.1 with | .int _ n => n.toNat | _ => 0))
    ⟨0, -1, Nat.zero_le _, rfl, fun _ => rfl, fun h0 => absurd h0 (Nat.lt_irrefl 0), fun j _ hj => absurd hj (Nat.not_lt_zero j), h⟩ ?_
  clear h
  rintro x w1 ⟨i, pv, hi, rfl, hp0, hp1, hin, h⟩ next hnext
  simp -zeta only [bin_lss, ifB_dec]
  refine ⟨fun hlt => ?_, fun hge => ?_⟩
  · have hil : i < L.length := by omega
    refine LETJ_intro fun J hJ => ?_
    replace hJ : FineP L[i].1 → (0 < i → (L[i - 1]'(by omega)).1.id < L[i].1.id) → ∀ w' τ, Rel B' w' τ → J (.int .i64 L[i].1.id, ()) w' := by
      intro h1 h2 w' τ h
      refine hJ _ _ ?_
      rw [bin_add, wrap_id (by omega) (by omega)]
      refine hnext _ _ ⟨i + 1, L[i].1.id, hil, rfl, fun e => absurd e (by omega), fun _ => ⟨hil, rfl⟩, fun j hj hji => ?_, h.nil⟩ (by simp only; omega)
      by_cases e : j = i
      · subst e; exact ⟨h1, h2⟩
      · exact hin j hj (by omega)
    clear hnext
    obtain ⟨g, o, hx, hc⟩ := rowR.idx r sl_s_api_Producer (P := Tryz.prog) (i := i) (by omega)
    have hel : (praws L)[i]'(by omega) = L[i].1.raw L[i].2 := by simp [praws]
    rw [hel] at hc
    have hc : cellsR g o (L[i].1.raw L[i].2).cs B' := hc
    have hrow : rowR L[i].2.1 L[i].1.last B' := q L[i] (List.getElem_mem hil)
    have hql := hq L[i] (List.getElem_mem hil)
    have hmem := inT i hil
    have hasc : RightT (prs L) → 0 < i → (L[i - 1]'(by omega)).1.id < L[i].1.id := fun hh h0 => by
      have := hh.asc i (by omega) h0
      rw [hget _ hil, hget (i - 1) (by omega)] at this
      exact this
    simp -zeta only [hx, cellsR.ldAg (h.hereB hc) ag_api_Producer rfl]
    refine h.allocAg (ds := (L[i].1.raw L[i].2).cs.toArray) z_api_Producer rfl ag_api_Producer rfl (fun v hv => Enc.one (L[i].1.raw L[i].2) v hv) fun b w4 h => ?_
    have h : Rel B' w4 [cellD b T_api_Producer (L[i].1.raw L[i].2).cs.toArray] := h
    have hprev : 0 < i → pv = (L[i - 1]'(by omega)).1.id := fun h0 => (hp1 h0).2
    generalize hsv : L[i].2 = sv at h hrow
    generalize L[i].1 = p at *
    simp -zeta only [field_addr f_api_Producer_0, field_addr f_api_Producer_1, field_addr f_api_Producer_2, field_addr f_api_Producer_3, Nat.add_zero, Nat.zero_add, h.ld 0 rfl sc_int (o := 0) rfl, bin_leq, ifB_dec]
    refine ⟨fun c1 => no _ _ h fun hh => ?_, fun c1 => ?_⟩
    · have h1 := (hh.fine p hmem).id
      unfold inP at h1
      rcases Nat.eq_zero_or_pos i with e | e
      · have := hp0 e; omega
      · have := hasc hh e
        have := hprev e
        omega
    have hb : 0 < i → (L[i - 1]'(by omega)).1.id < p.id := fun h0 => by have := hprev h0; omega
    refine h.ask (fun B2 own base2 => rin_g p.id) fun w5 h => ?_
    rw [un_not, ifB_not, ifB_dec]
    refine ⟨fun c2 => ?_, fun c2 => no _ _ h fun hh => c2 (hh.fine p hmem).id⟩
    simp -zeta only [h.ld 0 rfl sc_int (o := 1) rfl]
    refine h.ask (fun B2 own base2 => rin_g p.epoch) fun w6 h => ?_
    rw [un_not, ifB_not, ifB_dec]
    refine ⟨fun c3 => ?_, fun c3 => no _ _ h fun hh => c3 (hh.fine p hmem).epoch⟩
    simp -zeta only [h.ld 0 rfl sc_int (o := 2) rfl]
    refine h.ask (fun B2 own base2 => rin_g p.next) fun w7 h => ?_
    rw [un_not, ifB_not, ifB_dec]
    refine ⟨fun c4 => ?_, fun c4 => no _ _ h fun hh => c4 (hh.fine p hmem).next⟩
    simp -zeta only [h.ld 0 rfl sc_int (o := 0) rfl, h.ld 0 rfl sc_int (o := 2) rfl, h.ld 0 rfl sc_s_int (o := 3) rfl, rowR.len hrow sl_s_int, blt_min, bin_neq, ifB_not, ifB_dec]
    refine ⟨fun c5 => ?_, fun c5 => no _ _ h fun hh => c5 (hh.fine p hmem).len⟩
    refine LOOP_intro (fun x w' => ∃ (m : Nat) (lv : Int), m ≤ p.last.length ∧ x = (.int .i64 lv, .int .i64 m, ()) ∧ (m = 0 → lv = -1) ∧ (∀ h0 : 0 < m, ∃ hm : m - 1 < p.last.length, lv = p.last[m - 1]) ∧ (∀ j (hj : j < p.last.length), j < m → inP p.last[j] ∧ (0 < j → p.last[j - 1] < p.last[j])) ∧ Rel B' w' [cellD b T_api_Producer (p.raw sv).cs.toArray]) (fun x _ => p.last.length - (match x.2.1 with | .int _ n => n.toNat | _ => 0))
      ⟨0, -1, Nat.zero_le _, rfl, fun _ => rfl, fun h0 => absurd h0 (Nat.lt_irrefl 0), fun j _ hj => absurd hj (Nat.not_lt_zero j), h⟩ ?_
    clear h
    rintro x w8 ⟨m, lv, hm, rfl, hl0, hl1, hinm, h⟩ next hnext
    simp -zeta only [h.ld 0 rfl sc_s_int (o := 3) rfl, rowR.len hrow sl_s_int, bin_lss, ifB_dec]
    refine ⟨fun hltm => ?_, fun hgem => hJ ⟨c2, c3, c4, c5, fun j hj => (hinm j hj (by omega)).1, fun j hj => (hinm j hj (by omega)).2⟩ hb _ _ h⟩
    have hml : m < p.last.length := by omega
    obtain ⟨a, q1, q2⟩ := rowR.at_sc hrow h sl_s_int hml sc_int (x := .int .i64 p.last[m]) rfl
    simp -zeta only [q1, q2, bin_leq, ifB_dec]
    have hlast : 0 < m → lv = p.last[m - 1]'(by omega) := fun h0 => (hl1 h0).2
    refine ⟨fun c6 => no _ _ h fun hh => ?_, fun c6 => ?_⟩
    · have hf := hh.fine p hmem
      have h1 := hf.each m hml
      unfold inP at h1
      rcases Nat.eq_zero_or_pos m with e | e
      · have := hl0 e; omega
      · have := hf.asc m hml e
        have := hlast e
        omega
    refine h.ask (fun B2 own base2 => rin_g p.last[m]) fun w9 h => ?_
    rw [un_not, ifB_not, ifB_dec]
    refine ⟨fun c7 => ?_, fun c7 => no _ _ h fun hh => c7 ((hh.fine p hmem).each m hml)⟩
    obtain ⟨a2, q3, q4⟩ := rowR.at_sc hrow h sl_s_int hml sc_int (x := .int .i64 p.last[m]) rfl
    simp -zeta only [h.ld 0 rfl sc_s_int (o := 3) rfl, q3, q4, bin_add]
    rw [wrap_id (by omega) (by omega)]
    refine hnext _ _ ⟨m + 1, p.last[m], hml, rfl, fun e => absurd e (by omega), fun _ => ⟨hml, rfl⟩, fun j hj hjm => ?_, h⟩ (by simp only; omega)
    by_cases e : j = m
    · subst e
      exact ⟨c7, fun h0 => by have := hlast h0; omega⟩
    · exact hinm j hj (by omega)
  · have : RightT (prs L) := by
      refine ⟨fun p hp => ?_, fun j hj h0 => ?_, by omega⟩
      · obtain ⟨x, hx, rfl⟩ := List.mem_map.1 hp
        obtain ⟨j, hj, rfl⟩ := List.getElem_of_mem hx
        exact (hin j hj (by omega)).1
      · rw [hget j (by omega), hget (j - 1) (by omega)]
        exact (hin j (by omega) (by omega)).2 h0
    rw [rightB_true.2 this] at k
    exact k _ _ h
end
end Go.Proofs.YtefinemhfgdpdaaGreatDoor
/-
  A table of producers: its encoding. No condition.
-/
namespace Go.Proofs.YtefinemhfgdpdaaGreatDoor
open Go.RowKit
set_option maxRecDepth 100000

def encPr (p : Pr) : Bs := encI p.id ++ encI p.epoch ++ encI p.next ++ encL encI p.last
def encTab (s : List Pr) : Bs := encI s.length ++ s.flatMap encPr
structure GoodP (p : Pr) : Prop where
  id : inI p.id
  epoch : inI p.epoch
  next : inI p.next
  len : p.last.length ≤ 9223372036854775807
  last : ∀ x ∈ p.last, inI x
theorem inP_in {n : Int} (h : inP n) : inI n := ⟨by have := h.1; omega, by have := h.2; omega⟩
theorem FineP.good {p : Pr} (h : FineP p) : GoodP p := ⟨inP_in h.id, inP_in h.epoch, inP_in h.next, by have := h.len; have := h.next; omega, fun x hx => by
  obtain ⟨i, hi, rfl⟩ := List.getElem_of_mem hx
  exact inP_in (h.each i hi)⟩
/-- What a reader makes of a producer. -/
noncomputable def prodR (s : RS) : Pr × RS :=
  let a := intR s
  let b := intR a.2
  let c := intR b.2
  let d := intsR c.2
  (⟨a.1, b.1, c.1, d.1⟩, d.2)
theorem prodR_enc {p : Pr} (h : GoodP p) (r : Bs) : prodR ⟨encPr p ++ r, false⟩ = (p, ⟨r, false⟩) := by
  unfold prodR encPr
  simp only [List.append_assoc]
  rw [intR_enc h.id]
  simp only
  rw [intR_enc h.epoch]
  simp only
  rw [intR_enc h.next]
  simp only
  rw [intsR_enc h.len h.last]
theorem encPr_pos (p : Pr) : 0 < (encPr p).length := by
  unfold encPr
  have := encI_pos p.id
  simp only [List.length_append]
  omega
noncomputable def tabR : Nat → List Pr → RS → List Pr × RS
  | 0, acc, s => (acc, s)
  | k + 1, acc, s => if s.rest = [] then (acc, s) else tabR k (acc ++ [(prodR s).1]) (prodR s).2
theorem tabR_enc : ∀ (l acc : List Pr) (r : Bs), (∀ p ∈ l, GoodP p) → tabR l.length acc ⟨l.flatMap encPr ++ r, false⟩ = (acc ++ l, ⟨r, false⟩)
  | [], acc, r, _ => by simp [tabR]
  | p :: l, acc, r, h => by
    have hne : ¬ ((p :: l).flatMap encPr ++ r) = [] := fun hh => by
      have := congrArg List.length hh
      have h2 := encPr_pos p
      rw [List.flatMap_cons, List.length_append, List.length_append, List.length_nil] at this
      omega
    rw [List.length_cons, tabR, if_neg hne, List.flatMap_cons, List.append_assoc, prodR_enc (h p List.mem_cons_self)]
    rw [tabR_enc l _ r fun y hy => h y (List.mem_cons_of_mem _ hy)]
    simp
/-- What Read accepts. -/
def TabOk (t : Bs) (s : List Pr) : Prop := RightT s ∧ encTab s = t ∧ doneR (tabR (natR ⟨t, false⟩).1.toNat [] (natR ⟨t, false⟩).2).2 = true ∧ (tabR (natR ⟨t, false⟩).1.toNat [] (natR ⟨t, false⟩).2).1 = s
theorem tab_enc {s : List Pr} (h : RightT s) : tabR (natR ⟨encTab s, false⟩).1.toNat [] (natR ⟨encTab s, false⟩).2 = (s, ⟨[], false⟩) := by
  have hl := h.len
  unfold encTab
  rw [natR_enc (by omega) ⟨by omega, by omega⟩]
  simp only [Int.toNat_natCast]
  have := tabR_enc s [] [] fun p hp => (h.fine p hp).good
  rw [List.append_nil, List.nil_append] at this
  exact this
theorem tab_ok {s : List Pr} (h : RightT s) : TabOk (encTab s) s := by
  unfold TabOk
  rw [tab_enc h]
  exact ⟨h, rfl, rfl, rfl⟩
theorem tab_uniq {s s' : List Pr} (h : RightT s) (h' : TabOk (encTab s) s') : s' = s := by
  have := h'.2.2.2
  rw [tab_enc h] at this
  exact this.symm
theorem encPr_len {p : Pr} (h : FineP p) : (encPr p).length ≤ 600 := by
  have g := h.good
  have hl := h.len
  have hn := h.next
  have h1 := encI_len g.id
  have h2 := encI_len g.epoch
  have h3 := encI_len g.next
  have h4 := (encL_len encI p.last (by omega)).2
  have h5 := flat_len encI p.last 21 fun y hy => encI_len (g.last y hy)
  unfold encPr
  simp only [List.length_append]
  omega
theorem encTab_len {s : List Pr} (h : RightT s) : (encTab s).length ≤ 31000 := by
  have hl := h.len
  have h1 := encI_len (n := s.length) ⟨by omega, by omega⟩
  have h2 := flat_len encPr s 600 fun p hp => encPr_len (h.fine p hp)
  unfold encTab
  rw [List.length_append]
  omega
theorem prodR_rest {s : RS} (hs : Sane s) (hr : s.rest ≠ []) : Sane (prodR s).2 ∧ (prodR s).2.rest.length + 1 ≤ s.rest.length := by
  have h1 := numR_sane (.inl rfl : isEnd 59) (lo := -9223372036854775808) hs
  have l1 := (numR_le (.inl rfl : isEnd 59) (-9223372036854775808) s).1
  have l2 := (numR_le (.inl rfl : isEnd 59) (-9223372036854775808) (intR s).2).1
  have l3 := (numR_le (.inl rfl : isEnd 59) (-9223372036854775808) (intR (intR s).2).2).1
  have hs0 : s.bad = false := by
    cases hb : s.bad
    · rfl
    · exact absurd (hs hb) hr
  have hlen : 0 < s.rest.length := List.length_pos_iff.2 hr
  have hsan : Sane (prodR s).2 := itemsR_sane (fun s => intR_sane) (intR_sane (intR_sane (intR_sane hs)))
  have hle : (prodR s).2.rest.length ≤ (intR s).2.rest.length := Nat.le_trans (itemsR_le2 intR_le _) (Nat.le_trans l3 l2)
  refine ⟨hsan, ?_⟩
  obtain ⟨s1, s2⟩ := Ok1.shrink intR_ok encI_pos hs0
  cases hb : (intR s).2.bad
  · have := s2 hb; omega
  · have := (intR_sane hs) hb
    rw [this] at hle
    simp at hle
    rw [hle]
    simp
    omega
end Go.Proofs.YtefinemhfgdpdaaGreatDoor
/-
  A table of producers: Bytes, Same, Read. No condition.
-/
--@auto
namespace Go.Proofs.YtefinemhfgdpdaaGreatDoor
open Go.RowKit
set_option maxRecDepth 100000

theorem own_of {d : Dat} {τ σ : List Dat} {B : Base} {w : World} (h : ∀ B, (stars τ) B → d B) (hr : Rel B w (σ ++ τ)) : Rel B w (σ ++ [d]) := by
  have h1 := (Rel.restars hr).imp (i := σ.length) (e := d) get_last h
  rw [List.set_append_right _ _ (Nat.le_refl _), Nat.sub_self, List.set_cons_zero] at h1
  exact h1
section
variable {B : Base} {w : World} {σ : List Dat}
theorem tabBytes_g (hB : powD B) {v : Value} {L : PrL} (r : rowR v (praws L) B) (q : prows L B) (hR : RightT (prs L)) : Gives Tryz.prog B (sCall F_producer_Bytes #[v]) (.string (ofL (encTab (prs L)))) := by
  refine Gives.introB fun B' w K base h start k => ?_
  replace hB := base hB
  replace r := base r
  replace q := base q
  refine producer_Bytes.up (producer_Bytes.call ?_)
  unfold producer_Bytes.pt
  have hal : (praws L).length = L.length := List.length_map ..
  have hpl : (prs L).length = L.length := List.length_map ..
  have hl := hR.len
  have hall := encTab_len hR
  refine h.alloc z_strings_Builder fun b w1 h => ?_
  have h := start w1 b h
  simp -zeta only [rowR.len r sl_s_api_Producer]
  rw [hal]
  have hin : inI (L.length : Int) := ⟨by omega, by omega⟩
  refine h.ask (fun B2 own base2 => wNum_g (base2 hB) hin) fun w2 h => ?_
  have en : encN (L.length : Int) = encI (prs L).length := by rw [hpl]; unfold encN; rw [if_neg (by omega)]
  rw [en]
  have h2 := encI_len hin
  rw [← hpl] at h2
  refine h.bldWrite (Nat.le_refl _) (by rw [ofL_size, List.length_nil]; omega) fun _ w4 h => ?_
  have h : Rel B' w4 [bldD B'.W.heap.size b (encI (prs L).length)] := h
  unfold encTab at hall k
  refine LOOP_intro (fun x w' => ∃ i : Nat, i ≤ L.length ∧ x = (.int .i64 i, ()) ∧ Rel B' w' [bldD B'.W.heap.size b (encI (prs L).length ++ ((prs L).take i).flatMap encPr)]) (fun x _ => L.length - (match x.1 with | .int _ n => n.toNat | _ => 0))
    ⟨0, Nat.zero_le _, rfl, by simpa using h⟩ ?_
  clear h
  rintro x w5 ⟨i, hi, rfl, h⟩ next hnext
  simp -zeta only [bin_lss, ifB_dec]
  refine ⟨fun hlt => ?_, fun hge => ?_⟩
  · have hil : i < L.length := by omega
    obtain ⟨g, o, hx, hcl⟩ := rowR.idx r sl_s_api_Producer (P := Tryz.prog) (i := i) (by omega)
    have hel : (praws L)[i]'(by omega) = L[i].1.raw L[i].2 := by simp [praws]
    rw [hel] at hcl
    have hcl : cellsR g o (L[i].1.raw L[i].2).cs B' := hcl
    have hrow := q L[i] (List.getElem_mem hil)
    have hfine := hR.fine L[i].1 (List.mem_map_of_mem (List.getElem_mem hil))
    have hgood := hfine.good
    have hnx := hfine.next
    have hll := hfine.len
    have hstep := flat_take_succ encPr (l := prs L) (i := i) (by omega)
    rw [show (prs L)[i]'(by omega) = L[i].1 by simp] at hstep
    have hle := flat_take_le encPr (prs L) (i + 1)
    rw [hstep, List.length_append] at hle
    rw [hx, cellsR.ldAg (h.hereB hcl) ag_api_Producer rfl]
    refine h.allocAg (ds := (L[i].1.raw L[i].2).cs.toArray) z_api_Producer rfl ag_api_Producer rfl (fun v hv => Enc.one (L[i].1.raw L[i].2) v hv) fun a w6 h => ?_
    have h : Rel B' w6 [bldD B'.W.heap.size b (encI (prs L).length ++ ((prs L).take i).flatMap encPr), cellD a T_api_Producer (L[i].1.raw L[i].2).cs.toArray] := h
    have h := h.tick
    simp -zeta only [field_addr f_api_Producer_0, field_addr f_api_Producer_1, field_addr f_api_Producer_2, field_addr f_api_Producer_3, Nat.add_zero, Nat.zero_add, h.ld 1 rfl sc_int (o := 0) rfl, h.ld 1 rfl sc_int (o := 1) rfl, h.ld 1 rfl sc_int (o := 2) rfl, h.ld 1 rfl sc_s_int (o := 3) rfl]
    refine h.ask (fun B2 own base2 => wInt_g (base2 hB) hgood.id) fun w7 h => ?_
    refine ⟨h.is 1 rfl sc_s_int (o := 3) rfl, h.is 1 rfl sc_int (o := 2) rfl, h.is 1 rfl sc_int (o := 1) rfl, ?_⟩
    refine h.ask (fun B2 own base2 => wInt_g (base2 hB) hgood.epoch) fun w8 h => ?_
    refine ⟨h.is 1 rfl sc_s_int (o := 3) rfl, h.is 1 rfl sc_int (o := 2) rfl, ?_⟩
    have l1 := encI_len hgood.id
    have l2 := encI_len hgood.epoch
    have l3 := encI_len hgood.next
    have l4 := (encL_len encI L[i].1.last (by omega)).2
    have l5 := flat_len encI L[i].1.last 21 fun y hy => encI_len (hgood.last y hy)
    rw [strL_add (by omega)]
    refine h.ask (fun B2 own base2 => wInt_g (base2 hB) hgood.next) fun w9 h => ?_
    refine ⟨h.is 1 rfl sc_s_int (o := 3) rfl, ?_⟩
    rw [strL_add (by rw [List.length_append]; omega)]
    refine h.ask (fun B2 own base2 => wNums_g (base2 hB) (base2 hrow) hgood.last (by omega)) fun w10 h => ?_
    rw [strL_add (by simp only [List.length_append]; omega)]
    simp only [List.length_append] at hall
    have hpe : encI L[i].1.id ++ encI L[i].1.epoch ++ encI L[i].1.next ++ encL encI L[i].1.last = encPr L[i].1 := rfl
    rw [hpe]
    refine (h.take 1).bldWrite (Nat.le_refl _) (by rw [ofL_size]; simp only [List.length_append]; omega) fun _ w11 h => ?_
    rw [bin_add, wrap_id (by omega) (by omega)]
    refine hnext _ _ ⟨i + 1, hil, rfl, ?_⟩ (by simp only; omega)
    rw [hstep, ← List.append_assoc]
    exact h
  · refine h.bldString (Nat.le_refl _) fun w7 h => ?_
    have hie : i = L.length := by omega
    subst hie
    have e : (prs L).take L.length = prs L := List.take_of_length_le (by omega)
    rw [e]
    exact k _ _ h
set_option maxHeartbeats 1000000 in
theorem tabRead_m (hB : wireD B) {t : Bs} (ht : t.length ≤ 1000000) : Makes Tryz.prog B (sCall F_producer_Read #[.string (ofL t)]) fun u τ => (∃ s tv, TabOk t s ∧ u = .tuple #[tv, .bool true] ∧ OwnTab tv s τ) ∨ ((∀ s, ¬ TabOk t s) ∧ u = .tuple #[.slice none 0 0, .bool false] ∧ τ = []) := by
  refine Makes.intro fun B' w K base h k => ?_
  replace hB := base hB
  refine producer_Read.up (producer_Read.call ?_)
  unfold producer_Read.pt
  refine h.make (fun B2 own base2 => open_m) fun u τ w1 hp h => ?_
  obtain ⟨p, rfl, rfl⟩ := hp
  have h : Rel B' w1 [rdD p ⟨t, false⟩] := h
  have hal : ∀ L : PrL, (praws L).length = L.length := fun L => List.length_map ..
  have hsn : Sane ⟨t, false⟩ := fun hb => by cases hb
  have l1 : (natR ⟨t, false⟩).2.rest.length ≤ t.length := (numR_le (.inl rfl : isEnd 59) 0 ⟨t, false⟩).1
  have hin := (numR_le (.inl rfl : isEnd 59) 0 ⟨t, false⟩).2.1
  have n0 : 0 ≤ (natR ⟨t, false⟩).1 := (numR_le (.inl rfl : isEnd 59) 0 ⟨t, false⟩).2.2 (Int.le_refl 0)
  have n1 : (natR ⟨t, false⟩).1 ≤ 9223372036854775807 := hin.2
  have hs1 : Sane (natR ⟨t, false⟩).2 := natR_sane hsn
  have no : (∀ s, ¬ TabOk t s) → ∀ w' τ, Rel B' w' τ → K (.tuple #[.slice none 0 0, .bool false]) w' := fun hn w' τ h => k _ _ _ (.inr ⟨hn, rfl, rfl⟩) h.nil
  have yes : ∀ s tv τ, TabOk t s → OwnTab tv s τ → ∀ w', Rel B' w' τ → K (.tuple #[tv, .bool true]) w' := fun s tv τ h1 h2 w' h => k _ _ _ (.inl ⟨s, tv, h1, rfl, h2⟩) h
  clear k
  unfold TabOk at no yes
  refine LETJ_intro fun J1 hJ1 => ?_
  replace hJ1 : ∀ (tv : Value) (L : PrL) (s' : RS), tabR (natR ⟨t, false⟩).1.toNat [] (natR ⟨t, false⟩).2 = (prs L, s') → L.length ≤ t.length → (∀ x ∈ L, x.1.last.length ≤ 4611686018427387904) → ∀ w', Rel B' w' [rdD p s', rowD T_api_Producer tv (praws L), prows L] → J1 (tv, ()) w' := by
    intro tv L s' htab hLl hq w' h
    refine hJ1 _ _ ?_
    clear hJ1
    rw [htab] at no yes
    simp only at no yes
    refine h.ask (fun B2 own base2 => rDone_g (own (i := 0) rfl)) fun w3 h => ?_
    rw [un_not, ifB_not, ifB_bool]
    refine ⟨fun cd => ?_, fun cd => no (fun s hh => by rw [hh.2.2.1] at cd; cases cd) _ _ h⟩
    refine h.ask (fun B2 own base2 => Right_g (rowD.read (own (i := 1) rfl)) (own (i := 2) rfl) (by omega) hq) fun w4 h => ?_
    rw [un_not, ifB_not, ifB_bool]
    refine ⟨fun cr => ?_, fun cr => no (fun s hh => by rw [hh.2.2.2, rightB_true.2 hh.1] at cr; cases cr) _ _ h⟩
    have hR := rightB_true.1 cr
    refine h.ask (fun B2 own base2 => tabBytes_g (base2 hB) (rowD.read (own (i := 1) rfl)) (own (i := 2) rfl) hR) fun w5 h => ?_
    rw [neq_str, ifB_not, ifB_dec]
    refine ⟨fun ce => ?_, fun ce => no (fun s hh => ce ?_) _ _ h⟩
    · have ce : encTab (prs L) = t := by have := congrArg bl ce; exact this
      have h := h.pick [1, 2] (by decide)
      exact yes (prs L) tv [rowD T_api_Producer tv (praws L), prows L] ⟨hR, ce, cd, rfl⟩ (own_stars fun B hB => ⟨L, rfl, rowD.read (Dat.star.left hB), Dat.star.left (Dat.star.right hB)⟩) _ h
    · rw [hh.2.2.2, hh.2.1]
  refine h.rd_ 0 rfl (fun B2 own base2 => rNum_d (base2 hB) (by show t.length ≤ _; omega)) fun w6 h => ?_
  generalize natR ⟨t, false⟩ = n at *
  obtain ⟨n, r1⟩ := n
  simp only at l1 n0 n1 hs1 hJ1
  obtain ⟨m, rfl⟩ : ∃ m : Nat, n = m := ⟨n.toNat, by omega⟩
  rw [Int.toNat_natCast] at hJ1
  have h : Rel B' w6 [rdD p r1] := h
  have h := h.addNil PrD T_api_Producer
  have h : Rel B' w6 [rdD p r1, rowD T_api_Producer (.slice none 0 0) (praws [])] := h
  have h := own_of (d := prows []) (τ := []) (σ := [rdD p r1, rowD T_api_Producer (.slice none 0 0) (praws [])]) (fun B _ x hx => by cases hx) (by simpa using h)
  refine LOOP_intro (fun x w' => ∃ (j : Nat) (L : PrL) (tv : Value) (s' : RS), j ≤ m ∧ x = (tv, .int .i64 j, ()) ∧ tabR j (prs L) s' = tabR m [] r1 ∧ Sane s' ∧ L.length + s'.rest.length ≤ t.length ∧ (∀ x ∈ L, x.1.last.length ≤ 4611686018427387904) ∧
      Rel B' w' [rdD p s', rowD T_api_Producer tv (praws L), prows L]) (fun x _ => match x.2.1 with | .int _ n => n.toNat | _ => 0)
    ⟨m, [], .slice none 0 0, r1, Nat.le_refl _, rfl, rfl, hs1, by simpa using l1, fun x hx => (by cases hx), h⟩ ?_
  clear h
  rintro x w7 ⟨j, L, tv, s', hj, rfl, htab, hsa, hlen, hq, h⟩ next hnext
  simp -zeta only [bin_gtr, ifB_dec]
  refine ⟨fun hpos => ?_, fun hz => ?_⟩
  case refine_2 =>
    obtain rfl : j = 0 := by omega
    rw [tabR] at htab
    exact hJ1 tv L s' htab.symm (by omega) hq _ h
  obtain ⟨i, rfl⟩ : ∃ i, j = i + 1 := ⟨j - 1, by omega⟩
  rw [tabR] at htab
  refine h.ask (fun B2 own base2 => rLeft_g (own (i := 0) rfl)) fun w8 h => ?_
  rw [bin_gtr, ifB_dec]
  refine ⟨fun hp => ?_, fun hp => ?_⟩
  case refine_2 =>
    have : s'.rest = [] := List.eq_nil_of_length_eq_zero (by omega)
    rw [if_pos this] at htab
    exact hJ1 tv L s' htab.symm (by omega) hq _ h
  have hne : ¬ s'.rest = [] := fun hh => by rw [hh] at hp; exact absurd hp (by simp)
  rw [if_neg hne] at htab
  obtain ⟨hsa2, hshr⟩ := prodR_rest hsa hne
  have a1 := (numR_le (.inl rfl : isEnd 59) (-9223372036854775808) s').1
  have a2 := (numR_le (.inl rfl : isEnd 59) (-9223372036854775808) (intR s').2).1
  have a3 := (numR_le (.inl rfl : isEnd 59) (-9223372036854775808) (intR (intR s').2).2).1
  have a1 : (intR s').2.rest.length ≤ s'.rest.length := a1
  have a2 : (intR (intR s').2).2.rest.length ≤ (intR s').2.rest.length := a2
  have a3 : (intR (intR (intR s').2).2).2.rest.length ≤ (intR (intR s').2).2.rest.length := a3
  have a4 : (intsR (intR (intR (intR s').2).2).2).1.length ≤ (intR (intR (intR s').2).2).2.rest.length + 1 := itemsR_len intR_ok encI_pos _
  refine h.rd_ 0 rfl (fun B2 own base2 => rInt_d (base2 hB) (by omega)) fun w9 h => ?_
  have h : Rel B' w9 [rdD p (intR s').2, rowD T_api_Producer tv (praws L), prows L] := h
  refine h.rd_ 0 rfl (fun B2 own base2 => rInt_d (base2 hB) (by omega)) fun w10 h => ?_
  have h : Rel B' w10 [rdD p (intR (intR s').2).2, rowD T_api_Producer tv (praws L), prows L] := h
  refine h.rd_ 0 rfl (fun B2 own base2 => rInt_d (base2 hB) (by omega)) fun w11 h => ?_
  have h : Rel B' w11 [rdD p (intR (intR (intR s').2).2).2, rowD T_api_Producer tv (praws L), prows L] := h
  refine h.act 0 rfl (fun B2 own base2 => rNums_d (base2 hB) (by omega)) fun u e' τ w12 hp h => ?_
  obtain ⟨rfl, rfl⟩ := hp
  have hpr : (prodR s').1 = ⟨(intR s').1, (intR (intR s').2).1, (intR (intR (intR s').2).2).1, (intsR (intR (intR (intR s').2).2).2).1⟩ := rfl
  have h : Rel B' w12 [rdD p (prodR s').2, rowD T_api_Producer tv (praws L), prows L, rowD T_int u (prodR s').1.last] := h
  have a4 : (prodR s').1.last.length ≤ t.length + 1 := by rw [hpr]; show (intsR _).1.length ≤ _; omega
  have e1 : (intR s').1 = (prodR s').1.id := rfl
  have e2 : (intR (intR s').2).1 = (prodR s').1.epoch := rfl
  have e3 : (intR (intR (intR s').2).2).1 = (prodR s').1.next := rfl
  rw [e1, e2, e3]
  clear hpr e1 e2 e3 a1 a2 a3
  generalize prodR s' = y at *
  obtain ⟨pr, s2⟩ := y
  simp only at *
  have h1 : u.oneCell' = true := h.oneCell (i := 3) rfl
  obtain ⟨sv, rfl⟩ : ∃ sv : SV, sv.1 = u := ⟨⟨u, h1⟩, rfl⟩
  obtain ⟨a, c, hform, _⟩ := rowR.form (rowD.read (h.here (i := 3) rfl))
  have hbd : ∀ {Kp : Value → Prop}, pureK Tryz.prog (sBuild T_api_Producer #[(0, .int .i64 pr.id), (1, .int .i64 pr.epoch), (2, .int .i64 pr.next), (3, sv.1)]) Kp = Kp (pr.raw sv).v := fun {Kp} => by
    have e : (pr.raw sv).v = .agg #[.int .i64 pr.id, .int .i64 pr.epoch, .int .i64 pr.next, sv.1] := rfl
    rw [e, hform]
    exact bd_api_Producer_0_1_2_3
  rw [hbd]
  refine h.push1 (α := PrD) 1 rfl (pr.raw sv) sl_s_api_Producer (by decide) (by rw [hal]; omega) (by rw [hal]; omega) fun v2 w14 h => ?_
  have h : Rel B' w14 ([rdD p s2, rowD T_api_Producer v2 (praws L ++ [pr.raw sv])] ++ [prows L, rowD T_int sv.1 pr.last]) := h
  have h := own_of (d := prows (L ++ [(pr, sv)])) (τ := [prows L, rowD T_int sv.1 pr.last]) (σ := [rdD p s2, rowD T_api_Producer v2 (praws L ++ [pr.raw sv])]) (fun B hB => Dat.all_append (Dat.star.left hB) fun x hx => by
    rw [List.mem_singleton] at hx
    subst hx
    exact rowD.read (Dat.star.left (Dat.star.right hB))) h
  rw [show praws L ++ [pr.raw sv] = praws (L ++ [(pr, sv)]) by simp [praws]] at h
  rw [bin_sub, wrap_id (by omega) (by omega)]
  have e4 : (((i + 1 : Nat) : Int) - 1) = (i : Int) := by omega
  rw [e4]
  refine hnext _ _ ⟨i, L ++ [(pr, sv)], v2, s2, by omega, rfl, ?_, hsa2, by rw [List.length_append, List.length_singleton]; omega, fun x hx => ?_, h⟩ (by simp only; omega)
  · rw [← htab]
    simp
  · rcases List.mem_append.1 hx with hx | hx
    · exact hq x hx
    · rw [List.mem_singleton.1 hx]
      show pr.last.length ≤ _
      omega
end
end Go.Proofs.YtefinemhfgdpdaaGreatDoor
