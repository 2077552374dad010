/-
  find, Look. No condition.
-/
import Derived.Test.YtppnebcpalialaaDoorProdA
namespace Go.Proofs.YtppnebcpalialaaDoor
open Go.RowKit
set_option maxRecDepth 100000

def isId (id : Int) (p : Pr) : Bool := decide (p.id = id)
def getP (s : List Pr) (id : Int) : Pr := match s.find? (isId id) with
  | some p => p
  | none => ⟨id, 0, 0, []⟩
def hasP (s : List Pr) (id : Int) : Bool := (s.find? (isId id)).isSome
theorem getP_mem {s : List Pr} {id : Int} (h : hasP s id = true) : getP s id ∈ s ∧ (getP s id).id = id := by
  unfold hasP at h
  unfold getP
  cases hf : s.find? (isId id) with
  | none => rw [hf] at h; cases h
  | some p =>
    have h1 := List.find?_some hf
    exact ⟨List.mem_of_find?_eq_some hf, of_decide_eq_true h1⟩
theorem getP_none {s : List Pr} {id : Int} (h : hasP s id = false) : getP s id = ⟨id, 0, 0, []⟩ ∧ ∀ p ∈ s, p.id ≠ id := by
  unfold hasP at h
  unfold getP
  cases hf : s.find? (isId id) with
  | none =>
    refine ⟨rfl, fun p hp e => ?_⟩
    have := List.find?_eq_none.1 hf p hp
    exact this (decide_eq_true e)
  | some p => rw [hf] at h; cases h
theorem getP_fine {s : List Pr} {id : Int} (h : RightT s) (hid : inP id) : FineP (getP s id) ∧ (getP s id).id = id := by
  cases e : hasP s id
  · rw [(getP_none e).1]
    exact ⟨⟨hid, (show inP 0 by decide), (show inP 0 by decide), rfl, fun i h => absurd h (Nat.not_lt_zero i), fun i h => absurd h (Nat.not_lt_zero i)⟩, rfl⟩
  · exact ⟨h.fine _ (getP_mem e).1, (getP_mem e).2⟩
theorem getP_small {s : List Pr} {id : Int} (h : RightT s) : 0 ≤ (getP s id).epoch ∧ (getP s id).epoch ≤ 1099511627776 ∧ 0 ≤ (getP s id).next ∧ (getP s id).next ≤ 1099511627776 ∧ (getP s id).last.length ≤ 20 := by
  cases e : hasP s id
  · rw [(getP_none e).1]
    show (0 : Int) ≤ 0 ∧ (0 : Int) ≤ 1099511627776 ∧ (0 : Int) ≤ 0 ∧ (0 : Int) ≤ 1099511627776 ∧ (0 : Nat) ≤ 20
    decide
  · have := h.fine _ (getP_mem e).1
    have h1 := this.epoch
    have h2 := this.next
    have h3 := this.len
    unfold inP at h1 h2
    omega
def okN (n : Int) : Prop := 0 ≤ n ∧ n < 1099511627776
instance (n : Int) : Decidable (okN n) := by unfold okN; infer_instance
def lookS (s : List Pr) (id e q : Int) : Int × Int :=
  if ¬ (okN id ∧ okN e ∧ okN q) then (0, 1) else if e < (getP s id).epoch then (0, 18) else if (getP s id).epoch < e then (0, 25) else if (getP s id).next < q then (0, 19)
  else if hasP s id = false ∧ 50 ≤ s.length then (0, 6) else if q = (getP s id).next then (0, 0)
  else if 0 ≤ (getP s id).last.length - ((getP s id).next - q) then ((getP s id).last.getD (((getP s id).last.length : Int) - ((getP s id).next - q)).toNat 0, 5) else (-1, 5)

theorem idx_cases {α : Type} (p : α → Bool) (l : List α) : (idxP p l = -1 ∧ ∀ x ∈ l, p x = false) ∨ ∃ i : Nat, idxP p l = i ∧ ∃ hi : i < l.length, p l[i] = true ∧ ∀ x ∈ l.take i, p x = false := by
  unfold idxP
  split
  · rename_i i hi
    obtain ⟨h1, h2, h3⟩ := List.findIdx?_eq_some_iff_getElem.1 hi
    refine .inr ⟨i, rfl, h1, h2, fun x hx => ?_⟩
    obtain ⟨j, hj, rfl⟩ := List.getElem_of_mem hx
    have := h3 j (by simp at hj; omega)
    simp at this ⊢
    exact this
  · rename_i h
    exact .inl ⟨rfl, List.findIdx?_eq_none_iff.1 h⟩
theorem find_at {s : List Pr} {id : Int} {i : Nat} (hi : i < s.length) (h : isId id s[i] = true) (hno : ∀ x ∈ s.take i, isId id x = false) : s.find? (isId id) = some s[i] := by
  rw [List.find?_eq_some_iff_getElem]
  refine ⟨h, i, hi, rfl, fun j hj => ?_⟩
  have := hno s[j] (List.mem_take_iff_getElem.2 ⟨j, by omega, rfl⟩)
  simp [this]
def nilSV : SV := ⟨.slice none 0 0, rfl⟩

section
variable {B : Base} {w : World}
theorem find1_g {b : Nat} {id : Int} (hc : cellD b T_int #[.int .i64 id] B) (x : PrD) : Gives Tryd.prog B (sCallV (.func (.func F_producer_find_1) #[] #[ptr b]) #[Enc.val x]) (.bool (decide (x.id = id))) := by
  refine Gives.intro fun B' w K base h k => ?_
  replace hc := base hc
  refine call_v ?_
  refine producer_find_1.up (p0 := x.v) (t1 := ptr b) (producer_find_1.call ?_)
  unfold producer_find_1.pt
  refine h.box fun b2 w1 h => ?_
  have h : Rel B' w1 [cellD b2 T_api_Producer x.cs.toArray] := h
  simp -zeta only [field_addr f_api_Producer_0, Nat.add_zero, h.ld 0 rfl sc_int (o := 0) rfl, cellD.ld (h.hereB hc) sc_int (o := 0) rfl, bin_eql]
  exact k _ _ h

theorem find_g {v : Value} {L : PrL} (r : rowR v (praws L) B) (q : prows L B) (hl : L.length ≤ 4611686018427387904) (id : Int) :
    ∃ sv : SV, rowR sv.1 (getP (prs L) id).last B ∧ Gives Tryd.prog B (sCall F_producer_find #[v, .int .i64 id]) (.tuple #[((getP (prs L) id).raw sv).v, .bool (hasP (prs L) id)]) := by
  have hal : (praws L).length = L.length := List.length_map ..
  have hpl : (prs L).length = L.length := List.length_map ..
  rcases idx_cases (fun x : PrD => decide (x.id = id)) (praws L) with ⟨hi, hno⟩ | ⟨i, hi, hil, hat, hno⟩
  · have hh : hasP (prs L) id = false := by
      unfold hasP
      have : (prs L).find? (isId id) = none := List.find?_eq_none.2 fun p hp => by
        obtain ⟨x, hx, rfl⟩ := List.mem_map.1 hp
        have := hno (x.1.raw x.2) (List.mem_map_of_mem hx)
        simpa [isId] using this
      rw [this]; rfl
    refine ⟨nilSV, ?_, ?_⟩
    · rw [(getP_none hh).1]; exact ⟨none, 0, rfl, Nat.le_refl _, .inl rfl⟩
    · rw [(getP_none hh).1, hh]
      refine Gives.intro fun B' w K base h k => ?_
      replace r := base r
      refine producer_find.up (producer_find.call ?_)
      unfold producer_find.pt
      refine h.box fun b w1 h => ?_
      have h : Rel B' w1 [cellD b T_int #[.int .i64 id]] := h
      refine h.alloc z_api_Producer fun o w2 h => ?_
      simp -zeta only [mk_func]
      refine h.ask (fun B2 own base2 => gslices_IndexFunc_s_api_Producer_api_Producer (base2 r) (by omega) (fun x => decide (x.id = id)) fun B3 base3 x _ => find1_g (base3 (own (i := 0) rfl)) x) fun w3 h => ?_
      rw [hi]
      have h : Rel B' w3 [cellD b T_int #[.int .i64 id], cellD o T_api_Producer #[.int .i64 0, .int .i64 0, .int .i64 0, .slice none 0 0]] := h
      simp -zeta only [bin_lss, ifB_dec, h.ld 0 rfl sc_int (o := 0) rfl, bd_api_Producer_0]
      refine ⟨fun _ => ?_, fun hh => absurd (by decide) hh⟩
      refine h.stAll 1 (ds := (⟨id, 0, 0, nilSV⟩ : PrD).cs.toArray) rfl ag_api_Producer rfl rfl (fun v hv => Enc.one (⟨id, 0, 0, nilSV⟩ : PrD) v hv) fun w4 h => ?_
      rw [rv_ag h 1 rfl ag_api_Producer rfl]
      exact k _ _ h
  · have hil' : i < L.length := by omega
    have hel : (praws L)[i] = L[i].1.raw L[i].2 := by simp [praws]
    have hgp : (prs L).find? (isId id) = some L[i].1 := by
      have := find_at (s := prs L) (id := id) (i := i) (by omega) (by
        have e : (prs L)[i]'(by omega) = L[i].1 := by simp
        rw [e]
        rw [hel] at hat
        exact hat) fun x hx => by
          have : x ∈ (L.take i).map (·.1) := by rw [List.map_take]; exact hx
          obtain ⟨y, hy, rfl⟩ := List.mem_map.1 this
          have hm : y.1.raw y.2 ∈ (praws L).take i := by
            unfold praws
            rw [← List.map_take]
            exact List.mem_map_of_mem hy
          exact hno _ hm
      rw [this]
      simp
    have hg : getP (prs L) id = L[i].1 := by unfold getP; rw [hgp]
    have hh : hasP (prs L) id = true := by unfold hasP; rw [hgp]; rfl
    refine ⟨L[i].2, by rw [hg]; exact q L[i] (List.getElem_mem hil'), ?_⟩
    rw [hg, hh]
    refine Gives.intro fun B' w K base h k => ?_
    replace r := base r
    refine producer_find.up (producer_find.call ?_)
    unfold producer_find.pt
    refine h.box fun b w1 h => ?_
    have h : Rel B' w1 [cellD b T_int #[.int .i64 id]] := h
    refine h.alloc z_api_Producer fun o w2 h => ?_
    simp -zeta only [mk_func]
    refine h.ask (fun B2 own base2 => gslices_IndexFunc_s_api_Producer_api_Producer (base2 r) (by omega) (fun x => decide (x.id = id)) fun B3 base3 x _ => find1_g (base3 (own (i := 0) rfl)) x) fun w3 h => ?_
    rw [hi]
    have h : Rel B' w3 [cellD b T_int #[.int .i64 id], cellD o T_api_Producer #[.int .i64 0, .int .i64 0, .int .i64 0, .slice none 0 0]] := h
    obtain ⟨g, oo, hx, hc⟩ := rowR.idx r sl_s_api_Producer (P := Tryd.prog) (i := i) (by omega)
    rw [hel] at hc
    have hc : cellsR g oo (L[i].1.raw L[i].2).cs B' := hc
    simp -zeta only [bin_lss, ifB_dec, hx, cellsR.ldAg (h.hereB hc) ag_api_Producer rfl]
    refine ⟨fun hh => absurd hh (by omega), fun _ => ?_⟩
    refine h.stAll 1 (ds := (L[i].1.raw L[i].2).cs.toArray) rfl ag_api_Producer rfl rfl (fun v hv => Enc.one (L[i].1.raw L[i].2) v hv) fun w4 h => ?_
    rw [rv_ag h 1 rfl ag_api_Producer rfl]
    exact k _ _ h

theorem Look_g {v : Value} {L : PrL} (r : rowR v (praws L) B) (q : prows L B) (hR : RightT (prs L)) (en : D_api_Entry) : Gives Tryd.prog B (sCall F_producer_Look #[v, en.v]) (.tuple #[.int .i64 (lookS (prs L) en.producer en.epoch en.seq).1, .int .i64 (lookS (prs L) en.producer en.epoch en.seq).2]) := by
  refine Gives.intro fun B' w K base h k => ?_
  replace r := base r
  replace q := base q
  have hal : (praws L).length = L.length := List.length_map ..
  have hpl : (prs L).length = L.length := List.length_map ..
  have hlen := hR.len
  refine producer_Look.up (producer_Look.call ?_)
  unfold producer_Look.pt
  refine h.box fun b w1 h => ?_
  have h : Rel B' w1 [cellD b T_api_Entry en.cs.toArray] := h
  have fin : ∀ (x : Int × Int) w' τ, lookS (prs L) en.producer en.epoch en.seq = x → Rel B' w' τ → K (.tuple #[.int .i64 x.1, .int .i64 x.2]) w' := fun x w' τ e h => by rw [e] at k; exact k _ _ h
  clear k
  simp -zeta only [field_addr f_api_Entry_1, field_addr f_api_Entry_2, field_addr f_api_Entry_3, Nat.add_zero, Nat.zero_add, h.ld 0 rfl sc_int (o := 1) rfl, h.ld 0 rfl sc_int (o := 2) rfl, h.ld 0 rfl sc_int (o := 3) rfl]
  refine h.buildN (α := Int) [en.producer, en.epoch, en.seq] sl_s_int fun u w2 h => ?_
  have h : Rel B' w2 [cellD b T_api_Entry en.cs.toArray, rowD T_int u ([en.producer, en.epoch, en.seq] : List Int)] := h
  have hu := rowD.read (h.here (i := 1) rfl)
  simp -zeta only [rowR.len hu sl_s_int]
  clear hu
  refine LOOP_intro (fun x w' => ∃ i : Nat, i ≤ 3 ∧ x = (.int .i64 i, ()) ∧ (∀ j (hj : j < 3), j < i → okN ([en.producer, en.epoch, en.seq] : List Int)[j]) ∧ Rel B' w' [cellD b T_api_Entry en.cs.toArray, rowD T_int u ([en.producer, en.epoch, en.seq] : List Int)]) (fun x _ => 3 - (match x.1 with | .int _ n => n.toNat | _ => 0))
    ⟨0, Nat.zero_le _, rfl, fun j _ hj => absurd hj (Nat.not_lt_zero j), h⟩ ?_
  clear h
  rintro x w3 ⟨i, hi, rfl, hin, h⟩ next hnext
  simp -zeta only [List.length_cons, List.length_nil, bin_lss, ifB_dec]
  refine ⟨fun hlt => ?_, fun hge => ?_⟩
  · have hil : i < 3 := by omega
    have hu := rowD.read (h.here (i := 1) rfl)
    have hu : rowR u ([en.producer, en.epoch, en.seq] : List Int) ⟨w3, fun _ => True⟩ := hu
    have hbad : ¬ okN (([en.producer, en.epoch, en.seq] : List Int)[i]) → ¬ (okN en.producer ∧ okN en.epoch ∧ okN en.seq) := fun hb hh => by
      have : i = 0 ∨ i = 1 ∨ i = 2 := by omega
      rcases this with rfl | rfl | rfl
      · exact hb hh.1
      · exact hb hh.2.1
      · exact hb hh.2.2
    obtain ⟨g, o, hx, hc⟩ := rowR.idx hu sl_s_int (P := Tryd.prog) (i := i) hil
    have hc : (cellsR g o [.int .i64 ([en.producer, en.epoch, en.seq] : List Int)[i]]).here w3 := hc
    rw [hx, cellsR.ld0 hc sc_int rfl]
    refine h.ask (fun B2 own base2 => in_g _) fun w4 h => ?_
    rw [un_not, ifB_not, ifB_dec]
    refine ⟨fun c1 => ?_, fun c1 => fin (0, 1) _ _ (by unfold lookS; rw [if_pos (hbad fun hh => c1 ⟨hh.1, by have := hh.2; omega⟩)]) h⟩
    simp -zeta only [bin_eql, ifB_dec]
    refine ⟨fun c2 => fin (0, 1) _ _ (by unfold lookS; rw [if_pos (hbad fun hh => by have := hh.2; omega)]) h, fun c2 => ?_⟩
    rw [bin_add, wrap_id (by omega) (by omega)]
    refine hnext _ _ ⟨i + 1, hil, rfl, fun j hj hji => ?_, h⟩ (by simp only; omega)
    by_cases e : j = i
    · subst e
      exact ⟨c1.1, by have := c1.2; omega⟩
    · exact hin j hj (by omega)
  · have h3 : okN en.producer ∧ okN en.epoch ∧ okN en.seq := ⟨hin 0 (by decide) (by omega), hin 1 (by decide) (by omega), hin 2 (by decide) (by omega)⟩
    clear hnext hin hge
    have hq0 : 0 ≤ en.seq ∧ en.seq < 1099511627776 := h3.2.2
    unfold lookS at fin
    rw [if_neg (fun hh => hh h3)] at fin
    simp -zeta only [h.ld 0 rfl sc_int (o := 1) rfl]
    obtain ⟨sv, hsv, hfind⟩ := find_g r q (by omega) en.producer
    refine hfind _ _ _ h fun w5 h => ?_
    simp -zeta only [ext_2_0, ext_2_1]
    have hsm := getP_small hR (id := en.producer)
    generalize getP (prs L) en.producer = p at *
    refine h.allocAg (ds := (p.raw sv).cs.toArray) z_api_Producer rfl ag_api_Producer rfl (fun v hv => Enc.one (p.raw sv) v hv) fun o w7 h => ?_
    have h : Rel B' w7 [cellD b T_api_Entry en.cs.toArray, rowD T_int u ([en.producer, en.epoch, en.seq] : List Int), cellD o T_api_Producer (p.raw sv).cs.toArray] := h
    simp -zeta only [field_addr f_api_Producer_1, field_addr f_api_Producer_2, field_addr f_api_Producer_3, Nat.zero_add]
    refine LETJ_intro fun J hJ => ?_
    replace hJ : ¬ en.epoch < p.epoch → ¬ p.epoch < en.epoch → ¬ p.next < en.seq → ¬ (hasP (prs L) en.producer = false ∧ 50 ≤ (prs L).length) → ¬ en.seq = p.next → J () w7 := by
      intro c1 c2 c3 c4 c5
      refine hJ _ _ ?_
      clear hJ
      rw [if_neg c1, if_neg c2, if_neg c3, if_neg c4, if_neg c5] at fin
      have hw1 : IntKind.i64.wrap (p.next - en.seq) = p.next - en.seq := wrap_id (by omega) (by omega)
      have hw2 : IntKind.i64.wrap ((p.last.length : Int) - (p.next - en.seq)) = (p.last.length : Int) - (p.next - en.seq) := wrap_id (by omega) (by omega)
      simp -zeta only [h.ld 2 rfl sc_s_int (o := 3) rfl, h.ld 2 rfl sc_int (o := 2) rfl, h.ld 0 rfl sc_int (o := 3) rfl, rowR.len hsv sl_s_int, bin_sub, hw1, hw2, bin_geq, ifB_dec]
      refine ⟨fun c6 => ?_, fun c6 => fin (-1, 5) _ _ (by rw [if_neg c6]) h⟩
      obtain ⟨m, hm⟩ : ∃ m : Nat, (p.last.length : Int) - (p.next - en.seq) = m := ⟨((p.last.length : Int) - (p.next - en.seq)).toNat, by omega⟩
      rw [if_pos c6, hm] at fin
      rw [hm]
      have hml : m < p.last.length := by omega
      obtain ⟨a, q1, q2⟩ := rowR.at_sc hsv h sl_s_int hml sc_int (x := .int .i64 p.last[m]) rfl
      rw [q1, q2]
      refine fin (p.last[m], 5) _ _ ?_ h
      rw [Int.toNat_natCast, List.getD_eq_getElem?_getD, List.getElem?_eq_getElem hml]
      rfl
    simp -zeta only [h.ld 2 rfl sc_int (o := 1) rfl, h.ld 2 rfl sc_int (o := 2) rfl, h.ld 0 rfl sc_int (o := 2) rfl, h.ld 0 rfl sc_int (o := 3) rfl, bin_lss, bin_gtr, bin_eql, ifB_dec]
    refine ⟨fun c1 => fin (0, 18) _ _ (by rw [if_pos c1]) h, fun c1 => ⟨fun c2 => fin (0, 25) _ _ (by rw [if_neg c1, if_pos c2]) h, fun c2 => ⟨fun c3 => fin (0, 19) _ _ (by rw [if_neg c1, if_neg c2, if_pos c3]) h, fun c3 => ?_⟩⟩⟩
    rw [un_not, ifB_not, ifB_bool]
    refine ⟨fun c4 => ?_, fun c4 => ?_⟩
    · have c4' : ¬ (hasP (prs L) en.producer = false ∧ 50 ≤ (prs L).length) := fun hh => by rw [c4] at hh; cases hh.1
      exact ⟨fun c5 => fin (0, 0) _ _ (by rw [if_neg c1, if_neg c2, if_neg c3, if_neg c4', if_pos c5]) h, fun c5 => hJ c1 c2 c3 c4' c5⟩
    · simp -zeta only [rowR.len r sl_s_api_Producer, bin_geq, ifB_dec]
      refine ⟨fun c5 => fin (0, 6) _ _ (by rw [if_neg c1, if_neg c2, if_neg c3, if_pos ⟨c4, by omega⟩]) h, fun c5 => ?_⟩
      have c4' : ¬ (hasP (prs L) en.producer = false ∧ 50 ≤ (prs L).length) := fun hh => c5 (by omega)
      exact ⟨fun c6 => fin (0, 0) _ _ (by rw [if_neg c1, if_neg c2, if_neg c3, if_neg c4', if_pos c6]) h, fun c6 => hJ c1 c2 c3 c4' c6⟩
end
end Go.Proofs.YtppnebcpalialaaDoor
