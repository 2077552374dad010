/-
  The reference of chapter 10: find, get, Look, set, Put, Fence. No condition.
-/
import Derived.Test.YtefinemhfgdpdaaGreatDoorIntQ
namespace Go.Proofs.YtefinemhfgdpdaaGreatDoor
open Go.RowKit
set_option maxRecDepth 100000

/-- A table that lies there. -/
def tabL (u : Value) (L : PrL) : Dat := (rowR u (praws L)).and (prows L)
/-- With what was made, and the table that was there, there is a table. -/
def NextT (v : Value) (L : PrL) (u : Value) (s : List Pr) (τ : List Dat) : Prop := ∀ B : Base, (tabL v L) B → (stars τ) B → (tabD u s) B
theorem tabD.openL {B : Base} {w : World} {σ : List Dat} {u : Value} {s : List Pr} (h : Rel B w (σ ++ [tabD u s])) : ∃ L, prs L = s ∧ Rel B w (σ ++ [tabL u L]) := by
  have h := h.imp (i := σ.length) (e := Dat.ex fun L : PrL => (Dat.pure (prs L = s)).and (tabL u L)) get_last fun B hB => by
    obtain ⟨L, h1, h2, h3⟩ := hB
    exact ⟨L, h1, h2, h3⟩
  rw [List.set_append_right _ _ (Nat.le_refl _), Nat.sub_self, List.set_cons_zero] at h
  obtain ⟨L, h⟩ := h.ex (i := σ.length) get_last
  rw [List.set_append_right _ _ (Nat.le_refl _), Nat.sub_self, List.set_cons_zero] at h
  obtain ⟨h1, h⟩ := h.pureAnd (i := σ.length) get_last
  rw [List.set_append_right _ _ (Nat.le_refl _), Nat.sub_self, List.set_cons_zero] at h
  exact ⟨L, h1, h⟩
theorem NextT.step {B : Base} {w : World} {σ τ : List Dat} {v u : Value} {L : PrL} {s : List Pr} (h : NextT v L u s τ) (hr : Rel B w ((σ ++ [tabL v L]) ++ τ)) : Rel B w (σ ++ [tabD u s]) := by
  rw [List.append_assoc] at hr
  exact own_of (τ := tabL v L :: τ) (fun B hB => h B (Dat.star.left hB) (Dat.star.right hB)) hr

section
variable {B : Base} {w : World}
theorem ffind_g {v : Value} {L : PrL} (r : rowR v (praws L) B) (hl : L.length ≤ 4611686018427387904) (id : Int) : Gives Tryz.prog B (sCall F_errataref10_find #[v, .int .i64 id]) (.int .i64 (idxP (isId id) (prs L))) := by
  refine Gives.intro fun B' w K base h k => ?_
  replace r := base r
  have hal : (praws L).length = L.length := List.length_map ..
  have hpl : (prs L).length = L.length := List.length_map ..
  have hget : ∀ i (h : i < L.length), (prs L)[i]'(by omega) = L[i].1 := fun i h => by simp
  refine errataref10_find.up (errataref10_find.call ?_)
  unfold errataref10_find.pt
  refine LOOP_intro (fun x w' => ∃ i : Nat, i ≤ L.length ∧ x = (.int .i64 i, ()) ∧ (∀ j (hj : j < L.length), j < i → L[j].1.id ≠ id) ∧ Rel B' w' []) (fun x _ => L.length - (match x.1 with | .int _ n => n.toNat | _ => 0))
    ⟨0, Nat.zero_le _, rfl, fun j _ hj => absurd hj (Nat.not_lt_zero j), h⟩ ?_
  clear h
  rintro x w1 ⟨i, hi, rfl, hin, h⟩ next hnext
  simp -zeta only [rowR.len r sl_s_api_Producer]
  rw [hal]
  simp -zeta only [bin_lss, ifB_dec]
  refine ⟨fun hlt => ?_, fun hge => ?_⟩
  · have hil : i < L.length := by omega
    obtain ⟨g, o, hx, hc⟩ := rowR.idx r sl_s_api_Producer (P := Tryz.prog) (i := i) (by omega)
    have hel : (praws L)[i]'(by omega) = L[i].1.raw L[i].2 := by simp [praws]
    rw [hel] at hc
    have hc : cellsR g o (L[i].1.raw L[i].2).cs B' := hc
    simp -zeta only [hx, field_addr f_api_Producer_0, Nat.add_zero, cellsR.ld0 (h.hereB hc) sc_int rfl, bin_eql, ifB_dec]
    refine ⟨fun c => ?_, fun c => ?_⟩
    · have c : L[i].1.id = id := c
      have e : idxP (isId id) (prs L) = i := idxP_take (by omega) (fun x hx => by
        obtain ⟨j, hj, rfl⟩ := List.mem_take_iff_getElem.1 hx
        rw [hget j (by omega)]
        exact decide_eq_false (hin j (by omega) (by omega))) (by
        rw [hget i hil]
        exact decide_eq_true c)
      rw [e] at k
      exact k _ _ h
    · have c : ¬ L[i].1.id = id := c
      rw [bin_add, wrap_id (by omega) (by omega)]
      refine hnext _ _ ⟨i + 1, hil, rfl, fun j hj hji => ?_, h⟩ (by simp only; omega)
      by_cases e : j = i
      · subst e; exact c
      · exact hin j hj (by omega)
  · have e : idxP (isId id) (prs L) = -1 := idxP_none fun x hx => by
      obtain ⟨j, hj, rfl⟩ := List.getElem_of_mem hx
      rw [hget j (by omega)]
      exact decide_eq_false (hin j (by omega) (by omega))
    rw [e] at k
    exact k _ _ h
theorem idx_has {s : List Pr} {id : Int} : (idxP (isId id) s < 0 ↔ hasP s id = false) := by
  rcases idx_cases (isId id) s with ⟨hi, hno⟩ | ⟨i, hi, hil, hat, hno⟩
  · rw [hi]
    refine ⟨fun _ => ?_, fun _ => by decide⟩
    unfold hasP
    rw [List.find?_eq_none.2 fun p hp => by rw [hno p hp]; decide]
    rfl
  · rw [hi]
    refine ⟨fun h => by omega, fun h => ?_⟩
    unfold hasP at h
    rw [find_at hil hat hno] at h
    cases h
theorem fget_g {v : Value} {L : PrL} (r : rowR v (praws L) B) (q : prows L B) (hl : L.length ≤ 4611686018427387904) (id : Int) :
    ∃ sv : SV, rowR sv.1 (getP (prs L) id).last B ∧ Gives Tryz.prog B (sCall F_errataref10_get #[v, .int .i64 id]) ((getP (prs L) id).raw sv).v := by
  have hal : (praws L).length = L.length := List.length_map ..
  have hpl : (prs L).length = L.length := List.length_map ..
  rcases idx_cases (isId id) (prs L) with ⟨hi, hno⟩ | ⟨i, hi, hil, hat, hno⟩
  · have hh : hasP (prs L) id = false := idx_has.1 (by rw [hi]; decide)
    refine ⟨nilSV, ?_, ?_⟩
    · rw [(getP_none hh).1]; exact ⟨none, 0, rfl, Nat.le_refl _, .inl rfl⟩
    · rw [(getP_none hh).1]
      refine Gives.intro fun B' w K base h k => ?_
      replace r := base r
      refine errataref10_get.up (errataref10_get.call ?_)
      unfold errataref10_get.pt
      refine h.alloc z_api_Producer fun o w2 h => ?_
      refine h.ask (fun B2 own base2 => ffind_g (base2 r) hl id) fun w3 h => ?_
      rw [hi]
      have h : Rel B' w3 [cellD o T_api_Producer #[.int .i64 0, .int .i64 0, .int .i64 0, .slice none 0 0]] := h
      simp -zeta only [bin_lss, ifB_dec, bd_api_Producer_0]
      refine ⟨fun _ => ?_, fun hh => absurd (by decide) hh⟩
      refine h.stAll 0 (ds := (⟨id, 0, 0, nilSV⟩ : PrD).cs.toArray) rfl ag_api_Producer rfl rfl (fun v hv => Enc.one (⟨id, 0, 0, nilSV⟩ : PrD) v hv) fun w4 h => ?_
      rw [rv_ag h 0 rfl ag_api_Producer rfl]
      exact k _ _ h
  · have hil' : i < L.length := by omega
    have hel : (praws L)[i]'(by omega) = L[i].1.raw L[i].2 := by simp [praws]
    have hg : getP (prs L) id = L[i].1 := by
      unfold getP
      rw [find_at hil hat hno]
      simp
    refine ⟨L[i].2, by rw [hg]; exact q L[i] (List.getElem_mem hil'), ?_⟩
    rw [hg]
    refine Gives.intro fun B' w K base h k => ?_
    replace r := base r
    refine errataref10_get.up (errataref10_get.call ?_)
    unfold errataref10_get.pt
    refine h.alloc z_api_Producer fun o w2 h => ?_
    refine h.ask (fun B2 own base2 => ffind_g (base2 r) hl id) fun w3 h => ?_
    rw [hi]
    have h : Rel B' w3 [cellD o T_api_Producer #[.int .i64 0, .int .i64 0, .int .i64 0, .slice none 0 0]] := h
    obtain ⟨g, oo, hx, hc⟩ := rowR.idx r sl_s_api_Producer (P := Tryz.prog) (i := i) (by omega)
    rw [hel] at hc
    have hc : cellsR g oo (L[i].1.raw L[i].2).cs B' := hc
    simp -zeta only [bin_lss, ifB_dec, hx, cellsR.ldAg (h.hereB hc) ag_api_Producer rfl]
    refine ⟨fun hh => absurd hh (by omega), fun _ => ?_⟩
    refine h.stAll 0 (ds := (L[i].1.raw L[i].2).cs.toArray) rfl ag_api_Producer rfl rfl (fun v hv => Enc.one (L[i].1.raw L[i].2) v hv) fun w4 h => ?_
    rw [rv_ag h 0 rfl ag_api_Producer rfl]
    exact k _ _ h
set_option maxHeartbeats 1000000 in
theorem fLook_g {v : Value} {L : PrL} (r : rowR v (praws L) B) (q : prows L B) (hR : RightT (prs L)) (en : D_api_Entry) : Gives Tryz.prog B (sCall F_errataref10_Look #[v, en.v]) (.tuple #[.int .i64 (lookS (prs L) en.producer en.epoch en.seq).1, .int .i64 (lookS (prs L) en.producer en.epoch en.seq).2]) := by
  refine Gives.intro fun B' w K base h k => ?_
  replace r := base r
  replace q := base q
  have hal : (praws L).length = L.length := List.length_map ..
  have hpl : (prs L).length = L.length := List.length_map ..
  have hlen := hR.len
  rw [hpl] at hlen
  refine errataref10_Look.up (errataref10_Look.call ?_)
  unfold errataref10_Look.pt
  have fin : ∀ (x : Int × Int) w' τ, lookS (prs L) en.producer en.epoch en.seq = x → Rel B' w' τ → K (.tuple #[.int .i64 x.1, .int .i64 x.2]) w' := fun x w' τ e h => by rw [e] at k; exact k _ _ h
  clear k
  unfold lookS at fin
  refine h.box fun b w1 h => ?_
  have h : Rel B' w1 [cellD b T_api_Entry en.cs.toArray] := h
  simp -zeta only [field_addr f_api_Entry_1, field_addr f_api_Entry_2, field_addr f_api_Entry_3, Nat.add_zero, Nat.zero_add, h.ld 0 rfl sc_int (o := 1) rfl]
  refine h.ask (fun B2 own base2 => rin_g _) fun w2 h => ?_
  rw [un_not, ifB_not, ifB_dec]
  refine ⟨fun c1 => ?_, fun c1 => fin (0, 1) _ _ (by rw [if_pos (fun hh => c1 ⟨hh.1.1, by have := hh.1.2; omega⟩)]) h⟩
  simp -zeta only [h.ld 0 rfl sc_int (o := 2) rfl]
  refine h.ask (fun B2 own base2 => rin_g _) fun w3 h => ?_
  rw [un_not, ifB_not, ifB_dec]
  refine ⟨fun c2 => ?_, fun c2 => fin (0, 1) _ _ (by rw [if_pos (fun hh => c2 ⟨hh.2.1.1, by have := hh.2.1.2; omega⟩)]) h⟩
  simp -zeta only [h.ld 0 rfl sc_int (o := 3) rfl]
  refine h.ask (fun B2 own base2 => rin_g _) fun w4 h => ?_
  rw [un_not, ifB_not, ifB_dec]
  refine ⟨fun c3 => ?_, fun c3 => fin (0, 1) _ _ (by rw [if_pos (fun hh => c3 ⟨hh.2.2.1, by have := hh.2.2.2; omega⟩)]) h⟩
  simp -zeta only [h.ld 0 rfl sc_int (o := 1) rfl, h.ld 0 rfl sc_int (o := 2) rfl, h.ld 0 rfl sc_int (o := 3) rfl, bin_eql, ifB_dec]
  refine ⟨fun c4 => fin (0, 1) _ _ (by rw [if_pos (fun hh => by have := hh.1.2; omega)]) h, fun c4 => ?_⟩
  refine ⟨fun c5 => fin (0, 1) _ _ (by rw [if_pos (fun hh => by have := hh.2.1.2; omega)]) h, fun c5 => ?_⟩
  refine ⟨fun c6 => fin (0, 1) _ _ (by rw [if_pos (fun hh => by have := hh.2.2.2; omega)]) h, fun c6 => ?_⟩
  have c1 : inP en.producer := c1
  have c2 : inP en.epoch := c2
  have c3 : inP en.seq := c3
  have c4 : ¬ en.producer = 1099511627776 := c4
  have c5 : ¬ en.epoch = 1099511627776 := c5
  have c6 : ¬ en.seq = 1099511627776 := c6
  have hok : okN en.producer ∧ okN en.epoch ∧ okN en.seq := ⟨⟨c1.1, by have := c1.2; omega⟩, ⟨c2.1, by have := c2.2; omega⟩, ⟨c3.1, by have := c3.2; omega⟩⟩
  rw [if_neg (fun hh => hh hok)] at fin
  obtain ⟨sv, hsv, hget⟩ := fget_g r q (by omega) en.producer
  refine hget _ _ _ h fun w5 h => ?_
  have hsm := getP_small hR (id := en.producer)
  have hhas := idx_has (s := prs L) (id := en.producer)
  generalize getP (prs L) en.producer = p at *
  refine h.allocAg (ds := (p.raw sv).cs.toArray) z_api_Producer rfl ag_api_Producer rfl (fun v hv => Enc.one (p.raw sv) v hv) fun o w7 h => ?_
  have h : Rel B' w7 [cellD b T_api_Entry en.cs.toArray, cellD o T_api_Producer (p.raw sv).cs.toArray] := h
  simp -zeta only [field_addr f_api_Producer_1, field_addr f_api_Producer_2, field_addr f_api_Producer_3, Nat.zero_add, h.ld 0 rfl sc_int (o := 2) rfl, h.ld 0 rfl sc_int (o := 3) rfl, h.ld 1 rfl sc_int (o := 1) rfl, h.ld 1 rfl sc_int (o := 2) rfl, bin_lss, bin_gtr, ifB_dec]
  refine ⟨fun c => fin (0, 18) _ _ (by rw [if_pos c]) h, fun c7 => ?_⟩
  have c7 : ¬ en.epoch < p.epoch := c7
  rw [if_neg c7] at fin
  refine ⟨fun c => fin (0, 25) _ _ (by rw [if_pos c]) h, fun c8 => ?_⟩
  have c8 : ¬ p.epoch < en.epoch := c8
  rw [if_neg c8] at fin
  refine ⟨fun c => fin (0, 19) _ _ (by rw [if_pos c]) h, fun c9 => ?_⟩
  have c9 : ¬ p.next < en.seq := c9
  rw [if_neg c9] at fin
  refine LETJ_intro fun J hJ => ?_
  replace hJ : ¬ (hasP (prs L) en.producer = false ∧ 50 ≤ (prs L).length) → ∀ w', Rel B' w' [cellD b T_api_Entry en.cs.toArray, cellD o T_api_Producer (p.raw sv).cs.toArray] → J () w' := by
    intro c10 w8 h
    refine hJ _ _ ?_
    clear hJ
    rw [if_neg c10] at fin
    simp -zeta only [h.ld 0 rfl sc_int (o := 3) rfl, h.ld 1 rfl sc_int (o := 2) rfl, h.ld 1 rfl sc_s_int (o := 3) rfl, bin_eql, ifB_dec, bin_sub, bin_gtr]
    refine ⟨fun c => fin (0, 0) _ _ (by rw [if_pos c]) h, fun c11 => ?_⟩
    have c11 : ¬ en.seq = p.next := c11
    rw [if_neg c11] at fin
    have hs0 := c3.1
    have hw : IntKind.i64.wrap (p.next - en.seq) = p.next - en.seq := wrap_id (by omega) (by omega)
    have hw : IntKind.i64.wrap ((p.raw sv).next - en.seq) = p.next - en.seq := hw
    have hlr : ∀ {Kp : Value → Prop} {w : World} {U : TypeId} {bs : Array Bool}, readK Tryz.prog (sBlt .len #[T_s_int] U bs #[(p.raw sv).last.1]) w Kp = Kp (.int .i64 p.last.length) := fun {_ _ _ _} => rowR.len hsv sl_s_int
    simp -zeta only [hw, hlr, bin_gtr, ifB_dec]
    refine ⟨fun c => fin (-1, 5) _ _ (by rw [if_neg (by omega)]) h, fun c12 => ?_⟩
    have hi : (p.last.length : Int) - (p.next - en.seq) = (((p.last.length : Int) - (p.next - en.seq)).toNat : Int) := by omega
    have hlt : ((p.last.length : Int) - (p.next - en.seq)).toNat < p.last.length := by omega
    rw [if_pos (by omega)] at fin
    generalize hn : ((p.last.length : Int) - (p.next - en.seq)).toNat = n at *
    have hw2 : IntKind.i64.wrap ((p.last.length : Int) - (p.next - en.seq)) = (n : Int) := by rw [wrap_id (by omega) (by omega)]; exact hi
    obtain ⟨qq, q1, q2⟩ := rowR.at_sc hsv h sl_s_int hlt sc_int (x := .int .i64 p.last[n]) rfl
    have q1 : ∀ {Kp : Value → Prop}, pureK Tryz.prog (sIdxAddr T_s_int (p.raw sv).last.1 (.int .i64 (n : Int))) Kp = Kp qq := q1
    simp -zeta only [bin_sub, hw2, q1, q2]
    refine fin (p.last[n], 5) _ _ ?_ h
    rw [List.getD_eq_getElem?_getD, List.getElem?_eq_getElem hlt]
    rfl
  simp -zeta only [h.ld 0 rfl sc_int (o := 1) rfl]
  refine h.ask (fun B2 own base2 => ffind_g (base2 r) (by omega) en.producer) fun w9 h => ?_
  simp -zeta only [bin_lss, ifB_dec]
  refine ⟨fun c => ?_, fun c => hJ (fun hh => c (hhas.2 hh.1)) _ h⟩
  simp -zeta only [rowR.len r sl_s_api_Producer]
  rw [hal, bin_geq, ifB_dec]
  refine ⟨fun c10 => fin (0, 6) _ _ (by rw [if_pos ⟨hhas.1 c, by rw [hpl]; omega⟩]) h, fun c10 => hJ (fun hh => c10 (by have := hh.2; rw [hpl] at this; omega)) _ h⟩
set_option maxHeartbeats 1000000 in
theorem fset_m {v : Value} {L : PrL} (r : rowR v (praws L) B) (hl : L.length ≤ 1000000) (p : Pr) (sv : SV) :
    Makes Tryz.prog B (sCall F_errataref10_set #[v, (p.raw sv).v]) fun u τ => τ = [rowD T_api_Producer u (praws (setL (p, sv) L false))] := by
  refine Makes.intro fun B' w K base h k => ?_
  replace r := base r
  have hal : ∀ L : PrL, (praws L).length = L.length := fun L => List.length_map ..
  refine errataref10_set.up (errataref10_set.call ?_)
  unfold errataref10_set.pt
  refine h.box fun b w1 h => ?_
  have h : Rel B' w1 [cellD b T_api_Producer (p.raw sv).cs.toArray] := h
  have h := h.addNil PrD T_api_Producer
  have h : Rel B' w1 [cellD b T_api_Producer (p.raw sv).cs.toArray, rowD T_api_Producer (.slice none 0 0) (praws [])] := h
  have hT := setL_len (q := (p, sv)) L false
  generalize hTT : setL (p, sv) L false = R at *
  refine LOOP_intro (fun x w' => ∃ (i : Nat) (u : Value) (d : Bool) (L' : PrL), i ≤ L.length ∧ x = (u, .bool d, .int .i64 i, ()) ∧ L' ++ setL (p, sv) (L.drop i) d = R ∧ Rel B' w' [cellD b T_api_Producer (p.raw sv).cs.toArray, rowD T_api_Producer u (praws L')]) (fun x _ => L.length - (match x.2.2.1 with | .int _ n => n.toNat | _ => 0))
    ⟨0, _, false, [], Nat.zero_le _, rfl, hTT, h⟩ ?_
  clear h
  rintro x w2 ⟨i, u, d, L', hi, rfl, hR, h⟩ next hnext
  simp -zeta only [rowR.len r sl_s_api_Producer]
  rw [hal]
  simp -zeta only [bin_lss, ifB_dec]
  have hlR := congrArg List.length hR
  rw [List.length_append] at hlR
  refine ⟨fun hlt => ?_, fun hge => ?_⟩
  · have hil : i < L.length := by omega
    rw [setL_drop hil] at hR hlR
    unfold setAt at hR hlR
    rw [← List.append_assoc, ← List.append_assoc] at hR
    rw [List.length_append, List.length_append] at hlR
    obtain ⟨g, o, hx, hc⟩ := rowR.idx r sl_s_api_Producer (P := Tryz.prog) (i := i) (by rw [hal]; exact hil)
    have hel : (praws L)[i]'(by rw [hal]; exact hil) = L[i].1.raw L[i].2 := by simp [praws]
    rw [hel] at hc
    have hc : cellsR g o (L[i].1.raw L[i].2).cs B' := hc
    refine LETJ_intro fun J1 hJ1 => ?_
    replace hJ1 : ∀ (u' : Value) (L'' : PrL) w', L'' ++ setL (p, sv) (L.drop (i + 1)) (d || decide (p.id ≤ L[i].1.id)) = R → Rel B' w' [cellD b T_api_Producer (p.raw sv).cs.toArray, rowD T_api_Producer u' (praws L'')] → J1 (u', .bool (d || decide (p.id ≤ L[i].1.id)), ()) w' := by
      intro u' L'' w' hR' h
      refine hJ1 _ _ ?_
      rw [bin_add, wrap_id (by omega) (by omega)]
      exact hnext _ _ ⟨i + 1, u', _, L'', hil, rfl, hR', h⟩ (by simp only; omega)
    clear hnext
    refine LETJ_intro fun J2 hJ2 => ?_
    replace hJ2 : ∀ (u' : Value) (w' : World), Rel B' w' [cellD b T_api_Producer (p.raw sv).cs.toArray, rowD T_api_Producer u' (praws (L' ++ (if d = false ∧ p.id ≤ L[i].1.id then [(p, sv)] else [])))] → J2 (u', .bool (d || decide (p.id ≤ L[i].1.id)), ()) w' := by
      intro u' w' h
      refine hJ2 _ _ ?_
      clear hJ2
      generalize (if d = false ∧ p.id ≤ L[i].1.id then [(p, sv)] else ([] : PrL)) = A at h hR hlR
      have h := h.tick
      simp -zeta only [hx, field_addr f_api_Producer_0, Nat.add_zero, cellsR.ld0 (h.hereB hc) sc_int rfl, h.ld 0 rfl sc_int (o := 0) rfl, cellsR.ldAg (h.hereB hc) ag_api_Producer rfl, bin_neq, ifB_not, ifB_dec]
      refine ⟨fun c => ?_, fun c => ?_⟩
      · have c : L[i].1.id = p.id := c
        rw [if_neg (fun hh => hh c), List.append_nil] at hR
        exact hJ1 _ _ _ hR h
      · have c : L[i].1.id ≠ p.id := c
        rw [if_pos c] at hR hlR
        rw [List.length_singleton] at hlR
        have hA : (praws (L' ++ A)).length + 1 ≤ R.length := by rw [hal, List.length_append]; omega
        refine h.push1 (α := PrD) 1 rfl (L[i].1.raw L[i].2) sl_s_api_Producer (by decide) (by omega) (by omega) fun u3 w7 h => ?_
        refine hJ1 u3 (L' ++ A ++ [L[i]]) _ hR ?_
        have e : praws (L' ++ A ++ [L[i]]) = praws (L' ++ A) ++ [L[i].1.raw L[i].2] := by simp [praws]
        rw [e]
        exact h
    clear hJ1
    rw [un_not, ifB_not, ifB_bool]
    refine ⟨fun e => ?_, fun e => ?_⟩
    · subst e
      have := hJ2 u (tick w2)
      rw [if_neg (fun hh => by cases hh.1), List.append_nil, Bool.true_or] at this
      exact this h.tick
    · subst e
      have h := h.tick
      simp -zeta only [hx, field_addr f_api_Producer_0, Nat.add_zero, cellsR.ld0 (h.hereB hc) sc_int rfl, h.ld 0 rfl sc_int (o := 0) rfl, h.ldAg 0 rfl ag_api_Producer rfl, bin_geq, ifB_dec]
      refine ⟨fun c => ?_, fun c => ?_⟩
      · have c : p.id ≤ L[i].1.id := c
        rw [if_pos ⟨rfl, c⟩, List.length_singleton] at hlR
        have hA : (praws L').length + 1 ≤ R.length := by rw [hal]; omega
        refine h.push1 (α := PrD) 1 rfl (p.raw sv) sl_s_api_Producer (by decide) (by omega) (by omega) fun u3 w7 h => ?_
        have := hJ2 u3 w7
        rw [if_pos ⟨rfl, c⟩, decide_eq_true c, Bool.or_true] at this
        refine this ?_
        have e : praws (L' ++ [(p, sv)]) = praws L' ++ [p.raw sv] := by simp [praws]
        rw [e]
        exact h
      · have c : ¬ p.id ≤ L[i].1.id := c
        have := hJ2 u (tick w2)
        rw [if_neg (fun hh => c hh.2), decide_eq_false c, Bool.or_self, List.append_nil] at this
        exact this h
  · have hie : i = L.length := by omega
    subst hie
    rw [List.drop_length] at hR hlR
    unfold setL at hR hlR
    refine LETJ_intro fun J3 hJ3 => ?_
    replace hJ3 : ∀ (u' : Value) w', Rel B' w' [cellD b T_api_Producer (p.raw sv).cs.toArray, rowD T_api_Producer u' (praws R)] → J3 (u', ()) w' := by
      intro u' w' h
      refine hJ3 _ _ ?_
      have h := h.pick [1] (by decide)
      exact k _ _ _ rfl h
    rw [un_not, ifB_not, ifB_bool]
    refine ⟨fun e => ?_, fun e => ?_⟩
    · subst e
      rw [if_pos rfl, List.append_nil] at hR
      subst hR
      exact hJ3 _ _ h
    · subst e
      rw [if_neg (by decide)] at hR hlR
      rw [List.length_singleton] at hlR
      have hA : (praws L').length + 1 ≤ R.length := by rw [hal]; omega
      simp -zeta only [h.ldAg 0 rfl ag_api_Producer rfl]
      refine h.push1 (α := PrD) 1 rfl (p.raw sv) sl_s_api_Producer (by decide) (by omega) (by omega) fun u3 w7 h => ?_
      refine hJ3 u3 _ ?_
      have e : praws R = praws L' ++ [p.raw sv] := by rw [← hR]; simp [praws]
      rw [e]
      exact h
end
end Go.Proofs.YtefinemhfgdpdaaGreatDoor
