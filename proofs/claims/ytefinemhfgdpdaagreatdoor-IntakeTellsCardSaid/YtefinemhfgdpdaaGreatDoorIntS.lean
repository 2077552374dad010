/-
  The reference of chapter 10: Put, Fence, SameNums, Same, Bytes. No condition.
-/
import Derived.Test.YtefinemhfgdpdaaGreatDoorIntR
import Derived.Test.YtefinemhfgdpdaaGreatDoorWiR
namespace Go.Proofs.YtefinemhfgdpdaaGreatDoor
open Go.RowKit
set_option maxRecDepth 100000

section
variable {B : Base} {w : World}
theorem NextT.same {v u : Value} {L : PrL} : NextT v L u (prs L) [rowD T_api_Producer u (praws L)] := fun B h1 h2 => ⟨L, rfl, rowD.read (Dat.star.left h2), h1.2⟩
theorem NextT.set {v u : Value} {L : PrL} {p : Pr} {sv : SV} {τ : List Dat} (hA : Asc (prs L)) (hq : ∀ B : Base, (tabL v L) B → (stars τ) B → rowR sv.1 p.last B) : NextT v L u (withS (prs L) p) (rowD T_api_Producer u (praws (setL (p, sv) L false)) :: τ) := fun B h1 h2 => by
  refine ⟨setL (p, sv) L false, setL_with hA, rowD.read (Dat.star.left h2), fun x hx => ?_⟩
  rcases setL_mem x hx with hx | rfl
  · exact h1.2 x hx
  · exact hq B h1 (Dat.star.right h2)
set_option maxHeartbeats 1000000 in
theorem fPut_m {v : Value} {L : PrL} (r : rowR v (praws L) B) (q : prows L B) (hR : RightT (prs L)) (en : D_api_Entry) (pos : Int) :
    Makes Tryz.prog B (sCall F_errataref10_Put #[v, en.v, .int .i64 pos]) fun u τ => NextT v L u (putS (prs L) en.producer en.epoch en.seq pos) τ := by
  refine Makes.intro fun B' w K base h k => ?_
  replace r := base r
  replace q := base q
  have hal : (praws L).length = L.length := List.length_map ..
  have hpl : (prs L).length = L.length := List.length_map ..
  have hlen := hR.len
  rw [hpl] at hlen
  refine errataref10_Put.up (errataref10_Put.call ?_)
  unfold errataref10_Put.pt
  have fin : ∀ (s : List Pr) u τ w', putS (prs L) en.producer en.epoch en.seq pos = s → NextT v L u s τ → Rel B' w' τ → K u w' := fun s u τ w' e hn h => k u τ w' (by rw [e]; exact hn) h
  clear k
  unfold putS at fin
  refine h.box fun b w1 h => ?_
  have h : Rel B' w1 [cellD b T_api_Entry en.cs.toArray] := h
  rw [h.ldAg 0 rfl ag_api_Entry rfl]
  refine h.ask (fun B2 own base2 => fLook_g (base2 r) (base2 q) hR en) fun w2 h => ?_
  simp -zeta only [ext_2_0, ext_2_1, field_addr f_api_Entry_1, Nat.zero_add, h.ld 0 rfl sc_int (o := 1) rfl]
  obtain ⟨sv, hsv, hget⟩ := fget_g r q (by omega) en.producer
  refine hget _ _ _ h fun w3 h => ?_
  clear hget
  have hsm := getP_small hR (id := en.producer)
  have hlk : (lookS (prs L) en.producer en.epoch en.seq).2 = 0 → okN en.producer := fun hh => (look_ok hh).1.1
  generalize getP (prs L) en.producer = p at *
  refine h.allocAg (ds := (p.raw sv).cs.toArray) z_api_Producer rfl ag_api_Producer rfl (fun v hv => Enc.one (p.raw sv) v hv) fun o w5 h => ?_
  have h : Rel B' w5 [cellD b T_api_Entry en.cs.toArray, cellD o T_api_Producer (p.raw sv).cs.toArray] := h
  have cl : ∀ w', (if (lookS (prs L) en.producer en.epoch en.seq).2 ≠ 0 then prs L else if ¬ inP pos then prs L else if 0 < p.last.length ∧ pos ≤ p.last.getD (p.last.length - 1) 0 then prs L else withS (prs L) (putP p pos)) = prs L →
      Rel B' w' [cellD b T_api_Entry en.cs.toArray, cellD o T_api_Producer (p.raw sv).cs.toArray] → upK Tryz.prog (sBuildSlice T_s_api_Producer 0 #[]) w' fun t w1 => upK Tryz.prog (sBlt .append #[T_s_api_Producer, T_s_api_Producer] T_s_api_Producer #[false, false] #[t, v]) w1 fun t w => K t w := by
    intro w' e h
    refine h.build0 (α := PrD) sl_s_api_Producer fun v0 w6 h _ => ?_
    refine h.append 2 rfl sl_s_api_Producer (l2 := praws L) (Rd.base r) (by simp only [List.length_nil]; omega) (by simp only [List.length_nil]; omega) fun u w7 h => ?_
    have h := h.pick [2] (by decide)
    exact fin (prs L) u [rowD T_api_Producer u (praws L)] _ e NextT.same h
  refine LETJ_intro fun J hJ => ?_
  replace hJ : (lookS (prs L) en.producer en.epoch en.seq).2 = 0 → inP pos → ¬ (0 < p.last.length ∧ pos ≤ p.last.getD (p.last.length - 1) 0) → ∀ w', Rel B' w' [cellD b T_api_Entry en.cs.toArray, cellD o T_api_Producer (p.raw sv).cs.toArray] → J () w' := by
    intro c1 c2 c3 w5 h
    refine hJ _ _ ?_
    clear hJ cl
    rw [if_neg (fun hh => hh c1), if_neg (fun hh => hh c2), if_neg c3] at fin
    have hin := hlk c1
    simp -zeta only [field_addr f_api_Producer_2, field_addr f_api_Producer_3, Nat.zero_add, h.ld 1 rfl sc_int (o := 2) rfl, bin_add]
    rw [wrap_id (by omega) (by omega)]
    refine h.st 1 rfl sc_int (show 2 < 4 by omega) rfl fun w6 h => ?_
    refine h.build0 (α := Int) sl_s_int fun v0 w7 h _ => ?_
    have h : Rel B' w7 [cellD b T_api_Entry en.cs.toArray, cellD o T_api_Producer (({ p with next := p.next + 1 } : Pr).raw sv).cs.toArray, rowD T_int v0 ([] : List Int)] := h
    simp -zeta only [h.ld 1 rfl sc_s_int (o := 3) (v := sv.1) rfl]
    refine h.append 2 rfl sl_s_int (l2 := p.last) (Rd.base hsv) (by simp only [List.length_nil]; omega) (by simp only [List.length_nil]; omega) fun v1 w8 h => ?_
    refine h.push1 (α := Int) 2 rfl pos sl_s_int (by decide) (by simp only [List.nil_append]; omega) (by simp only [List.nil_append]; omega) fun v2 w9 h => ?_
    have h1 : v2.oneCell' = true := h.oneCell (i := 2) rfl
    refine h.st 1 rfl sc_s_int (show 3 < 4 by omega) h1 fun w10 h => ?_
    have h : Rel B' w10 [cellD b T_api_Entry en.cs.toArray, cellD o T_api_Producer (({ p with next := p.next + 1 } : Pr).raw ⟨v2, h1⟩).cs.toArray, rowD T_int v2 (p.last ++ [pos])] := h
    have hl2 : (p.last ++ [pos]).length = p.last.length + 1 := by simp
    refine LETJ_intro fun J2 hJ2 => ?_
    replace hJ2 : ∀ (s2 : SV) w', (∀ B : Base, rowR v2 (p.last ++ [pos]) B → rowR s2.1 (putP p pos).last B) → Rel B' w' [cellD b T_api_Entry en.cs.toArray, cellD o T_api_Producer ((putP p pos).raw s2).cs.toArray, rowD T_int v2 (p.last ++ [pos])] → J2 () w' := by
      intro s2 w' hs2 h
      refine hJ2 _ _ ?_
      rw [h.ldAg 1 rfl ag_api_Producer rfl]
      refine h.make (fun B2 own base2 => fset_m (base2 r) (by omega) (putP p pos) s2) fun u τ w12 hp h => ?_
      subst hp
      refine fin _ u [rowD T_api_Producer u (praws (setL (putP p pos, s2) L false)), rowD T_int v2 (p.last ++ [pos])] _ rfl ?_ (h.pick [3, 2] (by decide))
      exact NextT.set hR.pw fun B3 _ hB3 => hs2 B3 (rowD.read (Dat.star.left hB3))
    have hr2 : rowR v2 (p.last ++ [pos]) ⟨w10, fun _ => True⟩ := rowD.read (h.here (i := 2) rfl)
    simp -zeta only [h.ld 1 rfl sc_s_int (o := 3) (v := v2) rfl, rowR.len hr2 sl_s_int, bin_gtr, ifB_dec]
    refine ⟨fun c => ?_, fun c => ?_⟩
    · have hlen21 : p.last.length = 20 := by omega
      rw [rowR.cutE hr2 sl_s_int (lo := 1) (hi := (p.last ++ [pos]).length) (lov := some (.int .i64 1)) (.inr rfl) Bnd.none (by omega) (Nat.le_refl _)]
      have hc1 : (cutV (Enc.sz Int) v2 1 (p.last ++ [pos]).length).oneCell' = true := rowR.oneCell (rowR.cutR hr2 (by omega) (Nat.le_refl _))
      refine h.st 1 rfl sc_s_int (show 3 < 4 by omega) hc1 fun w11 h => ?_
      refine hJ2 ⟨_, hc1⟩ _ (fun B3 hB3 => ?_) h
      have := rowR.cutR hB3 (lo := 1) (hi := (p.last ++ [pos]).length) (by omega) (Nat.le_refl _)
      rw [List.take_length] at this
      show rowR _ ((p.last ++ [pos]).drop ((p.last ++ [pos]).length - 20)) B3
      rw [show (p.last ++ [pos]).length - 20 = 1 by omega]
      exact this
    · refine hJ2 ⟨v2, h1⟩ _ (fun B3 hB3 => ?_) h
      show rowR _ ((p.last ++ [pos]).drop ((p.last ++ [pos]).length - 20)) B3
      rw [show (p.last ++ [pos]).length - 20 = 0 by omega, List.drop_zero]
      exact hB3
  rw [bin_neq, ifB_not, ifB_dec]
  refine ⟨fun c1 => ?_, fun c1 => cl _ (by rw [if_pos c1]) h⟩
  have c1 : (lookS (prs L) en.producer en.epoch en.seq).2 = 0 := c1
  refine h.ask (fun B2 own base2 => rin_g pos) fun w5 h => ?_
  rw [un_not, ifB_not, ifB_dec]
  refine ⟨fun c2 => ?_, fun c2 => cl _ (by rw [if_neg (fun hh => hh c1), if_pos c2]) h⟩
  simp -zeta only [field_addr f_api_Producer_3, Nat.zero_add, h.ld 1 rfl sc_s_int (o := 3) (v := sv.1) rfl, rowR.len hsv sl_s_int, bin_gtr, ifB_dec]
  refine ⟨fun c3 => ?_, fun c3 => hJ c1 c2 (fun hh => c3 (by omega)) _ h⟩
  have hw : IntKind.i64.wrap ((p.last.length : Int) - 1) = ((p.last.length : Int) - 1) := wrap_id (by omega) (by omega)
  have hmx : max ((p.last.length : Int) - 1) 0 = ((p.last.length - 1 : Nat) : Int) := by omega
  have hml : p.last.length - 1 < p.last.length := by omega
  obtain ⟨a, q1, q2⟩ := rowR.at_sc hsv h sl_s_int hml sc_int (x := .int .i64 p.last[p.last.length - 1]) rfl
  have hgd : p.last.getD (p.last.length - 1) 0 = p.last[p.last.length - 1] := by rw [List.getD_eq_getElem?_getD, List.getElem?_eq_getElem hml]; rfl
  simp -zeta only [bin_sub, hw, blt_max, hmx, q1, q2, bin_leq, ifB_dec]
  exact ⟨fun c4 => cl _ (by rw [if_neg (fun hh => hh c1), if_neg (fun hh => hh c2), if_pos ⟨by omega, by rw [hgd]; exact c4⟩]) h, fun c4 => hJ c1 c2 (fun hh => c4 (by rw [← hgd]; exact hh.2)) _ h⟩
theorem NextT.nil {v : Value} {L : PrL} {τ : List Dat} : NextT v L (.slice none 0 0) [] τ := fun B _ _ => ⟨[], rfl, ⟨none, 0, rfl, Nat.le_refl _, .inl rfl⟩, fun x hx => by cases hx⟩
theorem fFence_m {v : Value} {L : PrL} (r : rowR v (praws L) B) (q : prows L B) (hR : RightT (prs L)) (id : Int) :
    Makes Tryz.prog B (sCall F_errataref10_Fence #[v, .int .i64 id]) fun u τ => ∃ tv, u = .tuple #[tv, .int .i64 (fenceS (prs L) id).2.1, .int .i64 (fenceS (prs L) id).2.2] ∧ NextT v L tv (fenceS (prs L) id).1 τ := by
  refine Makes.intro fun B' w K base h k => ?_
  replace r := base r
  replace q := base q
  have hpl : (prs L).length = L.length := List.length_map ..
  have hal : (praws L).length = L.length := List.length_map ..
  have hlen := hR.len
  rw [hpl] at hlen
  refine errataref10_Fence.up (errataref10_Fence.call ?_)
  unfold errataref10_Fence.pt
  have fin : ∀ (x : List Pr × Int × Int) tv τ w', fenceS (prs L) id = x → NextT v L tv x.1 τ → Rel B' w' τ → K (.tuple #[tv, .int .i64 x.2.1, .int .i64 x.2.2]) w' := fun x tv τ w' e hn h => k _ τ w' ⟨tv, by rw [e], by rw [e]; exact hn⟩ h
  clear k
  unfold fenceS at fin
  obtain ⟨sv, hsv, hget⟩ := fget_g r q (by omega) id
  refine hget _ _ _ h fun w1 h => ?_
  clear hget
  have hsm := getP_small hR (id := id)
  have hhas := idx_has (s := prs L) (id := id)
  generalize getP (prs L) id = p at *
  refine h.allocAg (ds := (p.raw sv).cs.toArray) z_api_Producer rfl ag_api_Producer rfl (fun v hv => Enc.one (p.raw sv) v hv) fun o w3 h => ?_
  have h : Rel B' w3 [cellD o T_api_Producer (p.raw sv).cs.toArray] := h
  refine h.ask (fun B2 own base2 => rin_g id) fun w4 h => ?_
  rw [un_not, ifB_not, ifB_dec]
  refine ⟨fun c1 => ?_, fun c1 => fin ([], 0, 1) _ _ _ (by rw [if_pos (.inl fun hh => c1 ⟨hh.1, by have := hh.2; omega⟩)]) NextT.nil h.nil⟩
  simp -zeta only [bin_eql, ifB_dec]
  refine ⟨fun c2 => fin ([], 0, 1) _ _ _ (by rw [if_pos (.inl fun hh => by have := hh.2; omega)]) NextT.nil h.nil, fun c2 => ?_⟩
  have c1 : okN id := ⟨c1.1, by have := c1.2; omega⟩
  simp -zeta only [field_addr f_api_Producer_1, Nat.zero_add, h.ld 0 rfl sc_int (o := 1) rfl, bin_eql, ifB_dec]
  refine ⟨fun c3 => fin ([], 0, 1) _ _ _ (by rw [if_pos (.inr c3)]) NextT.nil h.nil, fun c3 => ?_⟩
  have c3 : ¬ p.epoch = 1099511627776 := c3
  refine LETJ_intro fun J hJ => ?_
  replace hJ : ¬ (hasP (prs L) id = false ∧ 50 ≤ (prs L).length) → ∀ w', Rel B' w' [cellD o T_api_Producer (p.raw sv).cs.toArray] → J () w' := by
    intro c4 w5 h
    refine hJ _ _ ?_
    clear hJ
    rw [if_neg (fun hh => hh.elim (fun a => a c1) c3), if_neg c4] at fin
    have h := h.tick
    simp -zeta only [h.ld 0 rfl sc_int (o := 1) rfl, bin_add]
    have hw : IntKind.i64.wrap ((p.raw sv).epoch + 1) = p.epoch + 1 := wrap_id (by show _ ≤ p.epoch + 1; omega) (by show p.epoch + 1 ≤ _; omega)
    rw [hw, bd_api_Producer_0_1]
    refine h.make (fun B2 own base2 => fset_m (base2 r) (by omega) ⟨id, p.epoch + 1, 0, []⟩ nilSV) fun u τ w6 hp h => ?_
    subst hp
    refine ⟨h.is 0 rfl sc_int (o := 1) rfl, ?_⟩
    refine fin (withS (prs L) ⟨id, p.epoch + 1, 0, []⟩, p.epoch + 1, 0) u [rowD T_api_Producer u (praws (setL (⟨id, p.epoch + 1, 0, []⟩, nilSV) L false))] _ rfl ?_ (h.pick [1] (by decide))
    exact NextT.set hR.pw fun B3 _ _ => ⟨none, 0, rfl, Nat.le_refl _, .inl rfl⟩
  refine h.ask (fun B2 own base2 => ffind_g (base2 r) (by omega) id) fun w9 h => ?_
  simp -zeta only [bin_lss, ifB_dec]
  refine ⟨fun c => ?_, fun c => hJ (fun hh => c (hhas.2 hh.1)) _ h⟩
  simp -zeta only [rowR.len r sl_s_api_Producer]
  rw [hal, bin_geq, ifB_dec]
  refine ⟨fun c10 => fin ([], 0, 6) _ _ _ (by rw [if_neg (fun hh => hh.elim (fun a => a c1) c3), if_pos ⟨hhas.1 c, by rw [hpl]; omega⟩]) NextT.nil h.nil, fun c10 => hJ (fun hh => c10 (by have := hh.2; rw [hpl] at this; omega)) _ h⟩
theorem fSameNums_g {a b : Value} {l : List Int} (ra : rowR a l B) (rb : rowR b l B) (hl : l.length ≤ 4611686018427387904) : Gives Tryz.prog B (sCall F_errataref10_SameNums #[a, b]) (.bool true) := by
  refine Gives.intro fun B' w K base h k => ?_
  replace ra := base ra
  replace rb := base rb
  refine errataref10_SameNums.up (errataref10_SameNums.call ?_)
  unfold errataref10_SameNums.pt
  simp -zeta only [rowR.len ra sl_s_int, rowR.len rb sl_s_int, bin_neq, decide_true, Bool.not_true, ifB_false]
  refine LOOP_intro (fun x w' => ∃ i : Nat, i ≤ l.length ∧ x = (.int .i64 i, ()) ∧ Rel B' w' []) (fun x _ => l.length - (match x.1 with | .int _ n => n.toNat | _ => 0))
    ⟨0, Nat.zero_le _, rfl, h⟩ ?_
  clear h
  rintro x w1 ⟨i, hi, rfl, h⟩ next hnext
  simp -zeta only [bin_lss, ifB_dec]
  refine ⟨fun hlt => ?_, fun hge => k _ _ h⟩
  have hil : i < l.length := by omega
  have h := h.tick
  obtain ⟨q, q1, q2⟩ := rowR.at_sc ra h sl_s_int hil sc_int (x := .int .i64 l[i]) rfl
  obtain ⟨q', q3, q4⟩ := rowR.at_sc rb h sl_s_int hil sc_int (x := .int .i64 l[i]) rfl
  simp -zeta only [q1, q2, q3, q4, bin_neq, decide_true, Bool.not_true, ifB_false]
  rw [bin_add, wrap_id (by omega) (by omega)]
  exact hnext _ _ ⟨i + 1, hil, rfl, h⟩ (by simp only; omega)
theorem fSameT_g {a b : Value} {L M : PrL} (ra : rowR a (praws L) B) (qa : prows L B) (rb : rowR b (praws M) B) (qb : prows M B) (he : prs L = prs M) (hR : RightT (prs L)) : Gives Tryz.prog B (sCall F_errataref10_Same #[a, b]) (.bool true) := by
  refine Gives.intro fun B' w K base h k => ?_
  replace ra := base ra
  replace qa := base qa
  replace rb := base rb
  replace qb := base qb
  have hal : ∀ L : PrL, (praws L).length = L.length := fun L => List.length_map ..
  have hlm : L.length = M.length := by have := congrArg List.length he; rw [List.length_map, List.length_map] at this; exact this
  have hlen := hR.len
  rw [List.length_map] at hlen
  refine errataref10_Same.up (errataref10_Same.call ?_)
  unfold errataref10_Same.pt
  simp -zeta only [rowR.len ra sl_s_api_Producer, rowR.len rb sl_s_api_Producer]
  rw [hal, hal, hlm, bin_neq, decide_eq_true rfl, Bool.not_true, ifB_false]
  refine LOOP_intro (fun x w' => ∃ i : Nat, i ≤ M.length ∧ x = (.int .i64 i, ()) ∧ Rel B' w' []) (fun x _ => M.length - (match x.1 with | .int _ n => n.toNat | _ => 0))
    ⟨0, Nat.zero_le _, rfl, h⟩ ?_
  clear h
  rintro x w1 ⟨i, hi, rfl, h⟩ next hnext
  simp -zeta only [bin_lss, ifB_dec]
  refine ⟨fun hlt => ?_, fun hge => k _ _ h⟩
  have him : i < M.length := by omega
  have hil : i < L.length := by omega
  have h := h.tick
  obtain ⟨g, o, hx, hc⟩ := rowR.idx ra sl_s_api_Producer (P := Tryz.prog) (i := i) (by rw [hal]; exact hil)
  obtain ⟨g2, o2, hx2, hc2⟩ := rowR.idx rb sl_s_api_Producer (P := Tryz.prog) (i := i) (by rw [hal]; exact him)
  have e0 : M[i].1 = L[i].1 := by
    have h1 : (prs L)[i]'(by rw [List.length_map]; exact hil) = (prs M)[i]'(by rw [List.length_map]; exact him) := by simp only [he]
    simpa using h1.symm
  rw [show (praws L)[i]'(by rw [hal]; exact hil) = L[i].1.raw L[i].2 by simp [praws]] at hc
  rw [show (praws M)[i]'(by rw [hal]; exact him) = L[i].1.raw M[i].2 by rw [← e0]; simp [praws]] at hc2
  have hc : cellsR g o (L[i].1.raw L[i].2).cs B' := hc
  have hc2 : cellsR g2 o2 (L[i].1.raw M[i].2).cs B' := hc2
  have r1 := qa L[i] (List.getElem_mem hil)
  have r2 : rowR M[i].2.1 M[i].1.last B' := qb M[i] (List.getElem_mem him)
  rw [e0] at r2
  have hll := (hR.fine L[i].1 (List.mem_map_of_mem (List.getElem_mem hil))).len
  have hh := h.hereB hc
  have hh2 := h.hereB hc2
  simp -zeta only [hx, hx2, field_addr f_api_Producer_0, field_addr f_api_Producer_1, field_addr f_api_Producer_2, field_addr f_api_Producer_3, Nat.add_zero, cellsR.ld0 hh sc_int (v := .int .i64 L[i].1.id) rfl, cellsR.ld0 hh2 sc_int (v := .int .i64 L[i].1.id) rfl, cellsR.ld hh sc_int (j := 1) (v := .int .i64 L[i].1.epoch) rfl, cellsR.ld hh2 sc_int (j := 1) (v := .int .i64 L[i].1.epoch) rfl,
    cellsR.ld hh sc_int (j := 2) (v := .int .i64 L[i].1.next) rfl, cellsR.ld hh2 sc_int (j := 2) (v := .int .i64 L[i].1.next) rfl, cellsR.ld hh sc_s_int (j := 3) (v := L[i].2.1) rfl, cellsR.ld hh2 sc_s_int (j := 3) (v := M[i].2.1) rfl, bin_neq, decide_true, Bool.not_true, ifB_false]
  refine h.ask (fun B2 own base2 => fSameNums_g (base2 r1) (base2 r2) (by omega)) fun w2 h => ?_
  rw [un_not, Bool.not_true, ifB_false, bin_add, wrap_id (by omega) (by omega)]
  exact hnext _ _ ⟨i + 1, him, rfl, h⟩ (by simp only; omega)
theorem fTabBytes_g {v : Value} {L : PrL} (r : rowR v (praws L) B) (q : prows L B) (hR : RightT (prs L)) : Gives Tryz.prog B (sCall F_errataref10_Bytes #[v]) (.string (ofL (encTab (prs L)))) := by
  refine Gives.intro fun B' w K base h k => ?_
  replace r := base r
  replace q := base q
  refine errataref10_Bytes.up (errataref10_Bytes.call ?_)
  unfold errataref10_Bytes.pt
  have hal : (praws L).length = L.length := List.length_map ..
  have hpl : (prs L).length = L.length := List.length_map ..
  have hl := hR.len
  have hall := encTab_len hR
  simp -zeta only [rowR.len r sl_s_api_Producer]
  rw [hal]
  have hin : inI (L.length : Int) := ⟨by omega, by omega⟩
  refine h.ask (fun B2 own base2 => fNum_g hin) fun w2 h => ?_
  have en : encN (L.length : Int) = encI (prs L).length := by rw [hpl]; unfold encN; rw [if_neg (by omega)]
  rw [en]
  unfold encTab at hall k
  generalize hhd : encI ((prs L).length : Int) = hd at *
  refine LOOP_intro (fun x w' => ∃ i : Nat, i ≤ L.length ∧ x = (.string (ofL (hd ++ ((prs L).take i).flatMap encPr)), .int .i64 i, ()) ∧ Rel B' w' []) (fun x _ => L.length - (match x.2.1 with | .int _ n => n.toNat | _ => 0))
    ⟨0, Nat.zero_le _, by rw [List.take_zero, List.flatMap_nil, List.append_nil]; rfl, h⟩ ?_
  clear h
  rintro x w5 ⟨i, hi, rfl, h⟩ next hnext
  simp -zeta only [bin_lss, ifB_dec]
  refine ⟨fun hlt => ?_, fun hge => ?_⟩
  · have hil : i < L.length := by omega
    have h := h.tick
    obtain ⟨g, o, hx, hcl⟩ := rowR.idx r sl_s_api_Producer (P := Tryz.prog) (i := i) (by omega)
    have hel : (praws L)[i]'(by omega) = L[i].1.raw L[i].2 := by simp [praws]
    rw [hel] at hcl
    have hcl : cellsR g o (L[i].1.raw L[i].2).cs B' := hcl
    have hrow := q L[i] (List.getElem_mem hil)
    have hfine := hR.fine L[i].1 (List.mem_map_of_mem (List.getElem_mem hil))
    have hgood := hfine.good
    have hnx := hfine.next
    have hll := hfine.len
    have hstep := flat_take_succ encPr (l := prs L) (i := i) (by omega)
    rw [show (prs L)[i]'(by omega) = L[i].1 by simp] at hstep
    have hle := flat_take_le encPr (prs L) (i + 1)
    rw [hstep, List.length_append] at hle
    rw [List.length_append] at hall
    have hpe : encI L[i].1.id ++ encI L[i].1.epoch ++ encI L[i].1.next ++ encL encI L[i].1.last = encPr L[i].1 := rfl
    have hpel : (encI L[i].1.id).length + (encI L[i].1.epoch).length + (encI L[i].1.next).length + (encL encI L[i].1.last).length = (encPr L[i].1).length := by rw [← hpe]; simp only [List.length_append]
    have hh := fun {w : World} {τ : List Dat} (h : Rel B' w τ) => h.hereB hcl
    simp -zeta only [hx, field_addr f_api_Producer_0, field_addr f_api_Producer_1, field_addr f_api_Producer_2, field_addr f_api_Producer_3, Nat.add_zero, cellsR.ld0 (hh h) sc_int (v := .int .i64 L[i].1.id) rfl, cellsR.ld (hh h) sc_int (j := 1) (v := .int .i64 L[i].1.epoch) rfl, cellsR.ld (hh h) sc_int (j := 2) (v := .int .i64 L[i].1.next) rfl, cellsR.ld (hh h) sc_s_int (j := 3) (v := L[i].2.1) rfl]
    refine h.ask (fun B2 own base2 => fInt_g hgood.id) fun w7 h => ?_
    refine ⟨cellsR.is (hh h) sc_s_int (j := 3) rfl, cellsR.is (hh h) sc_int (j := 2) rfl, cellsR.is (hh h) sc_int (j := 1) rfl, ?_⟩
    rw [strL_add (by rw [List.length_append]; omega)]
    refine h.ask (fun B2 own base2 => fInt_g hgood.epoch) fun w8 h => ?_
    refine ⟨cellsR.is (hh h) sc_s_int (j := 3) rfl, cellsR.is (hh h) sc_int (j := 2) rfl, ?_⟩
    rw [strL_add (by simp only [List.length_append]; omega)]
    refine h.ask (fun B2 own base2 => fInt_g hgood.next) fun w9 h => ?_
    refine ⟨cellsR.is (hh h) sc_s_int (j := 3) rfl, ?_⟩
    rw [strL_add (by simp only [List.length_append]; omega)]
    refine h.ask (fun B2 own base2 => fNums_g (base2 hrow) hgood.last (by omega) (by rw [List.map_id]; omega)) fun w10 h => ?_
    rw [List.map_id, strL_add (by simp only [List.length_append]; omega), bin_add, wrap_id (by omega) (by omega)]
    refine hnext _ _ ⟨i + 1, hil, ?_, h⟩ (by simp only; omega)
    rw [hstep, ← hpe]
    simp only [List.append_assoc]
    rfl
  · have hie : i = L.length := by omega
    subst hie
    have e : (prs L).take L.length = prs L := List.take_of_length_le (by omega)
    rw [e]
    exact k _ _ h
end
end Go.Proofs.YtefinemhfgdpdaaGreatDoor
