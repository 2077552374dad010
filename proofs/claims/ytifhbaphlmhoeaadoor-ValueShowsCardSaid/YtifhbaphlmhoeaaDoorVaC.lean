/-
  ValueShows: what the law computes. No condition.
-/
import Derived.Test.YtifhbaphlmhoeaaDoorVaB
--@auto
namespace Go.Proofs.YtifhbaphlmhoeaaDoor
open Go.RowKit
set_option maxRecDepth 100000

theorem parse_wrong {v : ValD} (h : vRight v = false) : parseV (showS v) = none := by
  rw [show_wrong h]
  unfold parseV
  rw [if_neg (by decide), if_neg (by decide), intOf_none fun n _ hh => itoa_ne n hh.symm]
  simp only
  cases hu : unquoteS [] with
  | none => rfl
  | some t => have := unquote_back hu; unfold quoteS at this; cases this
theorem parse_is {v : ValD} (hn : inI v.n) : parseV (showS v) = if vRight v then some v else none := by
  cases h : vRight v
  · rw [parse_wrong h]; rfl
  · rw [parse_show h hn]; rfl
theorem parseRow_is {l : List ValD} (hn : ∀ v ∈ l, inI v.n) : parseRowS (showRowS l) = if l.all vRight then some l else none := by
  cases h : l.all vRight
  · unfold showRowS
    rw [if_neg (by rw [h]; decide), parseRow_nil]; rfl
  · rw [parseRow_show fun v hv => ⟨List.all_eq_true.1 h v hv, hn v hv⟩]; rfl
theorem joinL_max : ∀ (l : List Bs), l.length ≤ (joinL l).length + 1 ∧ ∀ x ∈ l, x.length ≤ (joinL l).length
  | [] => ⟨Nat.zero_le _, fun x hx => by cases hx⟩
  | [a] => ⟨by simp, fun x hx => by rw [List.mem_singleton.1 hx]; exact Nat.le_refl _⟩
  | a :: b :: r => by
    obtain ⟨h1, h2⟩ := joinL_max (b :: r)
    show (a :: b :: r).length ≤ (a ++ sepL ++ joinL (b :: r)).length + 1 ∧ ∀ x ∈ a :: b :: r, x.length ≤ (a ++ sepL ++ joinL (b :: r)).length
    have e : (a ++ sepL ++ joinL (b :: r)).length = a.length + 2 + (joinL (b :: r)).length := by
      rw [List.length_append, List.length_append]; rfl
    rw [e]
    refine ⟨by simp only [List.length_cons] at h1 ⊢; omega, fun x hx => ?_⟩
    rcases List.mem_cons.1 hx with rfl | hx
    · omega
    · have := h2 x hx; omega
section
variable {W : World} {w : World} {K : Value → World → Prop}
theorem valueShows_pt {r0 : Value} {l : List ValD} {s1 : ByteArray} (hB : wireD (lawB W)) (r : rowR r0 l (lawB W)) (hl : l.length ≤ maxLen) (hok : ∀ v ∈ l, ok_api_Value W v) (wx1 : s1.size ≤ maxLen)
    (fin : ∀ w' σ, Rel (lawB W) w' σ → K (.bool true) w') : erratalaw03_ValueShows.pt r0 (.string s1) W K := by
  unfold erratalaw03_ValueShows.pt
  have h := lawB.start W
  refine h.ask (fun B2 own base2 => small_g (base2 hB)) fun w1 h => ?_
  refine h.ask (fun B2 own base2 => short_g (base2 r) hl 15) fun w2 h => ?_
  rw [un_not, ifB_not, ifB_bool]
  refine ⟨fun hs => ?_, fun _ => fin _ _ h⟩
  obtain ⟨hl1, hs1⟩ := bnd_law r hs (by omega)
  simp -zeta only [len_string U_string, bin_gtr, ifB_dec]
  refine ⟨fun _ => fin _ _ h, fun ht => ?_⟩
  obtain ⟨t, rfl⟩ : ∃ t : Bs, s1 = ofL t := ⟨bl s1, (ofL_bl s1).symm⟩
  rw [ofL_size] at ht
  have hn : ∀ v ∈ l, inI v.n := fun v hv => (hok v hv).2.1
  refine LOOP_intro (fun x w' => ∃ i : Nat, i ≤ l.length ∧ x = (.bool ((l.take i).all vRight), .int .i64 i, ()) ∧ Rel (lawB W) w' []) (fun x _ => l.length - (match x.2.1 with | .int _ n => n.toNat | _ => 0))
    ⟨0, Nat.zero_le _, rfl, h⟩ ?_
  clear h
  rintro x w3 ⟨i, hi, rfl, h⟩ next hnext
  simp -zeta only [rowR.len r sl_s_api_Value, bin_lss, ifB_dec]
  refine ⟨fun hlt => ?_, fun hge => ?_⟩
  · have hil : i < l.length := by omega
    refine LETJ_intro fun J1 hJ1 => ?_
    replace hJ1 : ∀ w' σ, Rel (lawB W) w' σ → J1 (.bool ((l.take (i + 1)).all vRight), ()) w' := fun w' σ h => by
      refine hJ1 _ _ ?_
      rw [bin_add, wrap_id (by omega) (by omega)]
      exact hnext _ _ ⟨i + 1, hil, rfl, h.nil⟩ (by simp only; omega)
    have e1 : (l.take (i + 1)).all vRight = ((l.take i).all vRight && vRight l[i]) := by
      rw [List.take_succ_eq_append_getElem hil, List.all_append]; simp
    obtain ⟨g, o, hx, hcl⟩ := rowR.idx r sl_s_api_Value (P := Tryd.prog) hil
    have hcl : cellsR g o l[i].cs (lawB W) := hcl
    have hni := hn l[i] (List.getElem_mem hil)
    have hsi := hs1 l[i] (List.getElem_mem hil)
    rw [hx, cellsR.ldAg (h.hereB hcl) ag_api_Value rfl]
    refine h.ask (fun B2 own base2 => show_g (base2 hB) hni (by omega)) fun w5 h => ?_
    have hsl := show_len (v := l[i]) hni
    refine h.ask (fun B2 own base2 => parse_g (base2 hB) (by omega)) fun w6 h => ?_
    rw [parse_is hni]
    simp -zeta only [ext_2_0, ext_2_1]
    have e2 : (if vRight l[i] = true then some l[i] else none : Option ValD).isSome = vRight l[i] := by cases vRight l[i] <;> rfl
    rw [e2]
    generalize hx0 : (if vRight l[i] = true then some l[i] else none : Option ValD).getD vZero = x
    refine h.allocAg (ds := x.cs.toArray) z_api_Value rfl ag_api_Value rfl (fun v hv => Enc.one x v hv) fun a w8 h => ?_
    have h : Rel (lawB W) w8 [cellD a T_api_Value x.cs.toArray] := h
    refine LETJ_intro fun J2 hJ2 => ?_
    replace hJ2 : ∀ w' σ, Rel (lawB W) w' σ → J2 () w' := fun w' σ h => by
      refine hJ2 _ _ ?_
      rw [ifB_bool]
      refine ⟨fun c => ?_, fun c => ?_⟩
      · have := hJ1 w' σ h
        rw [e1, c, Bool.true_and] at this; exact this
      · have := hJ1 w' σ h
        rw [e1, c, Bool.false_and] at this; exact this
    have h := h.tick
    rw [hx, cellsR.ldAg (h.hereB hcl) ag_api_Value rfl]
    refine h.ask (fun B2 own base2 => vRight_g l[i]) fun w10 h => ?_
    rw [bin_neq_bool U_bool, show (vRight l[i] == vRight l[i]) = true by simp, Bool.not_true, ifB_false, ifB_bool]
    refine ⟨fun c => ?_, fun c => hJ2 _ _ h⟩
    rw [c, if_pos rfl, Option.getD_some] at hx0
    subst hx0
    rw [h.ldAg 0 rfl ag_api_Value rfl, hx, cellsR.ldAg (h.hereB hcl) ag_api_Value rfl]
    rw [show (Value.agg l[i].cs.toArray) = l[i].v from rfl, neq_api_Value, decide_eq_true rfl, Bool.not_true, ifB_false]
    exact hJ2 _ _ h
  clear hnext
  have hie : i = l.length := by omega
  subst hie
  rw [List.take_length]
  refine h.ask (fun B2 own base2 => showRow_g (base2 hB) (base2 r) (by omega) fun v hv => ⟨hn v hv, by have := hs1 v hv; omega⟩) fun w11 h => ?_
  have hrow : (showRowS l).length ≤ 1099511627776 := by
    unfold showRowS
    split
    · have hj := joinL_len (l.map showS) 1000 fun x hx => by
        obtain ⟨v, hv, rfl⟩ := List.mem_map.1 hx
        exact show_len (hn v hv)
      rw [List.length_map] at hj
      have : (1000 + 2) * l.length ≤ (1000 + 2) * 1000 := Nat.mul_le_mul_left _ hl1
      simp only [List.length_cons, List.length_append, List.length_nil]; omega
    · exact Nat.zero_le _
  refine h.make (fun B2 own base2 => parseRow_m (base2 hB) hrow) fun u τ w12 hp h => ?_
  rw [parseRow_is hn] at hp
  have hback : ∀ {m : List ValD}, parseRowS t = some m → showRowS m = t ∧ m.length ≤ 1000 ∧ ∀ v ∈ m, inI v.n ∧ (bl v.s).length ≤ 1099511627776 := fun {m} hm => by
    obtain ⟨e1, e2⟩ := parseRow_back hm
    refine ⟨e1, ?_, fun v hv => ⟨(e2 v hv).2.1, by have := (e2 v hv).2.2.2; omega⟩⟩
    have e3 : showRowS m = 40 :: (joinL (m.map showS) ++ [41]) := by
      unfold showRowS
      rw [if_pos (List.all_eq_true.2 fun v hv => (e2 v hv).1)]
    have e4 := congrArg List.length (e3.symm.trans e1)
    simp only [List.length_cons, List.length_append, List.length_nil] at e4
    have := (joinL_max (m.map showS)).1
    rw [List.length_map] at this
    omega
  have hok1 : ∀ {y : ValD}, parseV t = some y → showS y = t ∧ vRight y = true ∧ inI y.n ∧ (bl y.s).length ≤ 200 := fun {y} h1 => by
    obtain ⟨e1, e2, e3, _, e4⟩ := parse_back h1
    exact ⟨e1, e2, e3, e4⟩
  obtain ⟨v, rfl, hv⟩ : ∃ v, u = .tuple #[v, .bool (l.all vRight)] ∧ (l.all vRight = true → τ = [rowD T_api_Value v l]) := by
    rcases hp with ⟨m, v, e, rfl, rfl⟩ | ⟨e, rfl, rfl⟩
    · cases c : l.all vRight
      · rw [c] at e; cases e
      · rw [c, if_pos rfl] at e; injection e with e; subst e; exact ⟨v, rfl, fun _ => rfl⟩
    · cases c : l.all vRight
      · exact ⟨_, rfl, fun h => by cases h⟩
      · rw [c] at e; cases e
  clear hp
  simp -zeta only [ext_2_0, ext_2_1]
  refine LETJ_intro fun J3 hJ3 => ?_
  replace hJ3 : ∀ w' σ, Rel (lawB W) w' σ → J3 () w' := fun w' σ h => by
    refine hJ3 _ _ ?_
    replace h := h.nil
    refine h.ask (fun B2 own base2 => parse_g (s := t) (base2 hB) (by omega)) fun w14 h => ?_
    simp -zeta only [ext_2_0, ext_2_1]
    generalize hx : (parseV t).getD vZero = x
    refine h.allocAg (ds := x.cs.toArray) z_api_Value rfl ag_api_Value rfl (fun v hv => Enc.one x v hv) fun a w16 h => ?_
    refine h.make (fun B2 own base2 => parseRow_m (s := t) (base2 hB) (by omega)) fun u τ w17 hp h => ?_
    rcases hp with ⟨m, v, hm, rfl, rfl⟩ | ⟨hn, rfl, rfl⟩
    · simp -zeta only [ext_2_0, ext_2_1]
      refine LETJ_intro fun J4 hJ4 => ?_
      replace hJ4 : ∀ w' τ, Rel (lawB W) w' τ → J4 () w' := fun w' τ h => hJ4 _ _ (fin _ _ h)
      have h : Rel (lawB W) w17 [cellD a T_api_Value x.cs.toArray, rowD T_api_Value v m] := h
      obtain ⟨m1, m2, m3⟩ := hback hm
      cases h1 : parseV t with
      | some y =>
        rw [h1, Option.getD_some] at hx
        subst hx
        obtain ⟨e1, e2, e3, e4⟩ := hok1 h1
        simp -zeta only [Option.isSome_some, ifB_true]
        rw [h.ldAg 0 rfl ag_api_Value rfl]
        refine h.ask (fun B2 own base2 => show_g (base2 hB) e3 (by omega)) fun w10 h => ?_
        rw [e1, neq_str, decide_eq_true rfl, Bool.not_true, ifB_false, h.ldAg 0 rfl ag_api_Value rfl]
        refine h.ask (fun B2 own base2 => vRight_g y) fun w10 h => ?_
        rw [e2, un_not, Bool.not_true, ifB_false, un_not, Bool.not_true, ifB_false]
        refine h.ask (fun B2 own base2 => showRow_g (base2 hB) (rowD.read (own (i := 1) rfl)) (by omega) m3) fun w11 h => ?_
        rw [m1, neq_str, decide_eq_true rfl, Bool.not_true, ifB_false, un_not, Bool.not_true, ifB_false]
        exact hJ4 _ _ h
      | none =>
        rw [h1, Option.getD_none] at hx
        subst hx
        simp -zeta only [Option.isSome_none, ifB_false]
        rw [un_not, Bool.not_false, ifB_true, h.ldAg 0 rfl ag_api_Value rfl, bd_api_Value_]
        rw [show (Value.agg vZero.cs.toArray) = vZero.v from rfl, show (Value.agg #[(.int .i64 0), (.int .i64 0), (.string ⟨#[]⟩)]) = vZero.v from rfl]
        rw [neq_api_Value, decide_eq_true rfl, Bool.not_true, ifB_false, ifB_true]
        refine h.ask (fun B2 own base2 => showRow_g (base2 hB) (rowD.read (own (i := 1) rfl)) (by omega) m3) fun w11 h => ?_
        rw [m1, neq_str, decide_eq_true rfl, Bool.not_true, ifB_false, un_not, Bool.not_true, ifB_false]
        exact hJ4 _ _ h
    · simp -zeta only [ext_2_0, ext_2_1]
      refine LETJ_intro fun J4 hJ4 => ?_
      replace hJ4 : ∀ w' τ, Rel (lawB W) w' τ → J4 () w' := fun w' τ h => hJ4 _ _ (fin _ _ h)
      have h : Rel (lawB W) w17 [cellD a T_api_Value x.cs.toArray] := h
      cases h1 : parseV t with
      | some y =>
        rw [h1, Option.getD_some] at hx
        subst hx
        obtain ⟨e1, e2, e3, e4⟩ := hok1 h1
        simp -zeta only [Option.isSome_some, ifB_true]
        rw [h.ldAg 0 rfl ag_api_Value rfl]
        refine h.ask (fun B2 own base2 => show_g (base2 hB) e3 (by omega)) fun w10 h => ?_
        rw [e1, neq_str, decide_eq_true rfl, Bool.not_true, ifB_false, h.ldAg 0 rfl ag_api_Value rfl]
        refine h.ask (fun B2 own base2 => vRight_g y) fun w10 h => ?_
        rw [e2, un_not, Bool.not_true, ifB_false, un_not, Bool.not_true, ifB_false, ifB_false]
        rw [un_not, Bool.not_false, ifB_true, len_slice U_s_api_Value, bin_neq, decide_eq_true (by rfl), Bool.not_true, ifB_false]
        exact hJ4 _ _ h
      | none =>
        rw [h1, Option.getD_none] at hx
        subst hx
        simp -zeta only [Option.isSome_none, ifB_false]
        rw [un_not, Bool.not_false, ifB_true, h.ldAg 0 rfl ag_api_Value rfl, bd_api_Value_]
        rw [show (Value.agg vZero.cs.toArray) = vZero.v from rfl, show (Value.agg #[(.int .i64 0), (.int .i64 0), (.string ⟨#[]⟩)]) = vZero.v from rfl]
        rw [neq_api_Value, decide_eq_true rfl, Bool.not_true, ifB_false]
        rw [un_not, Bool.not_false, ifB_true, len_slice U_s_api_Value, bin_neq, decide_eq_true (by rfl), Bool.not_true, ifB_false]
        exact hJ4 _ _ h
  rw [bin_neq_bool U_bool, show (l.all vRight == l.all vRight) = true by simp, Bool.not_true, ifB_false, ifB_bool]
  refine ⟨fun c => ?_, fun c => hJ3 _ _ h⟩
  obtain rfl := hv c
  have h : Rel (lawB W) w12 [rowD T_api_Value v l] := h
  refine h.ask (fun B2 own base2 => sameRows_g (l := l) (m := l) (rowD.read (own (i := 0) rfl)) (base2 r) (by omega)) fun w25 h => ?_
  rw [decide_eq_true rfl, un_not, Bool.not_true, ifB_false]
  exact hJ3 _ _ h
end
end Go.Proofs.YtifhbaphlmhoeaaDoor
