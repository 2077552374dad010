/-
  ValueBack and ValueShows: what the laws compute. No condition.
-/
import Derived.Test.YtifhbaphlmhoeaaDoorVaA
import Derived.Test.YtifhbaphlmhoeaaDoorArgs
--@auto
namespace Go.Proofs.YtifhbaphlmhoeaaDoor
open Go.RowKit
set_option maxRecDepth 100000

theorem bnd_law {u : Value} {l : List ValD} {W : World} (r : rowR u l (lawB W)) : ∀ {n : Int}, shortB l n = true → n ≤ 1000 → l.length ≤ 1000 ∧ ∀ v ∈ l, (bl v.s).length ≤ 300 := by
  intro n h hn
  unfold shortB at h
  rw [Bool.and_eq_true] at h
  refine ⟨by have := of_decide_eq_true h.2; omega, fun v hv => ?_⟩
  have := of_decide_eq_true (List.all_eq_true.1 h.1 v hv)
  rw [bl_length]; omega
theorem goodVal {W : World} {v : ValD} (h : ok_api_Value W v) (hs : (bl v.s).length ≤ 1000) : GoodVal v := ⟨h.1, h.2.1, by omega⟩
section
variable {W : World} {w : World} {K : Value → World → Prop}
theorem valueBack_pt {r0 : Value} {l : List ValD} {s1 : ByteArray} (hB : wireD (lawB W)) (r : rowR r0 l (lawB W)) (hl : l.length ≤ maxLen) (hok : ∀ v ∈ l, ok_api_Value W v) (wx1 : s1.size ≤ maxLen)
    (fin : ∀ w' σ, Rel (lawB W) w' σ → K (.bool true) w') : erratalaw03_ValueBack.pt r0 (.string s1) W K := by
  unfold erratalaw03_ValueBack.pt
  have h := lawB.start W
  refine h.ask (fun B2 own base2 => small_g (base2 hB)) fun w1 h => ?_
  refine h.ask (fun B2 own base2 => short_g (base2 r) hl 15) fun w2 h => ?_
  rw [un_not, ifB_not, ifB_bool]
  refine ⟨fun hs => ?_, fun _ => fin _ _ h⟩
  obtain ⟨hl1, hs1⟩ := bnd_law r hs (by omega)
  simp -zeta only [len_string U_string, bin_gtr, ifB_dec]
  refine ⟨fun _ => fin _ _ h, fun ht => ?_⟩
  obtain ⟨t, rfl⟩ : ∃ t : Bs, s1 = ofL t := ⟨bl s1, (ofL_bl s1).symm⟩
  rw [ofL_size] at ht
  have hg : ∀ v ∈ l, GoodVal v := fun v hv => goodVal (hok v hv) (by have := hs1 v hv; omega)
  have hrow : (encRow l).length ≤ 1099511627776 := by
    have := flat_len encV1 l 1064 fun v hv => by have := encV1_len (hg v hv) (show (bl v.s).length ≤ 1000 by have := hs1 v hv; omega); omega
    have h2 := encI_len (n := (l.length : Int)) ⟨by omega, by omega⟩
    unfold encRow
    rw [List.length_append]
    have : 1064 * l.length ≤ 1064 * 1000 := Nat.mul_le_mul_left _ hl1
    omega
  refine h.ask (fun B2 own base2 => rowBytes_g (base2 hB) (base2 r) (by omega) fun v hv => ⟨hg v hv, by have := hs1 v hv; omega⟩) fun w3 h => ?_
  refine h.make (fun B2 own base2 => readRow_m (base2 hB) hrow) fun u τ w4 hp h => ?_
  rw [readRow_enc (by omega) hg] at hp
  rcases hp with ⟨m, v, e, rfl, rfl⟩ | ⟨hn, _⟩
  case inr => cases hn
  injection e with e
  subst e
  simp -zeta only [ext_2_0, ext_2_1]
  have h : Rel (lawB W) w4 [rowD T_api_Value v l] := h
  rw [un_not, Bool.not_true, ifB_false]
  refine h.ask (fun B2 own base2 => sameRows_g (l := l) (m := l) (rowD.read (own (i := 0) rfl)) (base2 r) (by omega)) fun w5 h => ?_
  rw [decide_eq_true rfl, un_not, Bool.not_true, ifB_false]
  have h := h.nil
  refine LOOP_intro (fun x w' => ∃ i : Nat, i ≤ l.length ∧ x = (.int .i64 i, ()) ∧ Rel (lawB W) w' []) (fun x _ => l.length - (match x.1 with | .int _ n => n.toNat | _ => 0))
    ⟨0, Nat.zero_le _, rfl, h⟩ ?_
  clear h
  rintro x w6 ⟨i, hi, rfl, h⟩ next hnext
  simp -zeta only [rowR.len r sl_s_api_Value, bin_lss, ifB_dec]
  refine ⟨fun hlt => ?_, fun hge => ?_⟩
  · have hil : i < l.length := by omega
    obtain ⟨g, o, hx, hcl⟩ := rowR.idx r sl_s_api_Value (P := Tryd.prog) hil
    have hcl : cellsR g o l[i].cs (lawB W) := hcl
    have hgi := hg l[i] (List.getElem_mem hil)
    have hsi := hs1 l[i] (List.getElem_mem hil)
    have hle := encV1_len hgi hsi
    rw [hx, cellsR.ldAg (h.hereB hcl) ag_api_Value rfl]
    refine h.ask (fun B2 own base2 => vBytes_g (base2 hB) hgi (by omega)) fun w7 h => ?_
    refine h.ask (fun B2 own base2 => read_g (base2 hB) (by omega)) fun w8 h => ?_
    rw [readV1_enc hgi]
    simp -zeta only [ext_2_0, ext_2_1, Option.getD_some, Option.isSome_some]
    refine h.allocAg (ds := l[i].cs.toArray) z_api_Value rfl ag_api_Value rfl (fun v hv => Enc.one l[i] v hv) fun a w9 h => ?_
    have h : Rel (lawB W) w9 [cellD a T_api_Value l[i].cs.toArray] := h
    have h := h.tick
    rw [un_not, Bool.not_true, ifB_false, h.ldAg 0 rfl ag_api_Value rfl, hx, cellsR.ldAg (h.hereB hcl) ag_api_Value rfl]
    rw [show (Value.agg l[i].cs.toArray) = l[i].v from rfl, neq_api_Value, decide_eq_true rfl, Bool.not_true, ifB_false, bin_add, wrap_id (by omega) (by omega)]
    exact hnext _ _ ⟨i + 1, hil, rfl, h.nil⟩ (by simp only; omega)
  clear hnext
  refine h.ask (fun B2 own base2 => read_g (t := t) (base2 hB) (by omega)) fun w7 h => ?_
  simp -zeta only [ext_2_0, ext_2_1]
  generalize hx : (readV1 t).getD vZero = x
  refine h.allocAg (ds := x.cs.toArray) z_api_Value rfl ag_api_Value rfl (fun v hv => Enc.one x v hv) fun a w9 h => ?_
  refine h.make (fun B2 own base2 => readRow_m (t := t) (base2 hB) (by omega)) fun u τ w4 hp h => ?_
  have hok1 : ∀ {y : ValD}, readV1 t = some y → encV1 y = t ∧ GoodVal y ∧ (bl y.s).length ≤ t.length := fun {y} h1 => by
    obtain ⟨e1, e2⟩ := readV1_back h1
    refine ⟨e1, e2, ?_⟩
    rw [← e1]; unfold encV1 encT
    simp only [List.length_append, List.length_cons]; omega
  have hvb : ∀ {B2 : Base} {m : List ValD} {v : Value}, wireD B2 → readRow t = some m → rowR v m B2 → Gives Tryd.prog B2 (sCall F_value_RowBytes #[v]) (.string (ofL t)) := fun {B2 m v} hB2 hm hr => by
    obtain ⟨e1, e2⟩ := readRow_back hm
    have hml : m.length ≤ t.length ∧ ∀ v ∈ m, (bl v.s).length ≤ t.length := by
      rw [← e1]
      unfold encRow
      rw [List.length_append]
      have : ∀ m : List ValD, m.length ≤ (m.flatMap encV1).length ∧ ∀ v ∈ m, (bl v.s).length ≤ (m.flatMap encV1).length := by
        intro m
        induction m with
        | nil => exact ⟨Nat.zero_le _, fun v hv => by cases hv⟩
        | cons y m ih =>
          have h1 := encV1_pos y
          have h2 : (bl y.s).length ≤ (encV1 y).length := by
            unfold encV1 encT
            simp only [List.length_append, List.length_cons]; omega
          rw [List.flatMap_cons, List.length_append, List.length_cons]
          refine ⟨by omega, fun v hv => ?_⟩
          rcases List.mem_cons.1 hv with rfl | hv
          · omega
          · have := ih.2 v hv; omega
      obtain ⟨h1, h2⟩ := this m
      exact ⟨by omega, fun v hv => by have := h2 v hv; omega⟩
    have := rowBytes_g hB2 hr (by omega) fun v hv => ⟨e2 v hv, by have := hml.2 v hv; omega⟩
    rw [e1] at this
    exact this
  rcases hp with ⟨m, v, hm, rfl, rfl⟩ | ⟨hn, rfl, rfl⟩
  · simp -zeta only [ext_2_0, ext_2_1]
    refine LETJ_intro fun J1 hJ1 => ?_
    replace hJ1 : ∀ w' τ, Rel (lawB W) w' τ → J1 () w' := fun w' τ h => hJ1 _ _ (fin _ _ h)
    have h : Rel (lawB W) w4 [cellD a T_api_Value x.cs.toArray, rowD T_api_Value v m] := h
    cases h1 : readV1 t with
    | some y =>
      rw [h1, Option.getD_some] at hx
      subst hx
      obtain ⟨e1, e2, hy⟩ := hok1 h1
      simp -zeta only [Option.isSome_some, ifB_true]
      rw [h.ldAg 0 rfl ag_api_Value rfl]
      refine h.ask (fun B2 own base2 => vBytes_g (base2 hB) e2 (by omega)) fun w10 h => ?_
      rw [e1, neq_str, decide_eq_true rfl, Bool.not_true, ifB_false, un_not, Bool.not_true, ifB_false]
      refine h.ask (fun B2 own base2 => hvb (base2 hB) hm (rowD.read (own (i := 1) rfl))) fun w11 h => ?_
      rw [neq_str, decide_eq_true rfl, Bool.not_true, ifB_false, un_not, Bool.not_true, ifB_false]
      exact hJ1 _ _ h
    | none =>
      rw [h1, Option.getD_none] at hx
      subst hx
      simp -zeta only [Option.isSome_none, ifB_false]
      rw [un_not, Bool.not_false, ifB_true, h.ldAg 0 rfl ag_api_Value rfl, bd_api_Value_]
      rw [show (Value.agg vZero.cs.toArray) = vZero.v from rfl, show (Value.agg #[(.int .i64 0), (.int .i64 0), (.string ⟨#[]⟩)]) = vZero.v from rfl]
      rw [neq_api_Value, decide_eq_true rfl, Bool.not_true, ifB_false, ifB_true]
      refine h.ask (fun B2 own base2 => hvb (base2 hB) hm (rowD.read (own (i := 1) rfl))) fun w11 h => ?_
      rw [neq_str, decide_eq_true rfl, Bool.not_true, ifB_false, un_not, Bool.not_true, ifB_false]
      exact hJ1 _ _ h
  · simp -zeta only [ext_2_0, ext_2_1]
    refine LETJ_intro fun J1 hJ1 => ?_
    replace hJ1 : ∀ w' τ, Rel (lawB W) w' τ → J1 () w' := fun w' τ h => hJ1 _ _ (fin _ _ h)
    have h : Rel (lawB W) w4 [cellD a T_api_Value x.cs.toArray] := h
    cases h1 : readV1 t with
    | some y =>
      rw [h1, Option.getD_some] at hx
      subst hx
      obtain ⟨e1, e2, hy⟩ := hok1 h1
      simp -zeta only [Option.isSome_some, ifB_true]
      rw [h.ldAg 0 rfl ag_api_Value rfl]
      refine h.ask (fun B2 own base2 => vBytes_g (base2 hB) e2 (by omega)) fun w10 h => ?_
      rw [e1, neq_str, decide_eq_true rfl, Bool.not_true, ifB_false, un_not, Bool.not_true, ifB_false, ifB_false]
      rw [un_not, Bool.not_false, ifB_true, len_slice U_s_api_Value, bin_neq, decide_eq_true (by rfl), Bool.not_true, ifB_false]
      exact hJ1 _ _ h
    | none =>
      rw [h1, Option.getD_none] at hx
      subst hx
      simp -zeta only [Option.isSome_none, ifB_false]
      rw [un_not, Bool.not_false, ifB_true, h.ldAg 0 rfl ag_api_Value rfl, bd_api_Value_]
      rw [show (Value.agg vZero.cs.toArray) = vZero.v from rfl, show (Value.agg #[(.int .i64 0), (.int .i64 0), (.string ⟨#[]⟩)]) = vZero.v from rfl]
      rw [neq_api_Value, decide_eq_true rfl, Bool.not_true, ifB_false]
      rw [un_not, Bool.not_false, ifB_true, len_slice U_s_api_Value, bin_neq, decide_eq_true (by rfl), Bool.not_true, ifB_false]
      exact hJ1 _ _ h
end
end Go.Proofs.YtifhbaphlmhoeaaDoor
