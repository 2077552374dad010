/-
  What the laws of the values share: value.Read, Zero, the reference's Short, the examples. No condition.
-/
import Derived.Test.YtifhbaphlmhoeaaDoorVaP
--@auto
namespace Go.Proofs.YtifhbaphlmhoeaaDoor
open Go.RowKit
set_option maxRecDepth 100000

noncomputable def readV1 (t : Bs) : Option ValD := if doneR (valR ⟨t, false⟩).2 = true then some (valR ⟨t, false⟩).1 else none
theorem readV1_enc {v : ValD} (h : GoodVal v) : readV1 (encV1 v) = some v := by
  have e := valR_rd.fore v [] h
  rw [List.append_nil] at e
  unfold readV1
  rw [e]; rfl
theorem readV1_back {t : Bs} {v : ValD} (h : readV1 t = some v) : encV1 v = t ∧ GoodVal v := by
  unfold readV1 at h
  split at h
  · rename_i hd
    injection h with h
    obtain ⟨d1, d2⟩ := done_end hd
    obtain ⟨_, b2, b3⟩ := valR_rd.back _ d1
    rw [h] at b2 b3
    rw [d2, List.append_nil] at b2
    exact ⟨b2.symm, b3⟩
  · cases h
theorem encV1_inj {v u : ValD} (hv : GoodVal v) (hu : GoodVal u) (h : encV1 v = encV1 u) : v = u := by
  have h1 := readV1_enc hv
  rw [h, readV1_enc hu] at h1
  injection h1 with h1; exact h1.symm
theorem encRow_inj {l m : List ValD} (hl : l.length ≤ 9223372036854775807) (hm : m.length ≤ 9223372036854775807) (gl : ∀ v ∈ l, GoodVal v) (gm : ∀ v ∈ m, GoodVal v) (h : encRow l = encRow m) : l = m := by
  have h1 := readRow_enc hl gl
  rw [h, readRow_enc hm gm] at h1
  injection h1 with h1; exact h1.symm
def shortB (l : List ValD) (n : Int) : Bool := l.all (fun v => decide ((v.s.size : Int) ≤ 300)) && decide ((l.length : Int) ≤ n)
section
variable {B : Base} {w : World} {σ : List Dat}
theorem read_g (hB : wireD B) {t : Bs} (ht : t.length ≤ 1099511627776) : Gives Tryd.prog B (sCall F_value_Read #[.string (ofL t)]) (.tuple #[((readV1 t).getD vZero).v, .bool (readV1 t).isSome]) := by
  refine Gives.intro fun B' w K base h k => ?_
  replace hB := base hB
  refine value_Read.up (value_Read.call ?_)
  unfold value_Read.pt
  unfold readV1 at k
  refine h.alloc z_api_Value fun o w1 h => ?_
  refine h.make (fun B2 own base2 => open_m) fun u τ w2 hp h => ?_
  obtain ⟨p, rfl, rfl⟩ := hp
  have h : Rel B' w2 [cellD o T_api_Value (Value.cells (.agg #[(.int .i64 0), (.int .i64 0), (.string ⟨#[]⟩)])), rdD p ⟨t, false⟩] := h
  refine h.rd_ 1 rfl (fun B2 own base2 => take_d (base2 hB) (by show t.length ≤ _; omega)) fun w3 h => ?_
  generalize valR ⟨t, false⟩ = y at *
  obtain ⟨x, s2⟩ := y
  simp only at k h ⊢
  refine h.allocAg (ds := x.cs.toArray) z_api_Value rfl ag_api_Value rfl (fun v hv => Enc.one x v hv) fun a w5 h => ?_
  have h : Rel B' w5 [cellD o T_api_Value (Value.cells (.agg #[(.int .i64 0), (.int .i64 0), (.string ⟨#[]⟩)])), rdD p s2, cellD a T_api_Value x.cs.toArray] := h
  refine h.ask (fun B2 own base2 => rDone_g (own (i := 1) rfl)) fun w6 h => ?_
  rw [un_not, ifB_not, ifB_bool]
  refine ⟨fun cd => ?_, fun cd => ?_⟩
  · rw [if_pos cd] at k
    rw [h.ldAg 2 rfl ag_api_Value rfl]
    refine h.stAll 0 (ds := x.cs.toArray) rfl ag_api_Value rfl rfl (fun v hv => Enc.one x v hv) fun w8 h => ?_
    rw [rv_ag h 0 rfl ag_api_Value rfl]
    exact k _ _ h
  · rw [if_neg (by rw [cd]; decide)] at k
    rw [bd_api_Value_]
    refine h.stAll 0 (ds := vZero.cs.toArray) rfl ag_api_Value rfl rfl (fun v hv => Enc.one vZero v hv) fun w8 h => ?_
    rw [rv_ag h 0 rfl ag_api_Value rfl]
    exact k _ _ h
theorem zero_g (n : Int) : Gives Tryd.prog B (sCall F_value_Zero #[.int .i64 n]) (⟨n, 0, ⟨#[]⟩⟩ : ValD).v := by
  refine Gives.intro fun B' w K base h k => ?_
  refine value_Zero.up (value_Zero.call ?_)
  unfold value_Zero.pt
  refine h.alloc z_api_Value fun o w1 h => ?_
  rw [bd_api_Value_0]
  refine h.stAll 0 (ds := (⟨n, 0, ⟨#[]⟩⟩ : ValD).cs.toArray) rfl ag_api_Value rfl rfl (fun v hv => Enc.one (⟨n, 0, ⟨#[]⟩⟩ : ValD) v hv) fun w2 h => ?_
  rw [rv_ag h 0 rfl ag_api_Value rfl]
  exact k _ _ h
theorem short_g {u : Value} {l : List ValD} (r : rowR u l B) (hl : l.length ≤ 9223372036854775807) (n : Int) : Gives Tryd.prog B (sCall F_errataref03_Short #[u, .int .i64 n]) (.bool (shortB l n)) := by
  refine Gives.intro fun B' w K base h k => ?_
  replace r := base r
  refine errataref03_Short.up (errataref03_Short.call ?_)
  unfold errataref03_Short.pt
  unfold shortB at k
  refine LOOP_intro (fun x w' => ∃ i : Nat, i ≤ l.length ∧ x = (.int .i64 i, ()) ∧ (∀ j (h1 : j < l.length), j < i → (l[j].s.size : Int) ≤ 300) ∧ Rel B' w' []) (fun x _ => l.length - (match x.1 with | .int _ n => n.toNat | _ => 0))
    ⟨0, Nat.zero_le _, rfl, fun j _ hj => absurd hj (Nat.not_lt_zero j), h⟩ ?_
  clear h
  rintro x w1 ⟨i, hi, rfl, hin, h⟩ next hnext
  simp -zeta only [rowR.len r sl_s_api_Value, bin_lss, ifB_dec]
  refine ⟨fun hlt => ?_, fun hge => ?_⟩
  · have hil : i < l.length := by omega
    obtain ⟨g, o, hx, hcl⟩ := rowR.idx r sl_s_api_Value (P := Tryd.prog) hil
    have hcl : cellsR g o l[i].cs B' := hcl
    rw [hx]
    simp -zeta only [field_addr f_api_Value_2, cellsR.ld (h.hereB hcl) sc_string (j := 2) rfl, len_string U_string, bin_gtr, ifB_dec]
    refine ⟨fun c => ?_, fun c => ?_⟩
    · have : (l.all fun v => decide ((v.s.size : Int) ≤ 300)) = false := by
        cases ha : l.all fun v => decide ((v.s.size : Int) ≤ 300)
        · rfl
        · have := of_decide_eq_true (List.all_eq_true.1 ha l[i] (List.getElem_mem hil)); omega
      rw [this, Bool.false_and] at k
      exact k _ _ h
    · rw [bin_add, wrap_id (by omega) (by omega)]
      refine hnext _ _ ⟨i + 1, hil, rfl, fun j h1 hj => ?_, h⟩ (by simp only; omega)
      by_cases e : j = i
      · subst e; omega
      · exact hin j h1 (by omega)
  · have : (l.all fun v => decide ((v.s.size : Int) ≤ 300)) = true := List.all_eq_true.2 fun v hv => by
      obtain ⟨j, hj, rfl⟩ := List.getElem_of_mem hv
      exact decide_eq_true (hin j hj (by omega))
    rw [this, Bool.true_and] at k
    rw [bin_leq]
    exact k _ _ h
def exRow : List ValD := [vInt (-3), vText ⟨#[97, 34, 98]⟩, vBool true]
theorem exRow_ok : ∀ v ∈ exRow, vRight v = true ∧ inI v.n := by
  intro v hv
  unfold exRow at hv
  simp only [List.mem_cons, List.not_mem_nil, or_false] at hv
  rcases hv with rfl | rfl | rfl
  · exact ⟨right_int _, by show inI (-3); decide⟩
  · exact ⟨right_text (by decide), by show inI 0; decide⟩
  · exact ⟨right_bool _, by show inI 1; decide⟩
theorem exShow : showRowS exRow = [40, 45, 51, 44, 32, 34, 97, 92, 34, 98, 34, 44, 32, 116, 114, 117, 101, 41] := by
  unfold showRowS
  rw [if_pos (List.all_eq_true.2 fun v hv => (exRow_ok v hv).1)]
  show 40 :: ((showS (vInt (-3)) ++ sepL ++ (showS (vText ⟨#[97, 34, 98]⟩) ++ sepL ++ showS (vBool true))) ++ [41]) = _
  rw [show_int, show_text (by decide), show_true]
  have : Go.Lib.itoa (-3) = [45, 51] := by
    rcases itoa_cases (-3) with ⟨h, _⟩ | ⟨_, h⟩
    · omega
    · rw [h, show (-3 : Int).natAbs = 3 from rfl, dec_small (by omega)]; rfl
  rw [this]
  rfl
theorem small_g (hB : wireD B) : Gives Tryd.prog B (sCall F_erratalaw03_small #[]) (.bool true) := by
  refine Gives.intro fun B' w K base h k => ?_
  replace hB := base hB
  refine erratalaw03_small.up (erratalaw03_small.call ?_)
  unfold erratalaw03_small.pt
  refine h.ask (fun B2 own base2 => vInt_g (-3)) fun w1 h => ?_
  refine h.ask (fun B2 own base2 => vText_g ⟨#[97, 34, 98]⟩) fun w2 h => ?_
  refine h.ask (fun B2 own base2 => vBool_g true) fun w3 h => ?_
  refine h.buildN (α := ValD) exRow sl_s_api_Value (fun t11 w4 h => ?_) rfl (by decide) (by decide) rfl
  have hsz : ∀ v ∈ exRow, inI v.n ∧ (bl v.s).length ≤ 1099511627776 := fun v hv => ⟨(exRow_ok v hv).2, by
    unfold exRow at hv
    simp only [List.mem_cons, List.not_mem_nil, or_false] at hv
    rcases hv with rfl | rfl | rfl
    · show 0 ≤ _; omega
    · show 3 ≤ _; omega
    · show 0 ≤ _; omega⟩
  refine h.ask (fun B2 own base2 => showRow_g (l := exRow) (base2 hB) (rowD.read (own (i := 0) rfl)) (by decide) hsz) fun w5 h => ?_
  rw [exShow]
  refine h.make (fun B2 own base2 => parseRow_m (base2 hB) (by simp only [List.length_cons, List.length_nil]; omega)) fun u τ w6 hp h => ?_
  rw [← exShow, parseRow_show exRow_ok] at hp
  rcases hp with ⟨l, v, e, rfl, rfl⟩ | ⟨hn, _⟩
  case inr => cases hn
  injection e with e
  subst e
  simp -zeta only [ext_2_0, ext_2_1]
  have h : Rel B' w6 [rowD T_api_Value t11 exRow, rowD T_api_Value v exRow] := h
  refine h.make (fun B2 own base2 => parseRow_m (base2 hB) (s := [40, 41]) (by decide)) fun u τ w7 hp h => ?_
  have e0 : parseRowS [40, 41] = some [] := by
    have := parseRow_show (l := []) fun v hv => by cases hv
    exact this
  rw [e0] at hp
  rcases hp with ⟨l, v0, e, rfl, rfl⟩ | ⟨hn, _⟩
  case inr => cases hn
  injection e with e
  subst e
  simp -zeta only [ext_2_0, ext_2_1]
  have h : Rel B' w7 [rowD T_api_Value t11 exRow, rowD T_api_Value v exRow, rowD T_api_Value v0 []] := h
  rw [eql_str, decide_eq_true (by rfl), ifB_true, ifB_true]
  refine h.ask (fun B2 own base2 => sameRows_g (l := exRow) (m := exRow) (rowD.read (own (i := 1) rfl)) (rowD.read (own (i := 0) rfl)) (by decide)) fun w8 h => ?_
  rw [decide_eq_true rfl, ifB_true, ifB_true]
  refine h.ask (fun B2 own base2 => showRow_g (l := []) (base2 hB) ⟨none, 0, rfl, Nat.le_refl _, .inl rfl⟩ (by decide) fun v hv => by cases hv) fun w9 h => ?_
  rw [eql_str, decide_eq_true (by rfl), ifB_true]
  refine h.ask (fun B2 own base2 => vInt_g 5) fun w10 h => ?_
  refine h.ask (fun B2 own base2 => vText_g ⟨#[97]⟩) fun w11 h => ?_
  refine h.ask (fun B2 own base2 => compareV_g (vInt 5) (vText ⟨#[97]⟩)) fun w12 h => ?_
  rw [bin_eql, decide_eq_true (by rfl), ifB_true]
  have rr : ∀ {B2 : Base}, rowD T_api_Value t11 exRow B2 → rowR t11 exRow B2 := fun h => rowD.read h
  obtain ⟨g, cap, rfl⟩ := h.open_ (α := ValD) (i := 0) rfl (by decide)
  rw [rowR.cutE (α := ValD) (l := exRow) (rowD.read (h.here (i := 0) rfl)) sl_s_api_Value (lo := 0) (hi := 1) Bnd.none (by exact Bnd.some) (by omega) (by decide)]
  refine h.ask (fun B2 own base2 => compareRows_g (rowR.cutR (rowD.read (own (i := 0) rfl)) (by omega) (by decide)) (rowD.read (own (i := 0) rfl)) (by decide)) fun w13 h => ?_
  rw [bin_eql, decide_eq_true (by rfl), ifB_true]
  refine h.ask (fun B2 own base2 => rowRight_g (l := exRow) (rowD.read (own (i := 0) rfl)) (by decide)) fun w14 h => ?_
  have : rowRight exRow = true := by
    unfold rowRight
    rw [List.all_eq_true.2 fun v hv => (exRow_ok v hv).1]; rfl
  rw [this]
  exact k _ _ h
end
end Go.Proofs.YtifhbaphlmhoeaaDoor
