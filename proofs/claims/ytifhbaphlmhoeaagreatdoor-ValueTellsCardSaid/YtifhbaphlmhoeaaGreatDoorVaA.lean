/-
  What the laws of the values share: value.Read, Zero, the reference's Short, the examples. No condition.
-/
import Derived.Test.YtifhbaphlmhoeaaGreatDoorVaP
import Derived.Test.YtifhbaphlmhoeaaGreatDoorValU
import Derived.Test.YtifhbaphlmhoeaaGreatDoorValV
import Derived.Test.YtifhbaphlmhoeaaGreatDoorArgs
--@auto
namespace Go.Proofs.YtifhbaphlmhoeaaGreatDoor
open Go.RowKit
set_option maxRecDepth 100000

def shortB (l : List ValD) (n : Int) : Bool := l.all (fun v => decide ((v.s.size : Int) ≤ 300)) && decide ((l.length : Int) ≤ n)
theorem bnd_law {u : Value} {l : List ValD} {W : World} (r : rowR u l (lawB W)) : ∀ {n : Int}, shortB l n = true → n ≤ 1000 → l.length ≤ 1000 ∧ ∀ v ∈ l, (bl v.s).length ≤ 300 := by
  intro n h hn
  unfold shortB at h
  rw [Bool.and_eq_true] at h
  refine ⟨by have := of_decide_eq_true h.2; omega, fun v hv => ?_⟩
  have := of_decide_eq_true (List.all_eq_true.1 h.1 v hv)
  rw [bl_length]; omega
theorem goodVal {W : World} {v : ValD} (h : ok_api_Value W v) (hs : (bl v.s).length ≤ 1000) : GoodVal v := ⟨h.1, h.2.1, by omega⟩
section
variable {B : Base} {w : World} {σ : List Dat}
theorem short_g {u : Value} {l : List ValD} (r : rowR u l B) (hl : l.length ≤ 9223372036854775807) (n : Int) : Gives Tryz.prog B (sCall F_errataref03_Short #[u, .int .i64 n]) (.bool (shortB l n)) := by
  refine Gives.intro fun B' w K base h k => ?_
  replace r := base r
  refine errataref03_Short.up (errataref03_Short.call ?_)
  unfold errataref03_Short.pt
  unfold shortB at k
  refine LOOP_intro (fun x w' => ∃ i : Nat, i ≤ l.length ∧ x = (.int .i64 i, ()) ∧ (∀ j (h1 : j < l.length), j < i → (l[j].s.size : Int) ≤ 300) ∧ Rel B' w' []) (fun x _ => l.length - (match x.1 with | .int _ n => n.toNat | _ => 0))
    ⟨0, Nat.zero_le _, rfl, fun j _ hj => absurd hj (Nat.not_lt_zero j), h⟩ ?_
  clear h
  rintro x w1 ⟨i, hi, rfl, hin, h⟩ next hnext
  simp -zeta only [rowR.len r sl_s_api_Value, bin_lss, ifB_dec]
  refine ⟨fun hlt => ?_, fun hge => ?_⟩
  · have hil : i < l.length := by omega
    obtain ⟨g, o, hx, hcl⟩ := rowR.idx r sl_s_api_Value (P := Tryz.prog) hil
    have hcl : cellsR g o l[i].cs B' := hcl
    rw [hx]
    simp -zeta only [field_addr f_api_Value_2, cellsR.ld (h.hereB hcl) sc_string (j := 2) rfl, len_string U_string, bin_gtr, ifB_dec]
    refine ⟨fun c => ?_, fun c => ?_⟩
    · have : (l.all fun v => decide ((v.s.size : Int) ≤ 300)) = false := by
        cases ha : l.all fun v => decide ((v.s.size : Int) ≤ 300)
        · rfl
        · have := of_decide_eq_true (List.all_eq_true.1 ha l[i] (List.getElem_mem hil)); omega
      rw [this, Bool.false_and] at k
      exact k _ _ h
    · rw [bin_add, wrap_id (by omega) (by omega)]
      refine hnext _ _ ⟨i + 1, hil, rfl, fun j h1 hj => ?_, h⟩ (by simp only; omega)
      by_cases e : j = i
      · subst e; omega
      · exact hin j h1 (by omega)
  · have : (l.all fun v => decide ((v.s.size : Int) ≤ 300)) = true := List.all_eq_true.2 fun v hv => by
      obtain ⟨j, hj, rfl⟩ := List.getElem_of_mem hv
      exact decide_eq_true (hin j hj (by omega))
    rw [this, Bool.true_and] at k
    rw [bin_leq]
    exact k _ _ h
def exRow : List ValD := [vInt (-3), vText ⟨#[97, 34, 98]⟩, vBool true]
theorem exRow_ok : ∀ v ∈ exRow, vRight v = true ∧ inI v.n := by
  intro v hv
  unfold exRow at hv
  simp only [List.mem_cons, List.not_mem_nil, or_false] at hv
  rcases hv with rfl | rfl | rfl
  · exact ⟨right_int _, by show inI (-3); decide⟩
  · exact ⟨right_text (by decide), by show inI 0; decide⟩
  · exact ⟨right_bool _, by show inI 1; decide⟩
theorem exShow : showRowS exRow = [40, 45, 51, 44, 32, 34, 97, 92, 34, 98, 34, 44, 32, 116, 114, 117, 101, 41] := by
  unfold showRowS
  rw [if_pos (List.all_eq_true.2 fun v hv => (exRow_ok v hv).1)]
  show 40 :: ((showS (vInt (-3)) ++ sepL ++ (showS (vText ⟨#[97, 34, 98]⟩) ++ sepL ++ showS (vBool true))) ++ [41]) = _
  rw [show_int, show_text (by decide), show_true]
  have : Go.Lib.itoa (-3) = [45, 51] := by
    rcases itoa_cases (-3) with ⟨h, _⟩ | ⟨_, h⟩
    · omega
    · rw [h, show (-3 : Int).natAbs = 3 from rfl, dec_small (by omega)]; rfl
  rw [this]
  rfl
theorem small_g (hB : wireD B) : Gives Tryz.prog B (sCall F_erratalaw03_small #[]) (.bool true) := by
  refine Gives.intro fun B' w K base h k => ?_
  replace hB := base hB
  refine erratalaw03_small.up (erratalaw03_small.call ?_)
  unfold erratalaw03_small.pt
  refine h.ask (fun B2 own base2 => vInt_g (-3)) fun w1 h => ?_
  refine h.ask (fun B2 own base2 => vText_g ⟨#[97, 34, 98]⟩) fun w2 h => ?_
  refine h.ask (fun B2 own base2 => vBool_g true) fun w3 h => ?_
  refine h.buildN (α := ValD) exRow sl_s_api_Value (fun t11 w4 h => ?_) rfl (by decide) (by decide) rfl
  have hsz : ∀ v ∈ exRow, inI v.n ∧ (bl v.s).length ≤ 1099511627776 := fun v hv => ⟨(exRow_ok v hv).2, by
    unfold exRow at hv
    simp only [List.mem_cons, List.not_mem_nil, or_false] at hv
    rcases hv with rfl | rfl | rfl
    · show 0 ≤ _; omega
    · show 3 ≤ _; omega
    · show 0 ≤ _; omega⟩
  refine h.ask (fun B2 own base2 => showRow_g (l := exRow) (base2 hB) (rowD.read (own (i := 0) rfl)) (by decide) hsz) fun w5 h => ?_
  rw [exShow]
  refine h.make (fun B2 own base2 => parseRow_m (base2 hB) (by simp only [List.length_cons, List.length_nil]; omega)) fun u τ w6 hp h => ?_
  rw [← exShow, parseRow_show exRow_ok] at hp
  rcases hp with ⟨l, v, e, rfl, rfl⟩ | ⟨hn, _⟩
  case inr => cases hn
  injection e with e
  subst e
  simp -zeta only [ext_2_0, ext_2_1]
  have h : Rel B' w6 [rowD T_api_Value t11 exRow, rowD T_api_Value v exRow] := h
  refine h.make (fun B2 own base2 => parseRow_m (base2 hB) (s := [40, 41]) (by decide)) fun u τ w7 hp h => ?_
  have e0 : parseRowS [40, 41] = some [] := by
    have := parseRow_show (l := []) fun v hv => by cases hv
    exact this
  rw [e0] at hp
  rcases hp with ⟨l, v0, e, rfl, rfl⟩ | ⟨hn, _⟩
  case inr => cases hn
  injection e with e
  subst e
  simp -zeta only [ext_2_0, ext_2_1]
  have h : Rel B' w7 [rowD T_api_Value t11 exRow, rowD T_api_Value v exRow, rowD T_api_Value v0 []] := h
  rw [eql_str, decide_eq_true (by rfl), ifB_true, ifB_true]
  refine h.ask (fun B2 own base2 => sameRows_g (l := exRow) (m := exRow) (rowD.read (own (i := 1) rfl)) (rowD.read (own (i := 0) rfl)) (by decide)) fun w8 h => ?_
  rw [decide_eq_true rfl, ifB_true, ifB_true]
  refine h.ask (fun B2 own base2 => showRow_g (l := []) (base2 hB) ⟨none, 0, rfl, Nat.le_refl _, .inl rfl⟩ (by decide) fun v hv => by cases hv) fun w9 h => ?_
  rw [eql_str, decide_eq_true (by rfl), ifB_true]
  refine h.ask (fun B2 own base2 => vInt_g 5) fun w10 h => ?_
  refine h.ask (fun B2 own base2 => vText_g ⟨#[97]⟩) fun w11 h => ?_
  refine h.ask (fun B2 own base2 => compareV_g (vInt 5) (vText ⟨#[97]⟩)) fun w12 h => ?_
  rw [bin_eql, decide_eq_true (by rfl), ifB_true]
  have rr : ∀ {B2 : Base}, rowD T_api_Value t11 exRow B2 → rowR t11 exRow B2 := fun h => rowD.read h
  obtain ⟨g, cap, rfl⟩ := h.open_ (α := ValD) (i := 0) rfl (by decide)
  rw [rowR.cutE (α := ValD) (l := exRow) (rowD.read (h.here (i := 0) rfl)) sl_s_api_Value (lo := 0) (hi := 1) Bnd.none (by exact Bnd.some) (by omega) (by decide)]
  refine h.ask (fun B2 own base2 => compareRows_g (rowR.cutR (rowD.read (own (i := 0) rfl)) (by omega) (by decide)) (rowD.read (own (i := 0) rfl)) (by decide)) fun w13 h => ?_
  rw [bin_eql, decide_eq_true (by rfl), ifB_true]
  refine h.ask (fun B2 own base2 => rowRight_g (l := exRow) (rowD.read (own (i := 0) rfl)) (by decide)) fun w14 h => ?_
  have : rowRight exRow = true := by
    unfold rowRight
    rw [List.all_eq_true.2 fun v hv => (exRow_ok v hv).1]; rfl
  rw [this]
  exact k _ _ h
end
end Go.Proofs.YtifhbaphlmhoeaaGreatDoor
