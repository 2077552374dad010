/-
  The reference of layer 3: texts of values and rows. No condition.
-/
import Derived.Test.YtifhbaphlmhoeaaGreatDoorValR
import Derived.Test.YtifhbaphlmhoeaaGreatDoorValU
import Derived.Test.YtifhbaphlmhoeaaGreatDoorTxtR
--@auto
namespace Go.Proofs.YtifhbaphlmhoeaaGreatDoor
open Go.RowKit
set_option maxRecDepth 100000

theorem joinL_snoc : ∀ (m : List Bs) (x : Bs), joinL (m ++ [x]) = if m = [] then x else joinL m ++ sepL ++ x
  | [], x => rfl
  | [a], x => rfl
  | a :: b :: r, x => by
    have h := joinL_snoc (b :: r) x
    rw [if_neg (by simp)] at h ⊢
    show a ++ sepL ++ joinL ((b :: r) ++ [x]) = (a ++ sepL ++ joinL (b :: r)) ++ sepL ++ x
    rw [h]; simp
theorem restQ_drop {s : Bs} {i j : Nat} : (restQ s i).drop j = restQ s (i + j) := by
  unfold restQ
  rw [List.drop_take, List.drop_drop, show s.length - 1 - i - j = s.length - 1 - (i + j) by omega]
theorem restQ_take {s : Bs} {i n : Nat} (h : i + n + 1 ≤ s.length) : (restQ s i).take n = (s.take (i + n)).drop i := by
  unfold restQ
  rw [List.take_take, Nat.min_eq_left (by omega), List.drop_take, show i + n - i = n by omega]
/-- A place at which a value may end. -/
def SepQ (s : Bs) (j : Nat) : Prop := (j + 1 = s.length ∧ s[j]? = some 41) ∨ (s[j]? = some 44 ∧ s[j + 1]? = some 32)
section
variable {B : Base} {w : World} {σ : List Dat}
theorem fShow_g {v : ValD} (hn : inI v.n) (hs : (bl v.s).length ≤ 1099511627776) : Gives Tryz.prog B (sCall F_errataref03_Show #[.agg v.cs.toArray]) (.string (ofL (showS v))) := by
  refine Gives.intro fun B' w K base h k => ?_
  refine errataref03_Show.up (errataref03_Show.call ?_)
  unfold errataref03_Show.pt
  have es : v.s = ofL (bl v.s) := (ofL_bl v.s).symm
  refine h.box fun o w1 h => ?_
  have h : Rel B' w1 [cellD o T_api_Value v.cs.toArray] := h
  rw [h.ldAg 0 rfl ag_api_Value rfl]
  refine h.ask (fun B2 own base2 => fRight_g v) fun w2 h => ?_
  unfold showS at k
  rw [un_not, ifB_not, ifB_bool]
  refine ⟨fun c0 => ?_, fun c0 => by rw [if_pos c0] at k; exact k _ _ h⟩
  rw [if_neg (by rw [c0]; decide)] at k
  simp -zeta only [field_addr f_api_Value_0, field_addr f_api_Value_1, field_addr f_api_Value_2, Nat.add_zero, Nat.zero_add, h.ld 0 rfl sc_int (o := 0) rfl, h.ld 0 rfl sc_int (o := 1) rfl, h.ld 0 rfl sc_string (o := 2) rfl, bin_eql]
  rw [ifB_dec]
  refine ⟨fun c1 => ?_, fun c1 => ?_⟩
  · rw [if_pos c1] at k
    exact h.ask (fun B2 own base2 => Decimal2_g hn) fun w3 h => k _ _ h
  rw [if_neg c1] at k
  rw [ifB_dec]
  refine ⟨fun c2 => ?_, fun c2 => ?_⟩
  · rw [if_pos c2] at k
    refine h.ask (v := .string (ofL (quoteS (bl v.s)))) (fun B2 own base2 => by have := quote2_g (B := B2) (s := bl v.s) hs; rw [← es] at this; exact this) fun w3 h => k _ _ h
  rw [if_neg c2] at k
  rw [ifB_dec]
  refine ⟨fun c3 => ?_, fun c3 => ?_⟩
  · rw [if_pos c3] at k; exact k _ _ h
  · rw [if_neg c3] at k; exact k _ _ h
theorem fParse_g {s : Bs} (hs : s.length ≤ 1099511627776) : Gives Tryz.prog B (sCall F_errataref03_Parse #[.string (ofL s)]) (.tuple #[((parseV s).getD vZero).v, .bool (parseV s).isSome]) := by
  refine Gives.intro fun B' w K base h k => ?_
  refine errataref03_Parse.up (errataref03_Parse.call ?_)
  unfold errataref03_Parse.pt
  unfold parseV at k
  refine h.alloc z_api_Value fun o w1 h => ?_
  rw [eql_str, ifB_dec]
  refine ⟨fun c0 => ?_, fun c0 => ?_⟩
  · rw [if_pos ((trueL_eq s).1 c0)] at k
    rw [bd_api_Value_0_1]
    refine h.stAll 0 (ds := (vBool true).cs.toArray) rfl ag_api_Value rfl rfl (fun v hv => Enc.one (vBool true) v hv) fun w3 h => ?_
    rw [rv_ag h 0 rfl ag_api_Value rfl]
    exact k _ _ h
  rw [if_neg (fun hh => c0 ((trueL_eq s).2 hh))] at k
  rw [eql_str, ifB_dec]
  refine ⟨fun c1 => ?_, fun c1 => ?_⟩
  · rw [if_pos ((falseL_eq s).1 c1)] at k
    rw [bd_api_Value_0]
    refine h.stAll 0 (ds := (vBool false).cs.toArray) rfl ag_api_Value rfl rfl (fun v hv => Enc.one (vBool false) v hv) fun w3 h => ?_
    rw [rv_ag h 0 rfl ag_api_Value rfl]
    exact k _ _ h
  rw [if_neg (fun hh => c1 ((falseL_eq s).2 hh))] at k
  refine h.ask (fun B2 own base2 => textInt2_g hs) fun w2 h => ?_
  simp -zeta only [ext_2_0, ext_2_1]
  cases hi : intOf s with
  | some n =>
    rw [hi] at k
    simp -zeta only [Option.isSome_some, ifB_true, Option.getD_some]
    rw [bd_api_Value_0_1]
    refine h.stAll 0 (ds := (vInt n).cs.toArray) rfl ag_api_Value rfl rfl (fun v hv => Enc.one (vInt n) v hv) fun w4 h => ?_
    rw [rv_ag h 0 rfl ag_api_Value rfl]
    exact k _ _ h
  | none =>
    rw [hi] at k
    simp -zeta only [Option.isSome_none, ifB_false]
    refine h.ask (fun B2 own base2 => unquote2_r hs) fun w3 h => ?_
    simp -zeta only [ext_2_0, ext_2_1]
    refine LETJ_intro fun J1 hJ => ?_
    have hno : ∀ {w9 : World} {τ : List Dat} {cs : Array Value}, Rel B' w9 (cellD o T_api_Value cs :: τ) → cs.size = 3 → (∀ w' τ, Rel B' w' τ → K (.tuple #[vZero.v, .bool false]) w') → J1 () w9 := fun h hc k => by
      refine hJ _ _ ?_
      rw [bd_api_Value_]
      refine h.stAll 0 (ds := vZero.cs.toArray) rfl ag_api_Value rfl hc (fun v hv => Enc.one vZero v hv) fun w4 h => ?_
      rw [rv_ag h 0 rfl ag_api_Value rfl]
      exact k _ _ h
    cases hu : unquoteS s with
    | none =>
      rw [hu] at k
      simp -zeta only [Option.isSome_none, ifB_false]
      exact hno h rfl k
    | some t =>
      rw [hu] at k
      simp -zeta only [Option.isSome_some, ifB_true, Option.getD_some]
      rw [str_len U_string, bl_ofL, bin_leq, ifB_dec]
      refine ⟨fun c2 => ?_, fun c2 => ?_⟩
      · simp only [if_pos (show t.length ≤ 200 by omega)] at k
        rw [bd_api_Value_0_2]
        refine h.stAll 0 (ds := (vText (ofL t)).cs.toArray) rfl ag_api_Value rfl rfl (fun v hv => Enc.one (vText (ofL t)) v hv) fun w5 h => ?_
        rw [rv_ag h 0 rfl ag_api_Value rfl]
        exact k _ _ h
      · simp only [if_neg (show ¬ t.length ≤ 200 by omega)] at k
        exact hno h rfl k
theorem fShowRow_g {u : Value} {l : List ValD} (r : rowR u l B) (hl : l.length ≤ 1000000) (hg : ∀ v ∈ l, inI v.n ∧ (bl v.s).length ≤ 1099511627776) : Gives Tryz.prog B (sCall F_errataref03_ShowRow #[u]) (.string (ofL (showRowS l))) := by
  refine Gives.intro fun B' w K base h k => ?_
  replace r := base r
  refine errataref03_ShowRow.up (errataref03_ShowRow.call ?_)
  unfold errataref03_ShowRow.pt
  unfold showRowS at k
  refine h.ask (fun B2 own base2 => fAll_g (base2 r) (by omega)) fun w1 h => ?_
  rw [un_not, ifB_not, ifB_bool]
  refine ⟨fun c0 => ?_, fun c0 => by rw [if_neg (by rw [c0]; decide)] at k; exact k _ _ h⟩
  rw [if_pos c0] at k
  have hjl : ∀ i, (joinL ((l.take i).map showS)).length ≤ 1002 * l.length := fun i => by
    have hj := joinL_len ((l.take i).map showS) 1000 fun x hx => by
      obtain ⟨v, hv, rfl⟩ := List.mem_map.1 hx
      exact show_len (hg v (List.mem_of_mem_take hv)).1
    rw [List.length_map, List.length_take] at hj
    have : (1000 + 2) * min i l.length ≤ 1002 * l.length := Nat.mul_le_mul_left _ (Nat.min_le_right _ _)
    omega
  refine LOOP_intro (fun x w' => ∃ i : Nat, i ≤ l.length ∧ x = (.string (ofL (40 :: joinL ((l.take i).map showS))), .int .i64 i, ()) ∧ Rel B' w' []) (fun x _ => l.length - (match x.2.1 with | .int _ n => n.toNat | _ => 0))
    ⟨0, Nat.zero_le _, rfl, h⟩ ?_
  clear h
  rintro x w2 ⟨i, hi, rfl, h⟩ next hnext
  simp -zeta only [rowR.len r sl_s_api_Value, bin_lss, ifB_dec]
  have hji := hjl i
  refine ⟨fun hlt => ?_, fun hge => ?_⟩
  · have hil : i < l.length := by omega
    obtain ⟨hgi, hsi⟩ := hg l[i] (List.getElem_mem hil)
    have hsl := show_len (v := l[i]) hgi
    have e : (l.take (i + 1)).map showS = (l.take i).map showS ++ [showS l[i]] := by
      rw [List.take_succ_eq_append_getElem hil, List.map_append]; rfl
    have ej := joinL_snoc ((l.take i).map showS) (showS l[i])
    rw [← e] at ej
    refine LETJ_intro fun J1 hJ1 => ?_
    replace hJ1 : ∀ (p : Bs) w', Rel B' w' [] → p.length ≤ 1099511627776 → p ++ showS l[i] = 40 :: joinL ((l.take (i + 1)).map showS) → J1 (.string (ofL p), ()) w' := fun p w' h hp he => by
      refine hJ1 _ _ ?_
      obtain ⟨g, o, hx, hcl⟩ := rowR.idx r sl_s_api_Value (P := Tryz.prog) hil
      have hcl : cellsR g o l[i].cs B' := hcl
      rw [hx, cellsR.ldAg (h.hereB hcl) ag_api_Value rfl]
      refine h.ask (fun B2 own base2 => fShow_g hgi hsi) fun w4 h => ?_
      rw [strL_add (by omega), he, bin_add, wrap_id (by omega) (by omega)]
      exact hnext _ _ ⟨i + 1, hil, rfl, h⟩ (by simp only; omega)
    rw [bin_gtr, ifB_dec]
    refine ⟨fun c => ?_, fun c => ?_⟩
    · have hne : (l.take i).map showS ≠ [] := fun hh => by
        have := congrArg List.length hh
        rw [List.length_map, List.length_take, List.length_nil] at this; omega
      rw [if_neg hne] at ej
      rw [show (⟨#[44, 32]⟩ : ByteArray) = ofL sepL from rfl, strL_add (by simp only [List.length_cons]; have : sepL.length = 2 := rfl; omega)]
      refine hJ1 _ _ h (by simp only [List.length_append, List.length_cons]; have : sepL.length = 2 := rfl; omega) ?_
      rw [ej]; simp
    · obtain rfl : i = 0 := by omega
      exact hJ1 _ _ h (by simp only [List.length_cons]; omega) (by rw [ej]; rfl)
  · have hie : i = l.length := by omega
    subst hie
    rw [List.take_length] at hji ⊢
    rw [show (⟨#[41]⟩ : ByteArray) = ofL [41] from rfl, strL_add (by simp only [List.length_cons, List.length_nil]; omega)]
    exact k _ _ h
end
end Go.Proofs.YtifhbaphlmhoeaaGreatDoor
