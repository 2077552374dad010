/-
  Values and rows: how they compare. No condition.
-/
import Derived.Test.YtoebncgnjbblgaaGreatDoorValA
import Derived.Test.YtoebncgnjbblgaaGreatDoorStrs
import Derived.Test.YtoebncgnjbblgaaGreatDoorVal0
--@auto
namespace Go.Proofs.YtoebncgnjbblgaaGreatDoor
open Go.RowKit
set_option maxRecDepth 100000

def cmpI (a b : Int) : Int := if a < b then -1 else if b < a then 1 else 0
def compareV (a b : ValD) : Int := if cmpI a.kind b.kind ≠ 0 then cmpI a.kind b.kind else if cmpI a.n b.n ≠ 0 then cmpI a.n b.n else Go.Lib.compareBytes (bl a.s) (bl b.s)
def compareRows : List ValD → List ValD → Int
  | [], [] => 0
  | [], _ :: _ => -1
  | _ :: _, [] => 1
  | a :: l, b :: m => if compareV a b ≠ 0 then compareV a b else compareRows l m
theorem compareRows_at {l m : List ValD} {i : Nat} (h1 : i < l.length) (h2 : i < m.length) : compareRows (l.drop i) (m.drop i) = if compareV l[i] m[i] ≠ 0 then compareV l[i] m[i] else compareRows (l.drop (i + 1)) (m.drop (i + 1)) := by
  rw [List.drop_eq_getElem_cons h1, List.drop_eq_getElem_cons h2, compareRows]
set_option maxRecDepth 100000 in
theorem sCompare (a b : ByteArray) (w : World) :
    Calls Tryz.prog F_strings_Compare #[.string a, .string b] w fun e w' => e = .returned (.int .i64 (Go.Lib.compareBytes a.data.toList b.data.toList)) ∧ w' = w := Any.strings_Compare Tryz.laysCompare a b w
section
variable {B : Base} {w : World} {σ : List Dat}
theorem compare_g (a b : ByteArray) : Gives Tryz.prog B (sCall F_strings_Compare #[.string a, .string b]) (.int .i64 (Go.Lib.compareBytes (bl a) (bl b))) := by
  refine Gives.intro fun B' w K base h k => ?_
  refine strings_Compare.up (Calls.mono (sCompare a b w) ?_)
  rintro e w' ⟨rfl, rfl⟩
  exact k _ _ h
theorem notNaN_g (n : Int) : Gives Tryz.prog B (sCall F_cmp_isNaN_int #[.int .i64 n]) (.bool false) := by
  refine Gives.intro fun B' w K base h k => ?_
  refine cmp_isNaN_int.up (cmp_isNaN_int.call ?_)
  unfold cmp_isNaN_int.pt
  rw [bin_neq, decide_eq_true rfl, Bool.not_true]
  exact k _ _ h
theorem cmpI_g (a b : Int) : Gives Tryz.prog B (sCall F_cmp_Compare_int #[.int .i64 a, .int .i64 b]) (.int .i64 (cmpI a b)) := by
  refine Gives.intro fun B' w K base h k => ?_
  refine cmp_Compare_int.up (cmp_Compare_int.call ?_)
  unfold cmp_Compare_int.pt
  refine h.ask (fun B2 own base2 => notNaN_g a) fun w1 h => ?_
  refine h.ask (fun B2 own base2 => notNaN_g b) fun w2 h => ?_
  unfold cmpI at k
  rw [ifB_false, ifB_false, bin_lss, ifB_dec]
  refine ⟨fun c => ?_, fun c => ?_⟩
  · rw [if_pos c] at k; exact k _ _ h
  rw [if_neg c] at k
  rw [bin_gtr, ifB_dec]
  refine ⟨fun c2 => ?_, fun c2 => ?_⟩
  · rw [if_pos c2] at k; exact k _ _ h
  · rw [if_neg c2] at k; exact k _ _ h
def orI : List Int → Int
  | [] => 0
  | a :: l => if a ≠ 0 then a else orI l
theorem or_g {v : Value} {l : List Int} (r : rowR v l B) (hl : l.length ≤ 1000) : Gives Tryz.prog B (sCall F_cmp_Or_int #[v]) (.int .i64 (orI l)) := by
  refine Gives.intro fun B' w K base h k => ?_
  replace r := base r
  refine cmp_Or_int.up (cmp_Or_int.call ?_)
  unfold cmp_Or_int.pt
  simp -zeta only [rowR.len r sl_s_int]
  refine LOOP_intro (fun x w' => ∃ i : Nat, i ≤ l.length ∧ x = (.int .i64 i, ()) ∧ orI (l.drop i) = orI l ∧ Rel B' w' []) (fun x _ => l.length - (match x.1 with | .int _ n => n.toNat | _ => 0))
    ⟨0, Nat.zero_le _, rfl, rfl, h⟩ ?_
  clear h
  rintro x w1 ⟨i, hi, rfl, ho, h⟩ next hnext
  simp -zeta only [bin_lss, ifB_dec]
  refine ⟨fun hlt => ?_, fun hge => ?_⟩
  · have hil : i < l.length := by omega
    obtain ⟨q, q1, q2⟩ := rowR.at_sc r h sl_s_int hil sc_int (x := .int .i64 l[i]) rfl
    rw [List.drop_eq_getElem_cons hil, orI] at ho
    rw [q1, q2, bin_neq, ifB_not, ifB_dec]
    refine ⟨fun c => ?_, fun c => ?_⟩
    · rw [if_neg (fun hh => hh c)] at ho
      rw [bin_add, wrap_id (by omega) (by omega)]
      exact hnext _ _ ⟨i + 1, hil, rfl, ho, h⟩ (by simp only; omega)
    · rw [if_pos c] at ho
      rw [← ho] at k
      exact k _ _ h
  · have : i = l.length := by omega
    subst this
    rw [List.drop_length, orI] at ho
    rw [← ho] at k
    exact k _ _ h
theorem compareV_g (a b : ValD) : Gives Tryz.prog B (sCall F_value_Compare #[.agg a.cs.toArray, .agg b.cs.toArray]) (.int .i64 (compareV a b)) := by
  refine Gives.intro fun B' w K base h k => ?_
  refine value_Compare.up (value_Compare.call ?_)
  unfold value_Compare.pt
  refine h.box fun o w1 h => ?_
  refine h.box fun o2 w2 h => ?_
  have h : Rel B' w2 [cellD o T_api_Value a.cs.toArray, cellD o2 T_api_Value b.cs.toArray] := h
  have h := h.tick
  simp -zeta only [field_addr f_api_Value_0, field_addr f_api_Value_1, field_addr f_api_Value_2, Nat.add_zero, Nat.zero_add, h.ld 0 rfl sc_int (o := 0) rfl, h.ld 0 rfl sc_int (o := 1) rfl, h.ld 0 rfl sc_string (o := 2) rfl, h.ld 1 rfl sc_int (o := 0) rfl, h.ld 1 rfl sc_int (o := 1) rfl, h.ld 1 rfl sc_string (o := 2) rfl]
  refine h.ask (fun B2 own base2 => cmpI_g _ _) fun w3 h => ?_
  refine ⟨h.is 1 rfl sc_string (o := 2) rfl, h.is 0 rfl sc_string (o := 2) rfl, h.is 1 rfl sc_int (o := 1) rfl, h.is 0 rfl sc_int (o := 1) rfl, ?_⟩
  refine h.ask (fun B2 own base2 => cmpI_g _ _) fun w4 h => ?_
  refine ⟨h.is 1 rfl sc_string (o := 2) rfl, h.is 0 rfl sc_string (o := 2) rfl, ?_⟩
  refine h.ask (fun B2 own base2 => compare_g _ _) fun w5 h => ?_
  refine h.buildN (α := Int) [cmpI a.kind b.kind, cmpI a.n b.n, Go.Lib.compareBytes (bl a.s) (bl b.s)] sl_s_int fun u w6 h => ?_
  refine h.ask (fun B2 own base2 => or_g (rowD.read (own (i := 2) rfl)) (show 3 ≤ 1000 by omega)) fun w7 h => ?_
  have e : orI [cmpI a.kind b.kind, cmpI a.n b.n, Go.Lib.compareBytes (bl a.s) (bl b.s)] = compareV a b := by
    unfold compareV
    simp only [orI]
    split
    · rfl
    · split
      · rfl
      · split
        · rfl
        · rename_i hz; exact (Decidable.of_not_not hz).symm
  rw [e]
  exact k _ _ h
theorem compareV_c (a b : ValD) : Gives Tryz.prog B (sCallV (.func (.func F_value_Compare) #[] #[]) #[.agg a.cs.toArray, .agg b.cs.toArray]) (.int .i64 (compareV a b)) := by
  refine Gives.intro fun B' w K base h k => ?_
  exact call_v (h.ask (fun B2 own base2 => compareV_g a b) fun w1 h => k _ _ h)
end
end Go.Proofs.YtoebncgnjbblgaaGreatDoor
