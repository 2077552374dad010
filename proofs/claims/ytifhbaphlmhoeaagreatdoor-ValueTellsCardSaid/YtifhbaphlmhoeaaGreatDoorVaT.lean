/-
  ValueTells: what the law computes. No condition.
-/
import Derived.Test.YtifhbaphlmhoeaaGreatDoorVaA
import Derived.Test.YtifhbaphlmhoeaaGreatDoorValH
--@auto
namespace Go.Proofs.YtifhbaphlmhoeaaGreatDoor
open Go.RowKit
set_option maxRecDepth 100000

theorem rowOpt {R : Option (List ValD)} {u : Value} {τ : List Dat} (hp : (∃ l v, R = some l ∧ u = .tuple #[v, .bool true] ∧ τ = [rowD T_api_Value v l]) ∨ (R = none ∧ u = .tuple #[.slice none 0 0, .bool false] ∧ τ = [])) {B : Base} {w : World} {σ : List Dat} (h : Rel B w (σ ++ τ)) :
    ∃ v, u = .tuple #[v, .bool R.isSome] ∧ Rel B w (σ ++ [rowD T_api_Value v (R.getD [])]) := by
  rcases hp with ⟨l, v, rfl, rfl, rfl⟩ | ⟨rfl, rfl, rfl⟩
  · exact ⟨v, rfl, h⟩
  · rw [List.append_nil] at h
    exact ⟨_, rfl, h.addNil ValD T_api_Value⟩
section
variable {W : World} {w : World} {K : Value → World → Prop}
set_option maxHeartbeats 1000000 in
theorem valueTells_pt {u0 u1 : Value} {a b : List ValD} {s2 : ByteArray} (hB : wireD (lawB W)) (ra : rowR u0 a (lawB W)) (ha : a.length ≤ maxLen) (oa : ∀ v ∈ a, ok_api_Value W v) (rb : rowR u1 b (lawB W)) (hb : b.length ≤ maxLen) (ob : ∀ v ∈ b, ok_api_Value W v) (ws : s2.size ≤ maxLen)
    (fin : ∀ w' σ, Rel (lawB W) w' σ → K (.bool true) w') : erratalaw03_ValueTells.pt u0 u1 (.string s2) W K := by
  unfold erratalaw03_ValueTells.pt
  have h := lawB.start W
  refine h.ask (fun B2 own base2 => small_g (base2 hB)) fun w1 h => ?_
  refine h.ask (fun B2 own base2 => short_g (base2 ra) ha 15) fun w2 h => ?_
  rw [un_not, ifB_not, ifB_bool]
  refine ⟨fun hs => ?_, fun _ => fin _ _ h⟩
  obtain ⟨la, sa⟩ := bnd_law ra hs (by omega)
  refine h.ask (fun B2 own base2 => short_g (base2 rb) hb 15) fun w2 h => ?_
  rw [un_not, ifB_not, ifB_bool]
  refine ⟨fun hs => ?_, fun _ => fin _ _ h⟩
  obtain ⟨lb, sb⟩ := bnd_law rb hs (by omega)
  simp -zeta only [len_string U_string, bin_gtr, ifB_dec]
  refine ⟨fun _ => fin _ _ h, fun ht => ?_⟩
  obtain ⟨t, rfl⟩ : ∃ t : Bs, s2 = ofL t := ⟨bl s2, (ofL_bl s2).symm⟩
  rw [ofL_size] at ht
  have ga : ∀ v ∈ a, GoodVal v ∧ (bl v.s).length ≤ 1000000 := fun v hv => ⟨goodVal (oa v hv) (by have := sa v hv; omega), by have := sa v hv; omega⟩
  have na : ∀ v ∈ a, inI v.n ∧ (bl v.s).length ≤ 1099511627776 := fun v hv => ⟨(oa v hv).2.1, by have := sa v hv; omega⟩
  have nb : ∀ x : Bool, (!(x == x)) = false := fun x => by simp
  refine h.ask (fun B2 own base2 => rowRight_g (base2 ra) (by omega)) fun w2 h => ?_
  refine h.ask (fun B2 own base2 => fRightRow_g (base2 ra) (by omega)) fun w2 h => ?_
  rw [bin_neq_bool U_bool, nb, ifB_false]
  refine h.ask (fun B2 own base2 => compareRows_g (base2 ra) (base2 rb) (by omega)) fun w2 h => ?_
  refine h.ask (fun B2 own base2 => fCompareRows_g (base2 ra) (base2 rb) (by omega)) fun w2 h => ?_
  rw [bin_neq, decide_eq_true rfl, Bool.not_true, ifB_false]
  refine h.ask (fun B2 own base2 => sameRows_g (base2 ra) (base2 rb) (by omega)) fun w2 h => ?_
  refine h.ask (fun B2 own base2 => fSame_g (base2 ra) (base2 rb) (by omega)) fun w2 h => ?_
  rw [bin_neq_bool U_bool, nb, ifB_false]
  refine h.ask (fun B2 own base2 => rowBytes_g (base2 hB) (base2 ra) (by omega) ga) fun w2 h => ?_
  refine h.ask (fun B2 own base2 => fRowBytes_g (base2 ra) (by omega) ga) fun w2 h => ?_
  rw [neq_str, decide_eq_true rfl, Bool.not_true, ifB_false]
  refine h.ask (fun B2 own base2 => showRow_g (base2 hB) (base2 ra) (by omega) na) fun w2 h => ?_
  refine h.ask (fun B2 own base2 => fShowRow_g (base2 ra) (by omega) na) fun w2 h => ?_
  rw [neq_str, decide_eq_true rfl, Bool.not_true, ifB_false]
  refine LOOP_intro (fun x w' => ∃ i : Nat, i ≤ a.length ∧ x = (.int .i64 i, ()) ∧ Rel (lawB W) w' []) (fun x _ => a.length - (match x.1 with | .int _ n => n.toNat | _ => 0))
    ⟨0, Nat.zero_le _, rfl, h⟩ ?_
  clear h
  rintro x w14 ⟨i, hi, rfl, h⟩ next hnext
  simp -zeta only [rowR.len ra sl_s_api_Value, rowR.len rb sl_s_api_Value, bin_lss]
  rw [ifB_dec]
  refine ⟨fun hlt => ?_, fun hge => ?_⟩
  · have hil : i < a.length := by omega
    refine LETJ_intro fun J1 hJ1 => ?_
    replace hJ1 : ∀ w' σ, Rel (lawB W) w' σ → J1 () w' := fun w' σ h => by
      refine hJ1 _ _ ?_
      rw [bin_add, wrap_id (by omega) (by omega)]
      exact hnext _ _ ⟨i + 1, hil, rfl, h.nil⟩ (by simp only; omega)
    clear hnext
    obtain ⟨g, o, hx, hcl⟩ := rowR.idx ra sl_s_api_Value (P := Tryz.prog) hil
    have hcl : cellsR g o a[i].cs (lawB W) := hcl
    obtain ⟨g1, g2⟩ := ga a[i] (List.getElem_mem hil)
    obtain ⟨n1, n2⟩ := na a[i] (List.getElem_mem hil)
    have h := h.tick
    rw [hx, cellsR.ldAg (h.hereB hcl) ag_api_Value rfl, hx, cellsR.ldAg (h.hereB hcl) ag_api_Value rfl]
    refine h.ask (fun B2 own base2 => vRight_g a[i]) fun w2 h => ?_
    refine ⟨cellsR.isAg (h.hereB hcl) ag_api_Value rfl, ?_⟩
    refine h.ask (fun B2 own base2 => fRight_g a[i]) fun w2 h => ?_
    rw [bin_neq_bool U_bool, nb, ifB_false]
    rw [hx, cellsR.ldAg (h.hereB hcl) ag_api_Value rfl, hx, cellsR.ldAg (h.hereB hcl) ag_api_Value rfl]
    refine h.ask (fun B2 own base2 => vBytes_g (base2 hB) g1 (by omega)) fun w2 h => ?_
    refine ⟨cellsR.isAg (h.hereB hcl) ag_api_Value rfl, ?_⟩
    refine h.ask (fun B2 own base2 => fBytes_g g1 (by omega)) fun w2 h => ?_
    rw [neq_str, decide_eq_true rfl, Bool.not_true, ifB_false]
    rw [hx, cellsR.ldAg (h.hereB hcl) ag_api_Value rfl, hx, cellsR.ldAg (h.hereB hcl) ag_api_Value rfl]
    refine h.ask (fun B2 own base2 => show_g (base2 hB) n1 n2) fun w2 h => ?_
    refine ⟨cellsR.isAg (h.hereB hcl) ag_api_Value rfl, ?_⟩
    refine h.ask (fun B2 own base2 => fShow_g n1 n2) fun w2 h => ?_
    rw [neq_str, decide_eq_true rfl, Bool.not_true, ifB_false]
    have h := h.tick
    rw [ifB_dec]
    refine ⟨fun hlt2 => ?_, fun _ => hJ1 _ _ h⟩
    have hi2 : i < b.length := by omega
    obtain ⟨g', o', hx', hcl'⟩ := rowR.idx rb sl_s_api_Value (P := Tryz.prog) hi2
    have hcl' : cellsR g' o' b[i].cs (lawB W) := hcl'
    rw [hx, cellsR.ldAg (h.hereB hcl) ag_api_Value rfl, hx', cellsR.ldAg (h.hereB hcl') ag_api_Value rfl, hx, cellsR.ldAg (h.hereB hcl) ag_api_Value rfl, hx', cellsR.ldAg (h.hereB hcl') ag_api_Value rfl]
    refine h.ask (fun B2 own base2 => compareV_g a[i] b[i]) fun w2 h => ?_
    refine ⟨cellsR.isAg (h.hereB hcl') ag_api_Value rfl, cellsR.isAg (h.hereB hcl) ag_api_Value rfl, ?_⟩
    refine h.ask (fun B2 own base2 => fCompare_g a[i] b[i]) fun w2 h => ?_
    rw [bin_neq, decide_eq_true rfl, Bool.not_true, ifB_false]
    exact hJ1 _ _ h
  clear hnext
  have ht1 : t.length ≤ 1099511627776 := by omega
  generalize e1 : (readV1 t).getD vZero = x1
  generalize e2 : (readV1 t).isSome = k1
  generalize e3 : (parseV t).getD vZero = x2
  generalize e4 : (parseV t).isSome = k2
  refine h.ask (fun B2 own base2 => read_g (base2 hB) ht1) fun w2 h => ?_
  simp -zeta only [ext_2_0, ext_2_1]
  rw [e1, e2]
  refine h.allocAg (ds := x1.cs.toArray) z_api_Value rfl ag_api_Value rfl (fun v hv => Enc.one x1 v hv) fun p1 w2 h => ?_
  refine h.ask (fun B2 own base2 => fRead_g ht1) fun w2 h => ?_
  simp -zeta only [ext_2_0, ext_2_1]
  rw [e1, e2]
  refine h.allocAg (ds := x1.cs.toArray) z_api_Value rfl ag_api_Value rfl (fun v hv => Enc.one x1 v hv) fun p2 w2 h => ?_
  refine h.ask (fun B2 own base2 => parse_g (base2 hB) ht1) fun w2 h => ?_
  simp -zeta only [ext_2_0, ext_2_1]
  rw [e3, e4]
  refine h.allocAg (ds := x2.cs.toArray) z_api_Value rfl ag_api_Value rfl (fun v hv => Enc.one x2 v hv) fun p3 w2 h => ?_
  refine h.ask (fun B2 own base2 => fParse_g ht1) fun w2 h => ?_
  simp -zeta only [ext_2_0, ext_2_1]
  rw [e3, e4]
  refine h.allocAg (ds := x2.cs.toArray) z_api_Value rfl ag_api_Value rfl (fun v hv => Enc.one x2 v hv) fun p4 w2 h => ?_
  refine h.make (fun B2 own base2 => readRow_m (base2 hB) ht1) fun u τ w2 hp h => ?_
  obtain ⟨v1, rfl, h⟩ := rowOpt hp h
  simp -zeta only [ext_2_0, ext_2_1]
  refine h.make (fun B2 own base2 => fReadRow_m ht1) fun u τ w2 hp h => ?_
  obtain ⟨v2, rfl, h⟩ := rowOpt hp h
  simp -zeta only [ext_2_0, ext_2_1]
  refine h.make (fun B2 own base2 => parseRow_m (base2 hB) ht1) fun u τ w2 hp h => ?_
  obtain ⟨v3, rfl, h⟩ := rowOpt hp h
  simp -zeta only [ext_2_0, ext_2_1]
  refine h.make (fun B2 own base2 => fParseRow_m ht1) fun u τ w39 hp h => ?_
  obtain ⟨v4, rfl, h⟩ := rowOpt hp h
  simp -zeta only [ext_2_0, ext_2_1]
  have hl1 : ((readRow t).getD []).length ≤ 1000 := by
    cases hr : readRow t with
    | none => exact Nat.zero_le _
    | some l => have := (readRow_len hr).2; show l.length ≤ 1000; omega
  have hl2 : ((parseRowS t).getD []).length ≤ 1000 := by
    cases hr : parseRowS t with
    | none => exact Nat.zero_le _
    | some l =>
      have h1 := (parseRow_back hr).1
      have h2 := (parseRow_back hr).2
      have e3 : showRowS l = 40 :: (joinL (l.map showS) ++ [41]) := by
        unfold showRowS
        rw [if_pos (List.all_eq_true.2 fun v hv => (h2 v hv).1)]
      have e4 := congrArg List.length (e3.symm.trans h1)
      simp only [List.length_cons, List.length_append, List.length_nil] at e4
      have := (joinL_max (l.map showS)).1
      rw [List.length_map] at this
      show l.length ≤ 1000
      omega
  generalize (readRow t).getD [] = m1 at *
  generalize (readRow t).isSome = k3 at *
  generalize (parseRowS t).getD [] = m2 at *
  generalize (parseRowS t).isSome = k4 at *
  have h : Rel (lawB W) w39 [cellD p1 T_api_Value x1.cs.toArray, cellD p2 T_api_Value x1.cs.toArray, cellD p3 T_api_Value x2.cs.toArray, cellD p4 T_api_Value x2.cs.toArray, rowD T_api_Value v1 m1, rowD T_api_Value v2 m1, rowD T_api_Value v3 m2, rowD T_api_Value v4 m2] := h
  rw [h.ldAg 0 rfl ag_api_Value rfl, h.ldAg 1 rfl ag_api_Value rfl, show (Value.agg x1.cs.toArray) = x1.v from rfl, neq_api_Value, decide_eq_true rfl, Bool.not_true, ifB_false, bin_neq_bool U_bool, nb, ifB_false]
  rw [h.ldAg 2 rfl ag_api_Value rfl, h.ldAg 3 rfl ag_api_Value rfl, show (Value.agg x2.cs.toArray) = x2.v from rfl, neq_api_Value, decide_eq_true rfl, Bool.not_true, ifB_false, bin_neq_bool U_bool, nb, ifB_false]
  rw [bin_neq_bool U_bool, nb, ifB_false, bin_neq_bool U_bool, nb, ifB_false, ifB_true]
  refine h.ask (fun B2 own base2 => fSame_g (rowD.read (own (i := 4) rfl)) (rowD.read (own (i := 5) rfl)) (by omega)) fun w40 h => ?_
  rw [decide_eq_true rfl, ifB_true]
  refine h.ask (fun B2 own base2 => fSame_g (rowD.read (own (i := 6) rfl)) (rowD.read (own (i := 7) rfl)) (by omega)) fun w41 h => ?_
  rw [decide_eq_true rfl]
  exact fin _ _ h
end
end Go.Proofs.YtifhbaphlmhoeaaGreatDoor
