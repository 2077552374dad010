/-
  The reference of layer 3: Right, Compare, Bytes, Read, rows. No condition.
-/
import Derived.Test.YtmllhipiahlihaaGreatDoorVaP
import Derived.Test.YtmllhipiahlihaaGreatDoorValV
import Derived.Test.YtmllhipiahlihaaGreatDoorWireS
--@auto
namespace Go.Proofs.YtmllhipiahlihaaGreatDoor
open Go.RowKit
set_option maxRecDepth 100000

def vRight' (v : ValD) : Bool := if v.kind = 0 then decide (v.s = ⟨#[]⟩) else if v.kind = 1 then decide (v.n = 0) && decide ((v.s.size : Int) ≤ 200) else decide (v.kind = 2) && ((decide (v.n = 0) || decide (v.n = 1)) && decide (v.s = ⟨#[]⟩))
theorem vRight_eq (v : ValD) : vRight v = vRight' v := by
  obtain ⟨k, n, s⟩ := v
  unfold vRight vRight' vInt vText vBool
  simp only [D_api_Value.mk.injEq]
  by_cases h0 : k = 0
  · simp [h0]
  · by_cases h1 : k = 1
    · simp [h1]
    · simp only [h0, h1, if_false]
      by_cases h2 : k = 2
      · by_cases h3 : n = 0
        · simp [h2, h3]
        · simp [h2, h3]
      · simp [h2]
theorem timesR_snoc {α : Type} (one : RS → α × RS) : ∀ (k : Nat) (acc : List α) (s : RS), timesR one (k + 1) acc s = ((timesR one k acc s).1 ++ [(one (timesR one k acc s).2).1], (one (timesR one k acc s).2).2)
  | 0, acc, s => by rw [timesR, timesR, timesR]
  | k + 1, acc, s => by rw [timesR, timesR_snoc one k, timesR]
section
variable {B : Base} {w : World} {σ : List Dat}
theorem fRight_g (v : ValD) : Gives Tryz.prog B (sCall F_errataref03_Right #[.agg v.cs.toArray]) (.bool (vRight v)) := by
  refine Gives.intro fun B' w K base h k => ?_
  refine errataref03_Right.up (errataref03_Right.call ?_)
  unfold errataref03_Right.pt
  rw [vRight_eq] at k
  unfold vRight' at k
  refine h.box fun o w1 h => ?_
  have h : Rel B' w1 [cellD o T_api_Value v.cs.toArray] := h
  simp -zeta only [field_addr f_api_Value_0, field_addr f_api_Value_1, field_addr f_api_Value_2, Nat.add_zero, Nat.zero_add, h.ld 0 rfl sc_int (o := 0) rfl, h.ld 0 rfl sc_int (o := 1) rfl, h.ld 0 rfl sc_string (o := 2) rfl, bin_eql, eql_str, len_string U_string, bin_leq]
  rw [ifB_dec]
  refine ⟨fun c0 => by rw [if_pos c0] at k; exact k _ _ h, fun c0 => ?_⟩
  rw [if_neg c0] at k
  rw [ifB_dec]
  refine ⟨fun c1 => ?_, fun c1 => ?_⟩
  · rw [if_pos c1] at k
    rw [ifB_dec]
    refine ⟨fun c2 => by rw [decide_eq_true c2, Bool.true_and] at k; exact k _ _ h, fun c2 => by rw [decide_eq_false c2, Bool.false_and] at k; exact k _ _ h⟩
  rw [if_neg c1] at k
  rw [ifB_dec]
  refine ⟨fun c2 => ?_, fun c2 => by rw [decide_eq_false c2, Bool.false_and] at k; exact k _ _ h⟩
  rw [decide_eq_true c2, Bool.true_and] at k
  rw [ifB_dec]
  refine ⟨fun c3 => by rw [decide_eq_true c3, Bool.true_or, Bool.true_and] at k; exact k _ _ h, fun c3 => ?_⟩
  rw [decide_eq_false c3, Bool.false_or] at k
  rw [ifB_dec]
  refine ⟨fun c4 => by rw [decide_eq_true c4, Bool.true_and] at k; exact k _ _ h, fun c4 => by rw [decide_eq_false c4, Bool.false_and] at k; exact k _ _ h⟩
theorem fAll_g {u : Value} {l : List ValD} (r : rowR u l B) (hl : l.length ≤ 9223372036854775807) : Gives Tryz.prog B (sCall F_errataref03_All #[u]) (.bool (l.all vRight)) := by
  refine Gives.intro fun B' w K base h k => ?_
  replace r := base r
  refine errataref03_All.up (errataref03_All.call ?_)
  unfold errataref03_All.pt
  refine LOOP_intro (fun x w' => ∃ i : Nat, i ≤ l.length ∧ x = (.int .i64 i, ()) ∧ (∀ j (h1 : j < l.length), j < i → vRight l[j] = true) ∧ Rel B' w' []) (fun x _ => l.length - (match x.1 with | .int _ n => n.toNat | _ => 0))
    ⟨0, Nat.zero_le _, rfl, fun j _ hj => absurd hj (Nat.not_lt_zero j), h⟩ ?_
  clear h
  rintro x w1 ⟨i, hi, rfl, hin, h⟩ next hnext
  simp -zeta only [rowR.len r sl_s_api_Value, bin_lss, ifB_dec]
  refine ⟨fun hlt => ?_, fun hge => ?_⟩
  · have hil : i < l.length := by omega
    obtain ⟨g, o, hx, hcl⟩ := rowR.idx r sl_s_api_Value (P := Tryz.prog) hil
    have hcl : cellsR g o l[i].cs B' := hcl
    rw [hx, cellsR.ldAg (h.hereB hcl) ag_api_Value rfl]
    refine h.ask (fun B2 own base2 => fRight_g l[i]) fun w2 h => ?_
    rw [un_not, ifB_not, ifB_bool]
    refine ⟨fun c => ?_, fun c => ?_⟩
    · rw [bin_add, wrap_id (by omega) (by omega)]
      refine hnext _ _ ⟨i + 1, hil, rfl, fun j h1 hj => ?_, h⟩ (by simp only; omega)
      by_cases e : j = i
      · subst e; exact c
      · exact hin j h1 (by omega)
    · have : l.all vRight = false := by
        cases ha : l.all vRight
        · rfl
        · have := List.all_eq_true.1 ha l[i] (List.getElem_mem hil); rw [c] at this; cases this
      rw [this] at k
      exact k _ _ h
  · have : l.all vRight = true := List.all_eq_true.2 fun v hv => by
      obtain ⟨j, hj, rfl⟩ := List.getElem_of_mem hv
      exact hin j hj (by omega)
    rw [this] at k
    exact k _ _ h
theorem fRightRow_g {u : Value} {l : List ValD} (r : rowR u l B) (hl : l.length ≤ 9223372036854775807) : Gives Tryz.prog B (sCall F_errataref03_RightRow #[u]) (.bool (rowRight l)) := by
  refine Gives.intro fun B' w K base h k => ?_
  replace r := base r
  refine errataref03_RightRow.up (errataref03_RightRow.call ?_)
  unfold errataref03_RightRow.pt
  unfold rowRight at k
  simp -zeta only [rowR.len r sl_s_api_Value, bin_leq, ifB_dec]
  refine ⟨fun c => ?_, fun c => ?_⟩
  · rw [decide_eq_true c, Bool.true_and] at k
    exact h.ask (fun B2 own base2 => fAll_g (base2 r) hl) fun w1 h => k _ _ h
  · rw [decide_eq_false c, Bool.false_and] at k
    exact k _ _ h
theorem fCompare_g (a b : ValD) : Gives Tryz.prog B (sCall F_errataref03_Compare #[.agg a.cs.toArray, .agg b.cs.toArray]) (.int .i64 (compareV a b)) := by
  refine Gives.intro fun B' w K base h k => ?_
  refine errataref03_Compare.up (errataref03_Compare.call ?_)
  unfold errataref03_Compare.pt
  refine h.box fun o w1 h => ?_
  refine h.box fun p w2 h => ?_
  have h : Rel B' w2 [cellD o T_api_Value a.cs.toArray, cellD p T_api_Value b.cs.toArray] := h
  have hl : ∀ s t : ByteArray, Op.bytesLess s.toList t.toList = decide (Go.Lib.compareBytes (bl s) (bl t) < 0) := fun s t => by
    rw [ByteArray.toList_eq, ByteArray.toList_eq]; exact bytesLess_eq _ _
  simp -zeta only [field_addr f_api_Value_0, field_addr f_api_Value_1, field_addr f_api_Value_2, Nat.add_zero, Nat.zero_add, h.ld 0 rfl sc_int (o := 0) rfl, h.ld 0 rfl sc_int (o := 1) rfl, h.ld 0 rfl sc_string (o := 2) rfl,
    h.ld 1 rfl sc_int (o := 0) rfl, h.ld 1 rfl sc_int (o := 1) rfl, h.ld 1 rfl sc_string (o := 2) rfl, bin_lss, bin_gtr, str_lss, str_gtr, hl, toList_beq]
  unfold compareV at k
  rw [ifB_dec]
  refine ⟨fun c => ?_, fun c1 => ?_⟩
  · have : cmpI a.kind b.kind = -1 := by unfold cmpI; rw [if_pos c]
    rw [this, if_pos (by decide)] at k; exact k _ _ h
  rw [ifB_dec]
  refine ⟨fun c => ?_, fun c2 => ?_⟩
  · have : cmpI a.kind b.kind = 1 := by unfold cmpI; rw [if_neg c1, if_pos c]
    rw [this, if_pos (by decide)] at k; exact k _ _ h
  have e : cmpI a.kind b.kind = 0 := by unfold cmpI; rw [if_neg c1, if_neg c2]
  rw [e, if_neg (by decide)] at k
  rw [ifB_dec]
  refine ⟨fun c => ?_, fun c3 => ?_⟩
  · have : cmpI a.n b.n = -1 := by unfold cmpI; rw [if_pos c]
    rw [this, if_pos (by decide)] at k; exact k _ _ h
  rw [ifB_dec]
  refine ⟨fun c => ?_, fun c4 => ?_⟩
  · have : cmpI a.n b.n = 1 := by unfold cmpI; rw [if_neg c3, if_pos c]
    rw [this, if_pos (by decide)] at k; exact k _ _ h
  have e : cmpI a.n b.n = 0 := by unfold cmpI; rw [if_neg c3, if_neg c4]
  rw [e, if_neg (by decide)] at k
  have hr := bytes_ord.range (bl a.s) (bl b.s)
  have he := bytes_ord.eq (bl a.s) (bl b.s)
  rw [ifB_dec]
  refine ⟨fun c => ?_, fun c5 => ?_⟩
  · rw [show Go.Lib.compareBytes (bl a.s) (bl b.s) = -1 by omega] at k; exact k _ _ h
  rw [ifB_not, ifB_bool]
  refine ⟨fun c => ?_, fun c => ?_⟩
  · have : Go.Lib.compareBytes (bl a.s) (bl b.s) = 0 := by
      rcases Bool.or_eq_true _ _ ▸ c with c | c
      · exact absurd (of_decide_eq_true c) c5
      · exact he.2 (by rw [of_decide_eq_true c])
    rw [this] at k; exact k _ _ h
  · rw [Bool.or_eq_false_iff] at c
    have c6 : ¬ Go.Lib.compareBytes (bl a.s) (bl b.s) = 0 := fun hh => of_decide_eq_false c.2 (bl_inj (he.1 hh))
    rw [show Go.Lib.compareBytes (bl a.s) (bl b.s) = 1 by omega] at k; exact k _ _ h
theorem fCompareRows_g {u v : Value} {l m : List ValD} (r : rowR u l B) (q : rowR v m B) (hl : l.length ≤ 9223372036854775807) : Gives Tryz.prog B (sCall F_errataref03_CompareRows #[u, v]) (.int .i64 (compareRows l m)) := by
  refine Gives.intro fun B' w K base h k => ?_
  replace r := base r
  replace q := base q
  refine errataref03_CompareRows.up (errataref03_CompareRows.call ?_)
  unfold errataref03_CompareRows.pt
  rw [rows_lex] at k
  refine LETJ_intro fun J1 hJ1 => ?_
  replace hJ1 : ∀ (i : Nat) w', i ≤ l.length → i ≤ m.length → (l.length ≤ i ∨ m.length ≤ i) → (∀ j (h1 : j < l.length) (h2 : j < m.length), j < i → compareV l[j] m[j] = 0) → Rel B' w' [] → J1 () w' := fun i w' h1 h2 h3 hin h => by
    refine hJ1 _ _ ?_
    rw [lex_same i hin h1 h2] at k
    simp -zeta only [rowR.len r sl_s_api_Value, rowR.len q sl_s_api_Value, bin_lss, bin_gtr]
    rw [ifB_dec]
    refine ⟨fun c => ?_, fun c => ?_⟩
    · rw [List.drop_of_length_le (show l.length ≤ i by omega), List.drop_eq_getElem_cons (show i < m.length by omega)] at k
      exact k _ _ h
    rw [ifB_dec]
    refine ⟨fun c2 => ?_, fun c2 => ?_⟩
    · rw [List.drop_of_length_le (show m.length ≤ i by omega), List.drop_eq_getElem_cons (show i < l.length by omega)] at k
      exact k _ _ h
    · rw [List.drop_of_length_le (show m.length ≤ i by omega), List.drop_of_length_le (show l.length ≤ i by omega)] at k
      exact k _ _ h
  refine LOOP_intro (fun x w' => ∃ i : Nat, i ≤ l.length ∧ i ≤ m.length ∧ x = (.int .i64 i, ()) ∧ (∀ j (h1 : j < l.length) (h2 : j < m.length), j < i → compareV l[j] m[j] = 0) ∧ Rel B' w' []) (fun x _ => l.length - (match x.1 with | .int _ n => n.toNat | _ => 0))
    ⟨0, Nat.zero_le _, Nat.zero_le _, rfl, fun j _ _ hj => absurd hj (Nat.not_lt_zero j), h⟩ ?_
  clear h
  rintro x w1 ⟨i, hi, hi2, rfl, hin, h⟩ next hnext
  simp -zeta only [rowR.len r sl_s_api_Value, rowR.len q sl_s_api_Value, bin_lss, ifB_dec]
  refine ⟨fun hlt => ⟨fun hlt2 => ?_, fun hge => hJ1 i _ hi hi2 (.inr (by omega)) hin h⟩, fun hge => hJ1 i _ hi hi2 (.inl (by omega)) hin h⟩
  have hil : i < l.length := by omega
  have him : i < m.length := by omega
  obtain ⟨g, o, hx, hcl⟩ := rowR.idx r sl_s_api_Value (P := Tryz.prog) hil
  obtain ⟨g2, o2, hx2, hcl2⟩ := rowR.idx q sl_s_api_Value (P := Tryz.prog) him
  have hcl : cellsR g o l[i].cs B' := hcl
  have hcl2 : cellsR g2 o2 m[i].cs B' := hcl2
  have h := h.tick
  rw [hx, cellsR.ldAg (h.hereB hcl) ag_api_Value rfl, hx2, cellsR.ldAg (h.hereB hcl2) ag_api_Value rfl]
  refine h.ask (fun B2 own base2 => fCompare_g l[i] m[i]) fun w2 h => ?_
  rw [bin_neq, ifB_not, ifB_dec]
  refine ⟨fun c => ?_, fun c => ?_⟩
  · rw [bin_add, wrap_id (by omega) (by omega)]
    refine hnext _ _ ⟨i + 1, hil, him, rfl, fun j h1 h2 hj => ?_, h⟩ (by simp only; omega)
    by_cases e : j = i
    · subst e; exact c
    · exact hin j h1 h2 (by omega)
  · rw [lex_first i hil him hin c] at k
    exact k _ _ h
theorem fSame_g {u v : Value} {l m : List ValD} (r : rowR u l B) (q : rowR v m B) (hl : l.length ≤ 9223372036854775807) : Gives Tryz.prog B (sCall F_errataref03_Same #[u, v]) (.bool (decide (l = m))) := by
  refine Gives.intro fun B' w K base h k => ?_
  refine errataref03_Same.up (errataref03_Same.call ?_)
  unfold errataref03_Same.pt
  refine h.ask (fun B2 own base2 => fCompareRows_g (base2 (base r)) (base2 (base q)) hl) fun w1 h => ?_
  rw [bin_eql]
  have : decide (compareRows l m = 0) = decide (l = m) := by
    have := rows_ord.eq l m
    by_cases c : l = m
    · rw [decide_eq_true c, decide_eq_true (this.2 c)]
    · rw [decide_eq_false c, decide_eq_false fun hh => c (this.1 hh)]
  rw [this]
  exact k _ _ h
theorem fBytes_g {v : ValD} (hg : GoodVal v) (hs : (bl v.s).length ≤ 1099511627776) : Gives Tryz.prog B (sCall F_errataref03_Bytes #[.agg v.cs.toArray]) (.string (ofL (encV1 v))) := by
  refine Gives.intro fun B' w K base h k => ?_
  refine errataref03_Bytes.up (errataref03_Bytes.call ?_)
  unfold errataref03_Bytes.pt
  refine h.box fun o w1 h => ?_
  have h : Rel B' w1 [cellD o T_api_Value v.cs.toArray] := h
  have h := h.tick
  have h1 := encI_len hg.kind
  have h2 := encI_len hg.n
  have h3 := encT_len (bl v.s) hg.s
  have es : v.s = ofL (bl v.s) := (ofL_bl v.s).symm
  simp -zeta only [field_addr f_api_Value_0, field_addr f_api_Value_1, field_addr f_api_Value_2, Nat.add_zero, Nat.zero_add, h.ld 0 rfl sc_int (o := 0) rfl, h.ld 0 rfl sc_int (o := 1) rfl, h.ld 0 rfl sc_string (o := 2) rfl]
  refine h.ask (fun B2 own base2 => fInt_g hg.kind) fun w2 h => ?_
  refine ⟨h.is 0 rfl sc_string (o := 2) rfl, h.is 0 rfl sc_int (o := 1) rfl, ?_⟩
  refine h.ask (fun B2 own base2 => fInt_g hg.n) fun w3 h => ?_
  refine ⟨h.is 0 rfl sc_string (o := 2) rfl, ?_⟩
  rw [strL_add (by omega)]
  refine h.ask (v := .string (ofL (encT (bl v.s)))) (fun B2 own base2 => by have := fText_g (B := B2) (s := bl v.s) (by omega); rw [← es] at this; exact this) fun w4 h => ?_
  rw [strL_add (by rw [List.length_append]; omega)]
  exact k _ _ h
theorem fRowBytes_g {u : Value} {l : List ValD} (r : rowR u l B) (hl : l.length ≤ 1000000) (hg : ∀ v ∈ l, GoodVal v ∧ (bl v.s).length ≤ 1000000) : Gives Tryz.prog B (sCall F_errataref03_RowBytes #[u]) (.string (ofL (encRow l))) := by
  refine Gives.intro fun B' w K base h k => ?_
  replace r := base r
  refine errataref03_RowBytes.up (errataref03_RowBytes.call ?_)
  unfold errataref03_RowBytes.pt
  have hall := flat_len encV1 l 1000064 fun v hv => by have := encV1_len (hg v hv).1 (hg v hv).2; omega
  have hin : inI (l.length : Int) := ⟨by omega, by omega⟩
  have en : encN (l.length : Int) = encI l.length := by unfold encN; rw [if_neg (by omega)]
  have h2 := encI_len hin
  simp -zeta only [rowR.len r sl_s_api_Value]
  refine h.ask (fun B2 own base2 => fNum_g hin) fun w1 h => ?_
  rw [en]
  unfold encRow at k
  refine LOOP_intro (fun x w' => ∃ i : Nat, i ≤ l.length ∧ x = (.string (ofL (encI l.length ++ (l.take i).flatMap encV1)), .int .i64 i, ()) ∧ Rel B' w' []) (fun x _ => l.length - (match x.2.1 with | .int _ n => n.toNat | _ => 0))
    ⟨0, Nat.zero_le _, by simp, h⟩ ?_
  clear h
  rintro x w5 ⟨i, hi, rfl, h⟩ next hnext
  simp -zeta only [bin_lss, ifB_dec]
  refine ⟨fun hlt => ?_, fun hge => ?_⟩
  · have hil : i < l.length := by omega
    obtain ⟨g, o, hx, hcl⟩ := rowR.idx r sl_s_api_Value (P := Tryz.prog) hil
    have hcl : cellsR g o l[i].cs B' := hcl
    obtain ⟨hgi, hsi⟩ := hg l[i] (List.getElem_mem hil)
    have hstep := flat_take_succ encV1 hil
    have hle := flat_take_le encV1 l (i + 1)
    rw [hstep, List.length_append] at hle
    rw [hx, cellsR.ldAg (h.hereB hcl) ag_api_Value rfl]
    refine h.ask (fun B2 own base2 => fBytes_g hgi (by omega)) fun w7 h => ?_
    rw [strL_add (by simp only [List.length_append]; omega), bin_add, wrap_id (by omega) (by omega)]
    refine hnext _ _ ⟨i + 1, hil, ?_, h⟩ (by simp only; omega)
    rw [hstep, ← List.append_assoc]
    rfl
  · have hie : i = l.length := by omega
    subst hie
    rw [List.take_length]
    exact k _ _ h
theorem fReadRow_m {t : Bs} (ht : t.length ≤ 1099511627776) : Makes Tryz.prog B (sCall F_errataref03_ReadRow #[.string (ofL t)]) fun u τ => (∃ l v, readRow t = some l ∧ u = .tuple #[v, .bool true] ∧ τ = [rowD T_api_Value v l]) ∨ (readRow t = none ∧ u = .tuple #[.slice none 0 0, .bool false] ∧ τ = []) := by
  refine Makes.intro fun B' w K base h k => ?_
  refine errataref03_ReadRow.up (errataref03_ReadRow.call ?_)
  unfold errataref03_ReadRow.pt
  refine h.make (fun B2 own base2 => fopen_m) fun u τ w1 hp h => ?_
  obtain ⟨p, rfl, rfl⟩ := hp
  have h : Rel B' w1 [rfD p ⟨t, false⟩] := h
  have hsn : Sane ⟨t, false⟩ := fun hb => by cases hb
  have l1 : (natR ⟨t, false⟩).2.rest.length ≤ t.length := (numR_le (.inl rfl : isEnd 59) 0 ⟨t, false⟩).1
  have n0 : 0 ≤ (natR ⟨t, false⟩).1 := (numR_le (.inl rfl : isEnd 59) 0 ⟨t, false⟩).2.2 (Int.le_refl 0)
  have hin := (numR_le (.inl rfl : isEnd 59) 0 ⟨t, false⟩).2.1
  have n1 : (natR ⟨t, false⟩).1 ≤ 9223372036854775807 := hin.2
  have hs1 : Sane (natR ⟨t, false⟩).2 := natR_sane hsn
  have no : readRow t = none → ∀ w' τ, Rel B' w' τ → K (.tuple #[.slice none 0 0, .bool false]) w' := fun hn w' τ h => k _ _ _ (.inr ⟨hn, rfl, rfl⟩) h.nil
  have yes : ∀ l v, readRow t = some l → ∀ w', Rel B' w' [rowD T_api_Value v l] → K (.tuple #[v, .bool true]) w' := fun l v h1 w' h => k _ _ _ (.inl ⟨l, v, h1, rfl, rfl⟩) h
  have hlen : readRow t = none ∨ (natR ⟨t, false⟩).1 ≤ t.length := by
    cases hr : readRow t with
    | none => exact .inl rfl
    | some l => have := readRow_len hr; exact .inr (by omega)
  clear k hin
  unfold readRow at no yes hlen
  simp only at no yes hlen
  refine h.rf_ 0 rfl (fun B2 own base2 => fNumR_d (by show t.length ≤ _; omega)) fun w2 h => ?_
  generalize natR ⟨t, false⟩ = n at *
  obtain ⟨n, r1⟩ := n
  simp only at l1 n0 n1 hs1 no yes hlen
  obtain ⟨m, rfl⟩ : ∃ m : Nat, n = m := ⟨n.toNat, by omega⟩
  rw [Int.toNat_natCast] at no yes hlen
  have h : Rel B' w2 [rfD p r1] := h
  have h := h.addNil ValD T_api_Value
  refine LETJ_intro fun J1 hJ1 => ?_
  replace hJ1 : ∀ (i : Nat) (v : Value) (w' : World), i ≤ m → (i = m ∨ t.length ≤ i) → i ≤ t.length → Rel B' w' [rfD p (timesR valR i [] r1).2, rowD T_api_Value v (timesR valR i [] r1).1] → J1 (v, ()) w' := fun i v w' him hie hit h => by
    refine hJ1 _ _ ?_
    have hli := timesR_len valR i [] r1
    rw [List.length_nil, Nat.zero_add] at hli
    refine h.ask (fun B2 own base2 => fDone_g (own (i := 0) rfl)) fun w4 h => ?_
    rw [un_not, ifB_not, ifB_bool]
    have hno : ¬ i = m → ∀ w' τ, Rel B' w' τ → K (.tuple #[.slice none 0 0, .bool false]) w' := fun hne => no (by
      rcases hlen with hl | hl
      · exact hl
      · omega)
    refine ⟨fun cd => ?_, fun cd => ?_⟩
    · rw [rowR.len (rowD.read (h.here (i := 1) rfl)) sl_s_api_Value, hli, bin_neq, ifB_not, ifB_dec]
      refine ⟨fun e => ?_, fun hne => hno (fun hh => hne (by rw [hh])) _ _ h⟩
      have e2 : m = i := by omega
      subst e2
      exact yes _ v (if_pos cd) _ (h.pick [1] (by decide))
    · by_cases e : i = m
      · have e2 : m = i := e.symm
        subst e2
        exact no (if_neg (by rw [cd]; decide)) _ _ h
      · exact hno e _ _ h
  refine LOOP_intro (fun x w' => ∃ (i : Nat) (v : Value), i ≤ m ∧ i ≤ t.length ∧ x = (v, .int .i64 i, ()) ∧ Sane (timesR valR i [] r1).2 ∧ (timesR valR i [] r1).2.rest.length ≤ t.length ∧
      Rel B' w' [rfD p (timesR valR i [] r1).2, rowD T_api_Value v (timesR valR i [] r1).1]) (fun x _ => m - (match x.2.1 with | .int _ n => n.toNat | _ => 0))
    ⟨0, .slice none 0 0, Nat.zero_le _, Nat.zero_le _, rfl, hs1, l1, h⟩ ?_
  clear h
  rintro x w3 ⟨i, v, him, hit, rfl, hsa, hle, h⟩ next hnext
  simp -zeta only [str_len U_string, bl_ofL, bin_lss, ifB_dec]
  refine ⟨fun c1 => ⟨fun c2 => ?_, fun c2 => hJ1 i v _ him (.inr (by omega)) hit h⟩, fun c1 => hJ1 i v _ him (.inl (by omega)) hit h⟩
  have hli := timesR_len valR i [] r1
  rw [List.length_nil, Nat.zero_add] at hli
  have hsn1 := timesR_snoc valR i [] r1
  generalize timesR valR i [] r1 = q at *
  obtain ⟨acc, s'⟩ := q
  simp only at hsa hle h hli hsn1
  rw [bd_api_Value_]
  refine h.allocAg (ds := vZero.cs.toArray) z_api_Value rfl ag_api_Value rfl (fun v hv => Enc.one vZero v hv) fun a w4 h => ?_
  have l2 := intR_le s'
  have l3 := intR_le (intR s').2
  refine h.rf_ 0 rfl (fun B2 own base2 => fIntR_d (by omega)) fun w5 h => ?_
  simp -zeta only [field_addr f_api_Value_0, field_addr f_api_Value_1, field_addr f_api_Value_2, Nat.add_zero, Nat.zero_add]
  refine h.st 2 rfl sc_int (show 0 < 3 by omega) rfl fun w6 h => ?_
  refine h.rf_ 0 rfl (fun B2 own base2 => fIntR_d (by omega)) fun w7 h => ?_
  refine h.st 2 rfl sc_int (show 1 < 3 by omega) rfl fun w8 h => ?_
  refine h.rf_ 0 rfl (fun B2 own base2 => fTextR_d (intR_sane (intR_sane hsa)) (by omega)) fun w9 h => ?_
  refine h.st 2 rfl sc_string (show 2 < 3 by omega) rfl fun w10 h => ?_
  have h : Rel B' w10 [rfD p (valR s').2, rowD T_api_Value v acc, cellD a T_api_Value (valR s').1.cs.toArray] := h
  rw [h.ldAg 2 rfl ag_api_Value rfl]
  refine h.push1 (α := ValD) 1 rfl (valR s').1 sl_s_api_Value (by decide) (by omega) (by omega) fun v2 w7 h => ?_
  rw [bin_add, wrap_id (by omega) (by omega)]
  have hv := valR_le s'
  refine hnext _ _ ⟨i + 1, v2, by omega, by omega, rfl, ?_, ?_, ?_⟩ (by simp only; omega)
  · rw [hsn1]; exact valR_sane hsa
  · rw [hsn1]; exact Nat.le_trans hv.1 hle
  · rw [hsn1]; exact h.take 2
end
end Go.Proofs.YtmllhipiahlihaaGreatDoor
