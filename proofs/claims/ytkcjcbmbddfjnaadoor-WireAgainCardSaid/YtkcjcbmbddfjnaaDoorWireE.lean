/-
  Chapter 01's values: kinds, writing, comparing with what is read; the bounds; the examples. No condition.
-/
import Derived.Test.YtkcjcbmbddfjnaaDoorWireD
namespace Go.Proofs.YtkcjcbmbddfjnaaDoor
open Go.RowKit
set_option maxRecDepth 100000

abbrev VD := D_erratalaw01_Value
structure Vv where
  kind : Int
  n : Int
  s : ByteArray
  l : List Int
  t : List ByteArray
  lv : SV
  tv : SV
abbrev Vv.raw (x : Vv) : VD := ⟨x.kind, x.n, x.s, x.lv, x.tv⟩
def vIn (x : Vv) : Dat := (rowR x.lv.1 x.l).and (rowR x.tv.1 x.t)
structure GoodV (x : Vv) : Prop where
  n : inI x.n
  l : ∀ y ∈ x.l, inI y
structure FewV (x : Vv) : Prop where
  s : x.s.size ≤ 400
  l : x.l.length ≤ 400
  t : x.t.length ≤ 400
  each : ∀ y ∈ x.t, y.size ≤ 400
def kindZ (k : Int) : Int := if k.tmod 5 < 0 then k.tmod 5 + 5 else k.tmod 5
theorem kindZ_range (k : Int) : 0 ≤ kindZ k ∧ kindZ k ≤ 4 := by
  unfold kindZ
  have h1 := Int.tmod_lt_of_pos k (show (0 : Int) < 5 by decide)
  have h2 : -5 < k.tmod 5 := by
    have := Int.lt_tmod_of_pos k (show (0 : Int) < 5 by decide)
    omega
  split <;> omega
def numZ (n : Int) : Int := if n < 0 then -(n + 1) else n
theorem numZ_in {n : Int} (h : inI n) : 0 ≤ numZ n ∧ inI (numZ n) := by
  have h1 := h.1
  have h2 := h.2
  unfold numZ
  split
  · exact ⟨by omega, by omega, by omega⟩
  · exact ⟨by omega, by omega, by omega⟩
def encV (x : Vv) : Bs := if kindZ x.kind = 0 then encI (numZ x.n) else if kindZ x.kind = 1 then encI x.n else if kindZ x.kind = 2 then encT (bl x.s) else if kindZ x.kind = 3 then encL encI x.l else encL encT (x.t.map bl)
noncomputable def equalS (s : RS) (x : Vv) : Bool × RS :=
  if kindZ x.kind = 0 then (decide ((natR s).1 = numZ x.n), (natR s).2) else if kindZ x.kind = 1 then (decide ((intR s).1 = x.n), (intR s).2) else if kindZ x.kind = 2 then (decide ((textR s).1 = bl x.s), (textR s).2)
  else if kindZ x.kind = 3 then (decide ((intsR s).1 = x.l), (intsR s).2) else (decide ((textsR s).1 = x.t.map bl), (textsR s).2)
theorem encTs_len {t : List ByteArray} (h1 : t.length ≤ 400) (h2 : ∀ y ∈ t, y.size ≤ 400) : (encL encT (t.map bl)).length ≤ 170000 := by
  have h3 := (encL_len encT (t.map bl) (by rw [List.length_map]; omega)).2
  have h4 := flat_len encT (t.map bl) 422 fun x hx => by
    obtain ⟨y, hy, rfl⟩ := List.mem_map.1 hx
    have := encT_len (bl y) (by rw [bl_length]; have := h2 y hy; omega)
    rw [bl_length] at this
    have := h2 y hy
    omega
  rw [List.length_map] at h4
  omega
theorem encV_len {x : Vv} (hg : GoodV x) (hf : FewV x) : (encV x).length ≤ 170000 := by
  unfold encV
  have h1 := encI_len (numZ_in hg.n).2
  have h2 := encI_len hg.n
  have h3 := encT_len (bl x.s) (by rw [bl_length]; have := hf.s; omega)
  rw [bl_length] at h3
  have h4 := encTs_len hf.t hf.each
  have h5 := (encL_len encI x.l (by have := hf.l; omega)).2
  have h6 := flat_len encI x.l 21 fun y hy => encI_len (hg.l y hy)
  have h7 := hf.s
  have h8 := hf.l
  split
  · omega
  · split
    · omega
    · split
      · omega
      · split <;> omega
/-- What was written is read back. -/
theorem equalS_enc {x : Vv} (hg : GoodV x) (hf : FewV x) (r : Bs) : equalS ⟨encV x ++ r, false⟩ x = (true, ⟨r, false⟩) := by
  unfold equalS encV
  by_cases c0 : kindZ x.kind = 0
  · obtain ⟨h0, h1⟩ := numZ_in hg.n
    rw [if_pos c0, if_pos c0, natR_enc h0 h1]
    simp
  rw [if_neg c0, if_neg c0]
  by_cases c1 : kindZ x.kind = 1
  · rw [if_pos c1, if_pos c1, intR_enc hg.n]
    simp
  rw [if_neg c1, if_neg c1]
  by_cases c2 : kindZ x.kind = 2
  · rw [if_pos c2, if_pos c2, textR_enc (by rw [bl_length]; have := hf.s; omega)]
    simp
  rw [if_neg c2, if_neg c2]
  by_cases c3 : kindZ x.kind = 3
  · rw [if_pos c3, if_pos c3, intsR_enc (by have := hf.l; omega) hg.l]
    simp
  rw [if_neg c3, if_neg c3, textsR_enc (by rw [List.length_map]; have := hf.t; omega) fun y hy => by
    obtain ⟨z, hz, rfl⟩ := List.mem_map.1 hy
    have := hf.each z hz
    rw [bl_length]; omega]
  simp

section
variable {B : Base} {w : World} {σ : List Dat} {p : Nat} {s : RS}
theorem kind_g (x : VD) : Gives Tryd.prog B (sCall F_erratalaw01_kind #[x.v]) (.int .i64 (kindZ x.kind)) := by
  refine Gives.intro fun B' w K base h k => ?_
  refine erratalaw01_kind.up (erratalaw01_kind.call ?_)
  unfold erratalaw01_kind.pt
  refine h.box fun b w1 h => ?_
  have h : Rel B' w1 [cellD b T_erratalaw01_Value x.cs.toArray] := h
  simp -zeta only [field_addr f_erratalaw01_Value_0, Nat.add_zero, h.ld 0 rfl sc_int (o := 0) rfl, bin_rem (show (5 : Int) ≠ 0 by decide)]
  have hr := kindZ_range x.kind
  unfold kindZ at k hr
  have h1 := Int.tmod_lt_of_pos x.kind (show (0 : Int) < 5 by decide)
  refine LETJ_intro fun J hJ => ?_
  simp -zeta only [bin_lss, ifB_dec]
  refine ⟨fun c => ?_, fun c => ?_⟩
  · rw [if_pos c] at k hr
    rw [bin_add, wrap_id (by omega) (by omega)]
    exact hJ _ _ (k _ _ h)
  · rw [if_neg c] at k
    exact hJ _ _ (k _ _ h)
theorem number_g {n : Int} (hn : inI n) : Gives Tryd.prog B (sCall F_erratalaw01_number #[.int .i64 n]) (.int .i64 (numZ n)) := by
  refine Gives.intro fun B' w K base h k => ?_
  refine erratalaw01_number.up (erratalaw01_number.call ?_)
  unfold erratalaw01_number.pt
  have h1 := hn.1
  have h2 := hn.2
  unfold numZ at k
  simp -zeta only [bin_lss, ifB_dec]
  refine ⟨fun c => ?_, fun c => ?_⟩
  · rw [if_pos c] at k
    rw [bin_add, wrap_id (by omega) (by omega), un_neg, wrap_id (by omega) (by omega), show (0 : Int) - (n + 1) = -(n + 1) by omega]
    exact k _ _ h
  · rw [if_neg c] at k
    exact k _ _ h
theorem SameNums_g {a b : Value} {l m : List Int} (ra : rowR a l B) (rb : rowR b m B) (hl : l.length ≤ 4611686018427387904) : Gives Tryd.prog B (sCall F_errataref01_SameNums #[a, b]) (.bool (decide (l = m))) := by
  refine Gives.intro fun B' w K base h k => ?_
  replace ra := base ra
  replace rb := base rb
  refine errataref01_SameNums.up (errataref01_SameNums.call ?_)
  unfold errataref01_SameNums.pt
  have no : ∀ w' τ, Rel B' w' τ → l ≠ m → K (.bool false) w' := fun w' τ h hn => by rw [decide_eq_false hn] at k; exact k _ _ h
  simp -zeta only [rowR.len ra sl_s_int, rowR.len rb sl_s_int, bin_neq, ifB_not, ifB_dec]
  refine ⟨fun he => ?_, fun hne => no _ _ h fun hh => hne (by rw [hh])⟩
  refine LOOP_intro (fun x w' => ∃ i : Nat, i ≤ l.length ∧ x = (.int .i64 i, ()) ∧ (∀ j (h1 : j < l.length) (h2 : j < m.length), j < i → l[j] = m[j]) ∧ Rel B' w' []) (fun x _ => l.length - (match x.1 with | .int _ n => n.toNat | _ => 0))
    ⟨0, Nat.zero_le _, rfl, fun j _ _ hj => absurd hj (Nat.not_lt_zero j), h⟩ ?_
  clear h
  rintro x w1 ⟨i, hi, rfl, hin, h⟩ next hnext
  simp -zeta only [bin_lss, ifB_dec]
  refine ⟨fun hlt => ?_, fun hge => ?_⟩
  · have hil : i < l.length := by omega
    have him : i < m.length := by omega
    have h := h.tick
    obtain ⟨q, q1, q2⟩ := rowR.at_sc ra h sl_s_int hil sc_int (x := .int .i64 l[i]) rfl
    obtain ⟨q', q3, q4⟩ := rowR.at_sc rb h sl_s_int him sc_int (x := .int .i64 m[i]) rfl
    simp -zeta only [q1, q2, q3, q4, bin_neq, ifB_not, ifB_dec]
    refine ⟨fun c => ?_, fun c => no _ _ h fun hh => c (by simp only [hh])⟩
    rw [bin_add, wrap_id (by omega) (by omega)]
    refine hnext _ _ ⟨i + 1, hil, rfl, fun j h1 h2 hj => ?_, h⟩ (by simp only; omega)
    by_cases e : j = i
    · subst e; exact c
    · exact hin j h1 h2 (by omega)
  · have : l = m := List.ext_getElem (by omega) fun j h1 h2 => hin j h1 h2 (by omega)
    rw [decide_eq_true this] at k
    exact k _ _ h
theorem SameTexts_g {a b : Value} {l m : List ByteArray} (ra : rowR a l B) (rb : rowR b m B) (hl : l.length ≤ 4611686018427387904) : Gives Tryd.prog B (sCall F_errataref01_SameTexts #[a, b]) (.bool (decide (l = m))) := by
  refine Gives.intro fun B' w K base h k => ?_
  replace ra := base ra
  replace rb := base rb
  refine errataref01_SameTexts.up (errataref01_SameTexts.call ?_)
  unfold errataref01_SameTexts.pt
  have no : ∀ w' τ, Rel B' w' τ → l ≠ m → K (.bool false) w' := fun w' τ h hn => by rw [decide_eq_false hn] at k; exact k _ _ h
  simp -zeta only [rowR.len ra sl_s_string, rowR.len rb sl_s_string, bin_neq, ifB_not, ifB_dec]
  refine ⟨fun he => ?_, fun hne => no _ _ h fun hh => hne (by rw [hh])⟩
  refine LOOP_intro (fun x w' => ∃ i : Nat, i ≤ l.length ∧ x = (.int .i64 i, ()) ∧ (∀ j (h1 : j < l.length) (h2 : j < m.length), j < i → l[j] = m[j]) ∧ Rel B' w' []) (fun x _ => l.length - (match x.1 with | .int _ n => n.toNat | _ => 0))
    ⟨0, Nat.zero_le _, rfl, fun j _ _ hj => absurd hj (Nat.not_lt_zero j), h⟩ ?_
  clear h
  rintro x w1 ⟨i, hi, rfl, hin, h⟩ next hnext
  simp -zeta only [bin_lss, ifB_dec]
  refine ⟨fun hlt => ?_, fun hge => ?_⟩
  · have hil : i < l.length := by omega
    have him : i < m.length := by omega
    have h := h.tick
    obtain ⟨q, q1, q2⟩ := rowR.at_sc ra h sl_s_string hil sc_string (x := .string l[i]) rfl
    obtain ⟨q', q3, q4⟩ := rowR.at_sc rb h sl_s_string him sc_string (x := .string m[i]) rfl
    simp -zeta only [q1, q2, q3, q4, neq_str, ifB_not, ifB_dec]
    refine ⟨fun c => ?_, fun c => no _ _ h fun hh => c (by simp only [hh])⟩
    rw [bin_add, wrap_id (by omega) (by omega)]
    refine hnext _ _ ⟨i + 1, hil, rfl, fun j h1 h2 hj => ?_, h⟩ (by simp only; omega)
    by_cases e : j = i
    · subst e; exact c
    · exact hin j h1 h2 (by omega)
  · have : l = m := List.ext_getElem (by omega) fun j h1 h2 => hin j h1 h2 (by omega)
    rw [decide_eq_true this] at k
    exact k _ _ h
theorem write_g (hB : wireD B) {x : Vv} (hx : vIn x B) (hg : GoodV x) (hf : FewV x) : Gives Tryd.prog B (sCall F_erratalaw01_write #[x.raw.v]) (.string (ofL (encV x))) := by
  refine Gives.intro fun B' w K base h k => ?_
  replace hB := base hB
  obtain ⟨rl, rt⟩ : rowR x.lv.1 x.l B' ∧ rowR x.tv.1 x.t B' := base hx
  refine erratalaw01_write.up (erratalaw01_write.call ?_)
  unfold erratalaw01_write.pt
  refine h.box fun b w1 h => ?_
  have h : Rel B' w1 [cellD b T_erratalaw01_Value x.raw.cs.toArray] := h
  rw [h.ldAg 0 rfl ag_erratalaw01_Value rfl]
  refine h.ask (fun B2 own base2 => kind_g x.raw) fun w2 h => ?_
  unfold encV at k
  simp -zeta only [bin_eql, ifB_dec, field_addr f_erratalaw01_Value_1, field_addr f_erratalaw01_Value_2, field_addr f_erratalaw01_Value_3, field_addr f_erratalaw01_Value_4, Nat.zero_add, h.ld 0 rfl sc_int (o := 1) rfl, h.ld 0 rfl sc_string (o := 2) rfl, h.ld 0 rfl sc_s_int (o := 3) rfl, h.ld 0 rfl sc_s_string (o := 4) rfl]
  refine ⟨fun c0 => ?_, fun c0 => ?_⟩
  · rw [if_pos c0] at k
    refine h.ask (fun B2 own base2 => number_g hg.n) fun w3 h => ?_
    obtain ⟨h0, h1⟩ := numZ_in hg.n
    refine h.ask (fun B2 own base2 => wNum_g (base2 hB) h1) fun w4 h => ?_
    rw [show encN (numZ x.n) = encI (numZ x.n) by unfold encN; rw [if_neg (by omega)]]
    exact k _ _ h
  rw [if_neg c0] at k
  refine ⟨fun c1 => ?_, fun c1 => ?_⟩
  · rw [if_pos c1] at k
    exact h.ask (fun B2 own base2 => wInt_g (base2 hB) hg.n) fun w4 h => k _ _ h
  rw [if_neg c1] at k
  refine ⟨fun c2 => ?_, fun c2 => ?_⟩
  · rw [if_pos c2] at k
    have e : x.s = ofL (bl x.s) := (ofL_bl x.s).symm
    rw [e]
    exact h.ask (fun B2 own base2 => wText_g (base2 hB) (by rw [bl_length]; have := hf.s; omega)) fun w4 h => k _ _ h
  rw [if_neg c2] at k
  refine ⟨fun c3 => ?_, fun c3 => ?_⟩
  · rw [if_pos c3] at k
    exact h.ask (fun B2 own base2 => wNums_g (base2 hB) (base2 rl) hg.l (by have := hf.l; omega)) fun w4 h => k _ _ h
  rw [if_neg c3] at k
  exact h.ask (fun B2 own base2 => wTexts_g (base2 hB) (base2 rt) (by have := encTs_len hf.t hf.each; omega)) fun w4 h => k _ _ h
theorem equal_d (hB : wireD B) {x : Vv} (hx : vIn x B) (hg : GoodV x) (hs : s.rest.length ≤ 1099511627776) : Does Tryd.prog B (rdD p s) (sCall F_erratalaw01_equal #[ptr1 p, x.raw.v]) (rdPost p (.bool (equalS s x).1) (equalS s x).2) := by
  refine Does.rd fun B' w K base h k => ?_
  replace hB := base hB
  obtain ⟨rl, rt⟩ : rowR x.lv.1 x.l B' ∧ rowR x.tv.1 x.t B' := base hx
  refine erratalaw01_equal.up (erratalaw01_equal.call ?_)
  unfold erratalaw01_equal.pt
  refine h.box fun b w1 h => ?_
  have h : Rel B' w1 [rdD p s, cellD b T_erratalaw01_Value x.raw.cs.toArray] := h
  rw [h.ldAg 1 rfl ag_erratalaw01_Value rfl]
  refine h.ask (fun B2 own base2 => kind_g x.raw) fun w2 h => ?_
  have h := h.tick
  unfold equalS at k
  simp -zeta only [bin_eql, ifB_dec, field_addr f_erratalaw01_Value_1, field_addr f_erratalaw01_Value_2, field_addr f_erratalaw01_Value_3, field_addr f_erratalaw01_Value_4, Nat.zero_add, h.ld 1 rfl sc_int (o := 1) rfl, h.ld 1 rfl sc_string (o := 2) rfl, h.ld 1 rfl sc_s_int (o := 3) rfl, h.ld 1 rfl sc_s_string (o := 4) rfl]
  refine ⟨fun c0 => ?_, fun c0 => ?_⟩
  · rw [if_pos c0] at k
    refine h.rd_ 0 rfl (fun B2 own base2 => rNum_d (base2 hB) (by omega)) fun w3 h => ?_
    have h : Rel B' w3 [rdD p (natR s).2, cellD b T_erratalaw01_Value x.raw.cs.toArray] := h
    refine ⟨h.is 1 rfl sc_int (o := 1) rfl, ?_⟩
    refine h.ask (fun B2 own base2 => number_g hg.n) fun w4 h => ?_
    rw [bin_eql]
    exact k _ _ h
  rw [if_neg c0] at k
  refine ⟨fun c1 => ?_, fun c1 => ?_⟩
  · rw [if_pos c1] at k
    refine h.rd_ 0 rfl (fun B2 own base2 => rInt_d (base2 hB) (by omega)) fun w3 h => ?_
    have h : Rel B' w3 [rdD p (intR s).2, cellD b T_erratalaw01_Value x.raw.cs.toArray] := h
    exact ⟨h.is 1 rfl sc_int (o := 1) rfl, by rw [bin_eql]; exact k _ _ h⟩
  rw [if_neg c1] at k
  refine ⟨fun c2 => ?_, fun c2 => ?_⟩
  · rw [if_pos c2] at k
    refine h.rd_ 0 rfl (fun B2 own base2 => rText_d (base2 hB) (by omega)) fun w3 h => ?_
    have h : Rel B' w3 [rdD p (textR s).2, cellD b T_erratalaw01_Value x.raw.cs.toArray] := h
    refine ⟨h.is 1 rfl sc_string (o := 2) rfl, ?_⟩
    have e : x.s = ofL (bl x.s) := (ofL_bl x.s).symm
    rw [e, eql_ofL]
    exact k _ _ h
  rw [if_neg c2] at k
  refine ⟨fun c3 => ?_, fun c3 => ?_⟩
  · rw [if_pos c3] at k
    refine h.act 0 rfl (fun B2 own base2 => rNums_d (base2 hB) hs) fun u e' τ w3 hp h => ?_
    obtain ⟨rfl, rfl⟩ := hp
    have h : Rel B' w3 [rdD p (intsR s).2, cellD b T_erratalaw01_Value x.raw.cs.toArray, rowD T_int u (intsR s).1] := h
    refine ⟨h.is 1 rfl sc_s_int (o := 3) rfl, ?_⟩
    refine h.ask (fun B2 own base2 => SameNums_g (rowD.read (own (i := 2) rfl)) (base2 rl) (itemsR_le intR_ok encI_pos s hs)) fun w4 h => ?_
    exact k _ _ h
  rw [if_neg c3] at k
  refine h.act 0 rfl (fun B2 own base2 => rTexts_d (base2 hB) hs) fun u e' τ w3 hp h => ?_
  obtain ⟨rfl, rfl⟩ := hp
  have h : Rel B' w3 [rdD p (textsR s).2, cellD b T_erratalaw01_Value x.raw.cs.toArray, rowD T_string u ((textsR s).1.map ofL)] := h
  refine ⟨h.is 1 rfl sc_s_string (o := 4) rfl, ?_⟩
  refine h.ask (fun B2 own base2 => SameTexts_g (rowD.read (own (i := 2) rfl)) (base2 rt) (by rw [List.length_map]; exact itemsR_le textR_ok encT_pos s hs)) fun w4 h => ?_
  have e : decide ((textsR s).1.map ofL = x.t) = decide ((textsR s).1 = x.t.map bl) := decide_eq_decide.2 ⟨fun hh => by rw [← hh, List.map_map]; exact (List.map_id _).symm, fun hh => by
    rw [hh, List.map_map]
    have : (ofL ∘ bl) = id := funext fun z => ofL_bl z
    rw [this, List.map_id]⟩
  rw [e]
  exact k _ _ h
end
end Go.Proofs.YtkcjcbmbddfjnaaDoor
