/-
  Store.Bytes and Read. No condition.
-/
import Derived.Test.YtmllhipiahlihaaGreatDoorRetainP
import Derived.Test.YtmllhipiahlihaaGreatDoorValV
namespace Go.Proofs.YtmllhipiahlihaaGreatDoor
open Go.RowKit
set_option maxRecDepth 100000

section
variable {P : Program} {Kp : Value → Prop} {B : Base} {w : World} {σ : List Dat} {b : Nat} {s : St} {T : TypeId}
theorem store_ld0 (h : Rel B w σ) (i : Nat) (hi : σ[i]? = some (storeD b s)) (hs : scB P T = true) : readK P (sLoad T (.pointer (some ⟨b, 0, none⟩))) w Kp = Kp (.int .i64 s.part) := by
  obtain ⟨v, L, _, _, h3, _⟩ := storeD.read (h.here hi)
  exact cellD.ld h3 hs rfl
theorem store_is0 (h : Rel B w σ) (i : Nat) (hi : σ[i]? = some (storeD b s)) (hs : scB P T = true) : Is P (sLoad T (.pointer (some ⟨b, 0, none⟩))) (.int .i64 s.part) w := by
  obtain ⟨v, L, _, _, h3, _⟩ := storeD.read (h.here hi)
  exact cellD.is h3 hs rfl
theorem okS_right {s : St} (h : RightS s) : okS s := by
  have h1 := h.first
  refine ⟨h1.1, by omega, h.count, fun e he => ?_⟩
  have g := h.good e he
  have := g.len.1
  have := g.tm
  exact ⟨by omega, by omega, by omega⟩
end
section
variable {B : Base} {w : World} {σ : List Dat}
theorem stBytes_g {b : Nat} {s : St} (hB : wireD B) (hs : storeR b s B) (hR : RightS s) : Gives Tryz.prog B (sCall F_retain_Store_Bytes #[ptr b]) (.string (ofL (encSt s))) := by
  refine Gives.introB fun B' w K base h start k => ?_
  replace hB := base hB
  obtain ⟨v, L, he, ho, hc, r, q⟩ := hs
  replace hc := base hc
  replace r := base r
  replace q : rowsR L B' := base q
  refine retain_Store_Bytes.up (retain_Store_Bytes.call ?_)
  unfold retain_Store_Bytes.pt
  have hlen : (raws L).length = s.events.length := raws_len he
  have hcount := hR.count
  have hfi := hR.first
  have hho := hR.horz
  have hall := flat_len evB s.events 5000 fun e hx => evB_len (hR.good e hx)
  refine h.alloc z_strings_Builder fun bb w1 h => ?_
  have h := start w1 bb h
  have h := h.tick
  have hin : inI (s.events.length : Int) := ⟨by omega, by omega⟩
  have f1 : inI s.first := ⟨by omega, by omega⟩
  have f2 : inI s.horizon := ⟨by omega, by omega⟩
  have l1 := encI_len hR.part
  have l2 := encI_len f1
  have l3 := encI_len f2
  have l4 := encI_len hin
  have en : encN (s.events.length : Int) = encI s.events.length := by unfold encN; rw [if_neg (by omega)]
  have ld : ∀ {w : World} {σ : List Dat} {o : Nat} {T : TypeId} {x : Value} {Kp : Value → Prop}, Rel B' w σ → scB Tryz.prog T = true → (#[Value.int .i64 s.part, .int .i64 s.first, .int .i64 s.horizon, v.1] : Array Value).toList[o]? = some x → readK Tryz.prog (sLoad T (.pointer (some ⟨b, o, none⟩))) w Kp = Kp x := fun h ht hx => cellD.ld (h.hereB hc) ht hx
  have is : ∀ {w : World} {σ : List Dat} {o : Nat} {T : TypeId} {x : Value}, Rel B' w σ → scB Tryz.prog T = true → (#[Value.int .i64 s.part, .int .i64 s.first, .int .i64 s.horizon, v.1] : Array Value).toList[o]? = some x → Is Tryz.prog (sLoad T (.pointer (some ⟨b, o, none⟩))) x w := fun h ht hx => cellD.is (h.hereB hc) ht hx
  have lenIs : ∀ {w : World} {σ : List Dat}, Rel B' w σ → Is Tryz.prog (sBlt .len #[T_s_api_Event] T_int #[false] #[v.1]) (.int .i64 s.events.length) w := fun _ => is_of fun {K} => by rw [rowR.len r sl_s_api_Event, hlen]
  simp -zeta only [nil_ptr, field_addr f_retain_Store_0, field_addr f_retain_Store_1, field_addr f_retain_Store_2, field_addr f_retain_Store_3, Nat.add_zero, Nat.zero_add]
  rw [ld h sc_int (o := 0) rfl, ld h sc_int (o := 1) rfl, ld h sc_int (o := 2) rfl, ld h sc_s_api_Event (o := 3) rfl, rowR.len r sl_s_api_Event, hlen]
  refine h.ask (fun B2 own base2 => wInt_g (base2 hB) hR.part) fun w2 h => ?_
  refine ⟨lenIs h, is h sc_s_api_Event (o := 3) rfl, is h sc_int (o := 2) rfl, is h sc_int (o := 1) rfl, ?_⟩
  refine h.ask (fun B2 own base2 => wInt_g (base2 hB) f1) fun w3 h => ?_
  refine ⟨lenIs h, is h sc_s_api_Event (o := 3) rfl, is h sc_int (o := 2) rfl, ?_⟩
  rw [strL_add (by omega)]
  refine h.ask (fun B2 own base2 => wInt_g (base2 hB) f2) fun w4 h => ?_
  refine ⟨lenIs h, is h sc_s_api_Event (o := 3) rfl, ?_⟩
  rw [strL_add (by simp only [List.length_append]; omega)]
  refine h.ask (fun B2 own base2 => wNum_g (base2 hB) hin) fun w5 h => ?_
  rw [en, strL_add (by simp only [List.length_append]; omega)]
  refine h.bldWrite (Nat.le_refl _) (by rw [ofL_size]; simp only [List.length_append, List.length_nil]; omega) fun _ w6 h => ?_
  rw [bl_ofL, List.nil_append] at h
  rw [ld h sc_s_api_Event (o := 3) rfl, rowR.len r sl_s_api_Event, hlen]
  unfold encSt at k
  generalize hhd : (((encI s.part ++ encI s.first) ++ encI s.horizon) ++ encI s.events.length) = hd at *
  have hhl : hd.length ≤ 84 := by rw [← hhd]; simp only [List.length_append]; omega
  refine LOOP_intro (fun x w' => ∃ i : Nat, i ≤ s.events.length ∧ x = (.int .i64 i, ()) ∧ Rel B' w' [bldD B'.W.heap.size bb (hd ++ (s.events.take i).flatMap evB)]) (fun x _ => s.events.length - (match x.1 with | .int _ n => n.toNat | _ => 0))
    ⟨0, Nat.zero_le _, rfl, by simpa using h⟩ ?_
  clear h
  rintro x w7 ⟨i, hi, rfl, h⟩ next hnext
  simp -zeta only [bin_lss, ifB_dec]
  refine ⟨fun hlt => ?_, fun hge => ?_⟩
  · have hil : i < s.events.length := by omega
    have hiL : i < L.length := by rw [← he, evs, List.length_map] at hil; exact hil
    obtain ⟨g, o, hx, hcl⟩ := rowR.idx r sl_s_api_Event (P := Tryz.prog) (i := i) (by rw [hlen]; exact hil)
    have hev : s.events[i] = L[i].1 := by
      have : s.events[i]? = (evs L)[i]? := by rw [he]
      rw [List.getElem?_eq_getElem hil, evs, List.getElem?_map, List.getElem?_eq_getElem hiL] at this
      injection this
    have hraw : (raws L)[i]'(by rw [hlen]; exact hil) = L[i].1.raw L[i].2 := by simp [raws]
    rw [hraw] at hcl
    have hcl : cellsR g o (L[i].1.raw L[i].2).cs B' := hcl
    have hq : rowR L[i].2.1 L[i].1.row B' := q _ (List.getElem_mem hiL)
    have hgd := hR.good s.events[i] (List.getElem_mem hil)
    rw [hev] at hgd
    have hstep := flat_take_succ evB hil
    have hle := flat_take_le evB s.events (i + 1)
    rw [hstep, List.length_append, hev] at hle
    rw [hev] at hstep
    generalize L[i].1 = e at *
    generalize L[i].2 = ev at *
    have hsrc := hgd.src
    have hrl := encRow_len hgd.len.1 hgd.len.2 hgd.vals
    have a1 := encT_len (bl e.source) (by omega)
    have a2 := encI_len hgd.schema
    have a3 := encI_len hgd.time
    have a4 := encT_len (encRow e.row) (by omega)
    rw [hx, cellsR.ldAg (h.hereB hcl) ag_api_Event rfl]
    refine h.allocAg (ds := (e.raw ev).cs.toArray) z_api_Event rfl ag_api_Event rfl (fun v hv => Enc.one (e.raw ev) v hv) fun a w9 h => ?_
    have h : Rel B' w9 [bldD B'.W.heap.size bb (hd ++ (s.events.take i).flatMap evB), cellD a T_api_Event (e.raw ev).cs.toArray] := h
    have h := h.tick
    simp -zeta only [field_addr f_api_Event_2, field_addr f_api_Event_3, field_addr f_api_Event_4, field_addr f_api_Event_5, Nat.add_zero, Nat.zero_add]
    rw [h.ld 1 rfl sc_string (o := 2) (v := .string e.source) rfl, h.ld 1 rfl sc_int (o := 3) (v := .int .i64 e.schema) rfl, h.ld 1 rfl sc_int (o := 4) (v := .int .i64 e.time) rfl, h.ld 1 rfl sc_s_api_Value (o := 5) (v := ev.1) rfl]
    have es : e.source = ofL (bl e.source) := (ofL_bl e.source).symm
    refine h.ask (v := .string (ofL (encT (bl e.source)))) (fun B2 own base2 => by have := wText_g (B := B2) (base2 hB) (s := bl e.source) (by omega); rw [← es] at this; exact this) fun w10 h => ?_
    refine ⟨h.is 1 rfl sc_s_api_Value (o := 5) rfl, h.is 1 rfl sc_int (o := 4) rfl, h.is 1 rfl sc_int (o := 3) rfl, ?_⟩
    refine h.ask (fun B2 own base2 => wInt_g (base2 hB) hgd.schema) fun w11 h => ?_
    refine ⟨h.is 1 rfl sc_s_api_Value (o := 5) rfl, h.is 1 rfl sc_int (o := 4) rfl, ?_⟩
    rw [strL_add (by omega)]
    refine h.ask (fun B2 own base2 => wInt_g (base2 hB) hgd.time) fun w12 h => ?_
    refine ⟨h.is 1 rfl sc_s_api_Value (o := 5) rfl, ?_⟩
    rw [strL_add (by simp only [List.length_append]; omega)]
    refine h.ask (fun B2 own base2 => rowBytes_g (base2 hB) (base2 hq) (by have := hgd.len.1; omega) fun v hv => ⟨hgd.vals v hv, by have := hgd.len.2 v hv; omega⟩) fun w13 h => ?_
    refine h.ask (fun B2 own base2 => wText_g (base2 hB) (by omega)) fun w14 h => ?_
    rw [strL_add (by simp only [List.length_append]; omega)]
    have hevl : (evB e).length = (encT (bl e.source)).length + (encI e.schema).length + (encI e.time).length + (encT (encRow e.row)).length := by unfold evB; simp only [List.length_append]
    refine (h.take 1).bldWrite (Nat.le_refl _) (by rw [ofL_size]; simp only [List.length_append]; omega) fun _ w15 h => ?_
    rw [bl_ofL] at h
    rw [bin_add, wrap_id (by omega) (by omega)]
    refine hnext _ _ ⟨i + 1, hil, rfl, ?_⟩ (by simp only; omega)
    rw [hstep, ← List.append_assoc]
    exact h
  · refine h.bldString (Nat.le_refl _) fun w7 h => ?_
    have hie : i = s.events.length := by omega
    subst hie
    rw [List.take_length]
    exact k _ _ h
theorem stRead_m (hB : wireD B) {t : Bs} (ht : t.length ≤ 1099511627776) : Makes Tryz.prog B (sCall F_retain_Read #[.string (ofL t)]) fun u τ => (∃ s b, readSt t = some s ∧ u = .tuple #[ptr b, .bool true] ∧ τ = [storeD b s]) ∨ (readSt t = none ∧ u = .tuple #[.pointer none, .bool false] ∧ τ = []) := by
  refine Makes.intro fun B' w K base h k => ?_
  replace hB := base hB
  refine retain_Read.up (retain_Read.call ?_)
  unfold retain_Read.pt
  refine h.make (fun B2 own base2 => open_m) fun u τ w1 hp h => ?_
  obtain ⟨p, rfl, rfl⟩ := hp
  have h : Rel B' w1 [rdD p ⟨t, false⟩] := h
  have no : readSt t = none → ∀ w' τ, Rel B' w' τ → K (.tuple #[.pointer none, .bool false]) w' := fun hn w' τ h => k _ _ _ (.inr ⟨hn, rfl, rfl⟩) h.nil
  have yes : ∀ s b, readSt t = some s → ∀ w', Rel B' w' [storeD b s] → K (.tuple #[ptr b, .bool true]) w' := fun s b h1 w' h => k _ _ _ (.inl ⟨s, b, h1, rfl, rfl⟩) h
  clear k
  unfold readSt at no yes
  have hsn : Sane ⟨t, false⟩ := fun hb => by cases hb
  have q1 := intR_le ⟨t, false⟩
  have q2 := intR_le (intR ⟨t, false⟩).2
  have q3 := intR_le (intR (intR ⟨t, false⟩).2).2
  have q4 := natR_le (intR (intR (intR ⟨t, false⟩).2).2).2
  have q0 : (⟨t, false⟩ : RS).rest.length = t.length := rfl
  have s4 := natR_sane (intR_sane (intR_sane (intR_sane hsn)))
  have i1 : inI (intR ⟨t, false⟩).1 := (numR_le (.inl rfl : isEnd 59) minI ⟨t, false⟩).2.1
  have i2 : inI (intR (intR ⟨t, false⟩).2).1 := (numR_le (.inl rfl : isEnd 59) minI (intR ⟨t, false⟩).2).2.1
  have i3 : inI (intR (intR (intR ⟨t, false⟩).2).2).1 := (numR_le (.inl rfl : isEnd 59) minI (intR (intR ⟨t, false⟩).2).2).2.1
  have n0 : 0 ≤ (natR (intR (intR (intR ⟨t, false⟩).2).2).2).1 := (numR_le (.inl rfl : isEnd 59) 0 (intR (intR (intR ⟨t, false⟩).2).2).2).2.2 (Int.le_refl 0)
  refine h.rd_ 0 rfl (fun B2 own base2 => rInt_d (base2 hB) (by omega)) fun w2 h => ?_
  refine h.make (fun B2 own base2 => new_m _) fun u τ w3 hp h => ?_
  obtain ⟨b, rfl, rfl⟩ := hp
  refine h.rd_ 0 rfl (fun B2 own base2 => rInt_d (base2 hB) (by omega)) fun w4 h => ?_
  refine h.rd_ 0 rfl (fun B2 own base2 => rInt_d (base2 hB) (by omega)) fun w5 h => ?_
  have hdef : headR ⟨t, false⟩ = ((((( intR ⟨t, false⟩).1, (intR (intR ⟨t, false⟩).2).1), (intR (intR (intR ⟨t, false⟩).2).2).1), (natR (intR (intR (intR ⟨t, false⟩).2).2).2).1), (natR (intR (intR (intR ⟨t, false⟩).2).2).2).2) := rfl
  rw [hdef] at no yes
  simp only at no yes
  have hn4 : ∀ {K : Value → World → Prop} {w : World} {σ : List Dat}, Rel B' w (rdD p (intR (intR (intR ⟨t, false⟩).2).2).2 :: σ) → (∀ w', Rel B' w' (rdD p (natR (intR (intR (intR ⟨t, false⟩).2).2).2).2 :: σ) → K (.int .i64 (natR (intR (intR (intR ⟨t, false⟩).2).2).2).1) w') → upK Tryz.prog (sCall F_wire_Reader_Num #[ptr1 p]) w K := fun h kk =>
    h.rd_ 0 rfl (fun B2 own base2 => rNum_d (base2 hB) (by omega)) fun w' h => kk w' h
  have h : Rel B' w5 [rdD p (intR (intR (intR ⟨t, false⟩).2).2).2, storeD b ⟨(intR ⟨t, false⟩).1, 0, 0, []⟩] := h
  have e4 : (natR (intR (intR (intR ⟨t, false⟩).2).2).2).2.rest.length ≤ t.length := by omega
  generalize (natR (intR (intR (intR ⟨t, false⟩).2).2).2) = nn at *
  generalize (intR (intR (intR ⟨t, false⟩).2).2) = hh at *
  generalize (intR (intR ⟨t, false⟩).2) = ff at *
  generalize (intR ⟨t, false⟩) = pp at *
  obtain ⟨n, r4⟩ := nn
  obtain ⟨hz, r3⟩ := hh
  obtain ⟨f, r2⟩ := ff
  obtain ⟨pt, r1⟩ := pp
  simp only at no yes h hn4 s4 e4 i1 i2 i3 n0
  obtain ⟨⟨v0, L0⟩, h⟩ := h.ex (i := 1) rfl
  obtain ⟨⟨hL0, _⟩, h⟩ := h.pureAnd (i := 1) rfl
  have h := Rel.split (i := 1) h rfl
  have h := Rel.split (i := 2) h rfl
  have h := h.pick [1, 2, 3, 0] (by decide)
  have h : Rel B' w5 [stCell b ⟨pt, 0, 0, []⟩ v0.1, rowD T_api_Event v0.1 (raws L0), rowsR L0, rdD p r3] := h
  simp -zeta only [nil_ptr, field_addr f_retain_Store_0, field_addr f_retain_Store_1, field_addr f_retain_Store_2, field_addr f_retain_Store_3, Nat.add_zero, Nat.zero_add]
  refine h.st 0 rfl sc_int (show 1 < 4 by omega) rfl fun w6 h => ?_
  refine h.st 0 rfl sc_int (show 2 < 4 by omega) rfl fun w7 h => ?_
  have h : Rel B' w7 [stCell b ⟨pt, f, hz, []⟩ v0.1, rowD T_api_Event v0.1 (raws L0), rowsR L0, rdD p r3] := h
  refine hn4 (h.pick [3, 0, 1, 2] (by decide)) fun w8 h => ?_
  have h := h.tick
  have h : Rel B' (tick w8) [rdD p r4, stCell b ⟨pt, f, hz, []⟩ v0.1, rowD T_api_Event v0.1 (raws L0), rowsR L0] := h
  simp -zeta only [h.ld 1 rfl sc_int (o := 1) (v := .int .i64 f) rfl, h.ld 1 rfl sc_int (o := 2) (v := .int .i64 hz) rfl]
  unfold headBad at no yes
  simp only at no yes
  rw [bin_lss, ifB_dec]
  refine ⟨fun c => no (if_pos (by rw [decide_eq_true c]; simp)) _ _ h, fun c1 => ?_⟩
  rw [bin_gtr, ifB_dec]
  refine ⟨fun c => no (if_pos (by rw [decide_eq_true c]; simp)) _ _ h, fun c2 => ?_⟩
  rw [bin_lss, ifB_dec]
  refine ⟨fun c => no (if_pos (by rw [decide_eq_true c]; simp)) _ _ h, fun c3 => ?_⟩
  rw [bin_gtr, ifB_dec]
  refine ⟨fun c => no (if_pos (by rw [decide_eq_true c]; simp)) _ _ h, fun c4 => ?_⟩
  rw [bin_eql, bin_eql, bin_neq_bool U_bool, ifB_not, ifB_bool]
  refine ⟨fun c5 => ?_, fun c => no (if_pos (by have : (decide (hz = 0) != decide (f = 0)) = true := by rw [bne, c]; rfl
                                                rw [this]; simp)) _ _ h⟩
  rw [bin_gtr, ifB_dec]
  refine ⟨fun c => no (if_pos (by rw [decide_eq_true c]; simp)) _ _ h, fun c6 => ?_⟩
  have hbad : ¬ (decide (f < 0) || decide (1152921504606846976 < f) || decide (hz < 0) || decide (1099511627777 < hz) || (decide (hz = 0) != decide (f = 0)) || decide (2000 < n)) = true := by
    have : (decide (hz = 0) != decide (f = 0)) = false := by rw [bne, c5]; rfl
    rw [this, decide_eq_false c1, decide_eq_false c2, decide_eq_false c3, decide_eq_false c4, decide_eq_false c6]; decide
  rw [if_neg hbad] at no yes
  obtain ⟨m, rfl⟩ : ∃ m : Nat, n = m := ⟨n.toNat, by omega⟩
  rw [Int.toNat_natCast] at no yes
  have h := h.pick [1, 2, 3, 0] (by decide)
  have h : Rel B' (tick w8) [stCell b ⟨pt, f, hz, []⟩ v0.1, rowD T_api_Event v0.1 (raws L0), rowsR L0, rdD p r4] := h
  have h := store_close h hL0 ⟨by show 0 ≤ f; omega, by show f ≤ _; omega, Nat.zero_le _, fun e he => (by cases he)⟩
  clear c5 hbad hn4
  refine LOOP_intro (fun x w' => ∃ (i : Nat) (s : St) (r : RS), i ≤ m ∧ x = (.int .i64 i, ()) ∧ readEvs (m - i) s r = readEvs m ⟨pt, f, hz, []⟩ r4 ∧ Sane r ∧ r.rest.length ≤ t.length ∧ s.part = pt ∧ Rel B' w' [storeD b s, rdD p r]) (fun x _ => m - (match x.1 with | .int _ n => n.toNat | _ => 0))
    ⟨0, ⟨pt, f, hz, []⟩, r4, Nat.zero_le _, rfl, rfl, s4, by omega, rfl, h⟩ ?_
  clear h
  rintro x w9 ⟨i, s, r, hi, rfl, hev, hsa, hrl, hpt, h9⟩ next hnext
  rw [bin_lss, ifB_dec]
  refine ⟨fun hlt => ?_, fun hge => ?_⟩
  case refine_2 =>
    have e0 : m - i = 0 := by omega
    rw [e0, readEvs] at hev
    refine h9.ask (fun B2 own base2 => rDone_g (own (i := 1) rfl)) fun w8 h => ?_
    rw [un_not, ifB_not, ifB_bool]
    refine ⟨fun cd => ?_, fun cd => no (by rw [← hev]; exact if_neg (by rw [cd]; decide)) _ _ h⟩
    exact yes s b (by rw [← hev]; exact if_pos cd) _ (h.pick [0] (by decide))
  obtain ⟨k, hk⟩ : ∃ k, m - i = k + 1 := ⟨m - i - 1, by omega⟩
  rw [hk, readEvs] at hev
  subst hpt
  have z1 := textR_le r
  have z2 := intR_le (textR r).2
  have z3 := intR_le (intR (textR r).2).2
  have z4 := textR_le (intR (intR (textR r).2).2).2
  have z5 := textR_sane hsa
  have z6 := textR_sane (intR_sane (intR_sane z5))
  have rev : evR r = ((((((textR r).1), (intR (textR r).2).1), (intR (intR (textR r).2).2).1), (textR (intR (intR (textR r).2).2).2).1), (textR (intR (intR (textR r).2).2).2).2) := rfl
  rw [rev] at hev
  simp only at hev
  have rd1 : ∀ {K : Value → World → Prop} {w : World} {σ : List Dat}, Rel B' w (storeD b s :: rdD p r :: σ) → (∀ w', Rel B' w' (storeD b s :: rdD p (textR r).2 :: σ) → K (.string (ofL (textR r).1)) w') → upK Tryz.prog (sCall F_wire_Reader_Text #[ptr1 p]) w K := fun h kk => h.rd_ 1 rfl (fun B2 own base2 => rText_d (base2 hB) (by omega)) kk
  have rd2 : ∀ {K : Value → World → Prop} {w : World} {σ : List Dat}, Rel B' w (storeD b s :: rdD p (textR r).2 :: σ) → (∀ w', Rel B' w' (storeD b s :: rdD p (intR (textR r).2).2 :: σ) → K (.int .i64 (intR (textR r).2).1) w') → upK Tryz.prog (sCall F_wire_Reader_Int #[ptr1 p]) w K := fun h kk => h.rd_ 1 rfl (fun B2 own base2 => rInt_d (base2 hB) (by omega)) kk
  have rd3 : ∀ {K : Value → World → Prop} {w : World} {σ : List Dat}, Rel B' w (storeD b s :: rdD p (intR (textR r).2).2 :: σ) → (∀ w', Rel B' w' (storeD b s :: rdD p (intR (intR (textR r).2).2).2 :: σ) → K (.int .i64 (intR (intR (textR r).2).2).1) w') → upK Tryz.prog (sCall F_wire_Reader_Int #[ptr1 p]) w K := fun h kk => h.rd_ 1 rfl (fun B2 own base2 => rInt_d (base2 hB) (by omega)) kk
  have rd4 : ∀ {K : Value → World → Prop} {w : World} {σ : List Dat}, Rel B' w (storeD b s :: rdD p (intR (intR (textR r).2).2).2 :: σ) → (∀ w', Rel B' w' (storeD b s :: rdD p (textR (intR (intR (textR r).2).2).2).2 :: σ) → K (.string (ofL (textR (intR (intR (textR r).2).2).2).1)) w') → upK Tryz.prog (sCall F_wire_Reader_Text #[ptr1 p]) w K := fun h kk => h.rd_ 1 rfl (fun B2 own base2 => rText_d (base2 hB) (by omega)) kk
  have z7 : (textR (intR (intR (textR r).2).2).2).1.length ≤ t.length := by omega
  have z8 : (textR (intR (intR (textR r).2).2).2).2.rest.length ≤ t.length := by omega
  clear z1 z2 z3 z4 rev
  generalize textR (intR (intR (textR r).2).2).2 = y4 at *
  generalize intR (intR (textR r).2).2 = y3 at *
  generalize intR (textR r).2 = y2 at *
  generalize textR r = y1 at *
  obtain ⟨x4, q4⟩ := y4
  obtain ⟨x3, q3⟩ := y3
  obtain ⟨x2, q2⟩ := y2
  obtain ⟨x1, q1⟩ := y1
  simp only at hev rd1 rd2 rd3 rd4 z5 z6 z7 z8
  refine LETJ_intro fun J1 hJ1 => ?_
  replace hJ1 : ∀ e7 w', Rel B' w' [storeD b s, rdD p q3, cellD e7 T_api_Event ((⟨s.part, s.next, ofL x1, x2, x3, ⟨.slice none 0 0, rfl⟩⟩ : D_api_Event).cs.toArray)] → J1 (.pointer (some ⟨e7, 0, none⟩), ()) w' := fun e7 w' h => by
    refine hJ1 _ _ ?_
    refine rd4 h fun w11 h => ?_
    refine h.make (fun B2 own base2 => readRow_m (base2 hB) (by omega)) fun u τ w12 hp h => ?_
    simp -zeta only [field_addr f_api_Event_5, Nat.zero_add]
    rcases hp with ⟨row, v, hrow, rfl, rfl⟩ | ⟨hn, rfl, rfl⟩
    · simp -zeta only [ext_2_0, ext_2_1]
      have h : Rel B' w12 [storeD b s, rdD p q4, cellD e7 T_api_Event ((⟨s.part, s.next, ofL x1, x2, x3, ⟨.slice none 0 0, rfl⟩⟩ : D_api_Event).cs.toArray), rowD T_api_Value v row] := h
      have hv1 : v.oneCell' = true := h.oneCell (i := 3) rfl
      refine h.st 2 rfl sc_s_api_Value (show 5 < 6 by omega) hv1 fun w13 h => ?_
      rw [un_not, Bool.not_true, ifB_false]
      have h : Rel B' w13 [storeD b s, rdD p q4, cellD e7 T_api_Event (((⟨s.part, s.next, ofL x1, x2, x3, row⟩ : Ev).raw ⟨v, hv1⟩).cs.toArray), rowD T_api_Value v row] := h
      rw [h.ldAg 2 rfl ag_api_Event rfl]
      rw [hrow] at hev
      simp only at hev
      obtain ⟨g1, g2⟩ := readRow_back hrow
      have hg := addS_cases s ⟨s.part, s.next, ofL x1, x2, x3, row⟩
      refine h.act 0 rfl (fun B2 own base2 => addN_d ⟨s.part, s.next, ofL x1, x2, x3, row⟩ ⟨v, hv1⟩ (rowD.read (own (j := 3) (by decide) rfl)) fun y hy => by have := (g2 y hy).s; rw [bl_length] at this; exact this) fun u e' τ w14 hp h => ?_
      obtain ⟨rfl, rfl, rfl⟩ := hp
      rw [bin_neq, ifB_not, ifB_dec]
      refine ⟨fun c => ?_, fun c => no (by rw [← hev]; exact if_neg c) _ _ h⟩
      rw [if_pos c] at hev
      rw [bin_add, wrap_id (by omega) (by omega)]
      refine hnext _ _ ⟨i + 1, _, q4, by omega, rfl, by rw [show m - (i + 1) = k by omega]; exact hev, z6, z8, ?_, h.pick [0, 1] (by decide)⟩ (by simp only; omega)
      rcases hg with ⟨_, hg, _⟩ | ⟨_, hg⟩ <;> rw [hg]
    · simp -zeta only [ext_2_0, ext_2_1]
      have h : Rel B' w12 [storeD b s, rdD p q4, cellD e7 T_api_Event ((⟨s.part, s.next, ofL x1, x2, x3, ⟨.slice none 0 0, rfl⟩⟩ : D_api_Event).cs.toArray)] := h
      refine h.st 2 rfl sc_s_api_Value (show 5 < 6 by omega) rfl fun w13 h => ?_
      rw [un_not, Bool.not_false, ifB_true]
      rw [hn] at hev
      exact no hev.symm _ _ h
  have put : ∀ (e7 : Nat) (cs : Array Value) (w' : World), cs.size = 6 → Rel B' w' [storeD b s, rdD p q3, cellD e7 T_api_Event cs] →
      upK Tryz.prog (sStore T_api_Event (.pointer (some ⟨e7, 0, none⟩)) ((⟨s.part, s.next, ofL x1, x2, x3, ⟨.slice none 0 0, rfl⟩⟩ : D_api_Event).v)) w' fun _ w'' => J1 (.pointer (some ⟨e7, 0, none⟩), ()) w'' := fun e7 cs w' hcs h => by
    refine h.stAll 2 (ds := (⟨s.part, s.next, ofL x1, x2, x3, ⟨.slice none 0 0, rfl⟩⟩ : D_api_Event).cs.toArray) rfl ag_api_Event rfl hcs (fun v hv => Enc.one (⟨s.part, s.next, ofL x1, x2, x3, ⟨.slice none 0 0, rfl⟩⟩ : D_api_Event) v hv) fun w13 h => ?_
    exact hJ1 e7 _ h
  have bd : ∀ {Kp : Value → Prop}, pureK Tryz.prog (sBuild T_api_Event #[(0, .int .i64 s.part), (1, .int .i64 s.next), (2, .string (ofL x1)), (3, .int .i64 x2), (4, .int .i64 x3)]) Kp = Kp ((⟨s.part, s.next, ofL x1, x2, x3, ⟨.slice none 0 0, rfl⟩⟩ : D_api_Event).v) := fun {Kp} => bd_api_Event_0_1_2_3_4
  have nx : ∀ {K : Value → World → Prop} {w : World} {σ : List Dat}, Rel B' w (storeD b s :: σ) → (∀ w', Rel B' w' (storeD b s :: σ) → K (.int .i64 s.next) w') → upK Tryz.prog (sCall F_retain_Store_Next #[ptr b]) w K := fun h kk => h.ask (fun B2 own base2 => next_g (storeD.read (own (i := 0) rfl))) kk
  clear hJ1 hnext
  have h := h9.tick
  rw [store_ld0 h 0 rfl sc_int]
  refine ⟨?_, ?_⟩
  · refine nx h fun w15 h => ⟨store_is0 h 0 rfl sc_int, ?_, ?_⟩
    · refine rd1 h fun w16 h => ⟨store_is0 h 0 rfl sc_int, ?_, ?_⟩
      · refine rd2 h fun w17 h => ⟨store_is0 h 0 rfl sc_int, ?_, ?_⟩
        · refine rd3 h fun w18 h => ⟨store_is0 h 0 rfl sc_int, ?_⟩
          rw [bd]
          refine h.alloc z_api_Event fun e7 w19 h => ⟨store_is0 h 0 rfl sc_int, ?_⟩
          exact put e7 _ _ rfl h
        · refine h.alloc z_api_Event fun e7 w19 h => ⟨store_is0 h 0 rfl sc_int, ?_⟩
          refine rd3 h fun w18 h => ⟨store_is0 h 0 rfl sc_int, ?_⟩
          rw [bd]
          exact put e7 _ _ rfl h
      · refine h.alloc z_api_Event fun e7 w19 h => ⟨store_is0 h 0 rfl sc_int, ?_⟩
        refine rd2 h fun w17 h => ⟨store_is0 h 0 rfl sc_int, ?_⟩
        refine rd3 h fun w18 h => ⟨store_is0 h 0 rfl sc_int, ?_⟩
        rw [bd]
        exact put e7 _ _ rfl h
    · refine h.alloc z_api_Event fun e7 w19 h => ⟨store_is0 h 0 rfl sc_int, ?_⟩
      refine rd1 h fun w16 h => ⟨store_is0 h 0 rfl sc_int, ?_⟩
      refine rd2 h fun w17 h => ⟨store_is0 h 0 rfl sc_int, ?_⟩
      refine rd3 h fun w18 h => ⟨store_is0 h 0 rfl sc_int, ?_⟩
      rw [bd]
      exact put e7 _ _ rfl h
  · refine h.alloc z_api_Event fun e7 w19 h => ⟨store_is0 h 0 rfl sc_int, ?_⟩
    refine nx h fun w15 h => ⟨store_is0 h 0 rfl sc_int, ?_⟩
    refine rd1 h fun w16 h => ⟨store_is0 h 0 rfl sc_int, ?_⟩
    refine rd2 h fun w17 h => ⟨store_is0 h 0 rfl sc_int, ?_⟩
    refine rd3 h fun w18 h => ⟨store_is0 h 0 rfl sc_int, ?_⟩
    rw [bd]
    exact put e7 _ _ rfl h
end
end Go.Proofs.YtmllhipiahlihaaGreatDoor
