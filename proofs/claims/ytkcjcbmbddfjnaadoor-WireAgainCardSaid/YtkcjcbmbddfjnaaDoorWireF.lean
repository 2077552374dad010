/-
  Chapter 01: few, small. No condition.
-/
import Derived.Test.YtkcjcbmbddfjnaaDoorWireE
namespace Go.Proofs.YtkcjcbmbddfjnaaDoor
open Go.RowKit
set_option maxRecDepth 100000

abbrev vraws (L : List Vv) : List VD := L.map Vv.raw
theorem vget {L : List Vv} {i : Nat} (h : i < L.length) : (vraws L)[i]'(by rw [List.length_map]; exact h) = L[i].raw := by simp
section
variable {B : Base} {w : World} {σ : List Dat}
set_option maxHeartbeats 1000000 in
theorem few_r {v : Value} {L : List Vv} {K : Value → World → Prop} (r : rowR v (vraws L) B) (q : ∀ x ∈ L, vIn x B) (h : Rel B w σ) (yes : ∀ w', L.length ≤ 20 → (∀ x ∈ L, FewV x) → Rel B w' σ → K (.bool true) w') (no : ∀ w', Rel B w' σ → K (.bool false) w') :
    upK Tryd.prog (sCall F_erratalaw01_few #[v]) w K := by
  obtain ⟨B', h', back, _, base⟩ := h.frz
  replace r := base r
  replace q : ∀ x ∈ L, vIn x B' := fun x hx => base (q x hx)
  replace yes : ∀ w', L.length ≤ 20 → (∀ x ∈ L, FewV x) → Rel B' w' [] → K (.bool true) w' := fun w' h1 h2 h => yes w' h1 h2 (by have := back w' _ h; simpa using this)
  replace no : ∀ w', Rel B' w' [] → K (.bool false) w' := fun w' h => no w' (by have := back w' _ h; simpa using this)
  clear back h
  have h := h'
  clear h'
  have hal : (vraws L).length = L.length := List.length_map ..
  refine erratalaw01_few.up (erratalaw01_few.call ?_)
  unfold erratalaw01_few.pt
  simp -zeta only [rowR.len r sl_s_erratalaw01_Value, bin_gtr, ifB_dec]
  rw [hal]
  refine ⟨fun _ => no _ h, fun h20 => ?_⟩
  refine LOOP_intro (fun x w' => ∃ (i : Nat) (n : Int), i ≤ L.length ∧ x = (.int .i64 n, .int .i64 i, ()) ∧ 0 ≤ n ∧ n ≤ 200000 * i ∧ (∀ j (hj : j < L.length), j < i → FewV L[j]) ∧ Rel B' w' []) (fun x _ => L.length - (match x.2.1 with | .int _ n => n.toNat | _ => 0))
    ⟨0, 0, Nat.zero_le _, rfl, Int.le_refl _, by omega, fun j _ hj => absurd hj (Nat.not_lt_zero j), h⟩ ?_
  clear h
  rintro x w1 ⟨i, n, hi, rfl, hn0, hn1, hin, h⟩ next hnext
  simp -zeta only [bin_lss, ifB_dec]
  refine ⟨fun hlt => ?_, fun hge => ?_⟩
  · have hil : i < L.length := by omega
    refine LETJ_intro fun J hJ => ?_
    replace hJ : ∀ m : Int, 0 ≤ m → m ≤ 200000 * (i + 1) → FewV L[i] → ∀ w', Rel B' w' [] → J (.int .i64 m, ()) w' := by
      intro m h0 h1 hf w' h
      refine hJ _ _ ?_
      rw [bin_add, wrap_id (by omega) (by omega)]
      refine hnext _ _ ⟨i + 1, m, hil, rfl, h0, by omega, fun j hj hji => ?_, h⟩ (by simp only; omega)
      by_cases e : j = i
      · subst e; exact hf
      · exact hin j hj (by omega)
    clear hnext
    obtain ⟨g, o, hx, hc⟩ := rowR.idx r sl_s_erratalaw01_Value (P := Tryd.prog) (i := i) (by omega)
    rw [vget hil] at hc
    have hc : cellsR g o L[i].raw.cs B' := hc
    obtain ⟨rl, rt⟩ : rowR L[i].lv.1 L[i].l B' ∧ rowR L[i].tv.1 L[i].t B' := q L[i] (List.getElem_mem hil)
    have ht := h.tick
    generalize hxi : L[i] = x at *
    simp -zeta only [hx, field_addr f_erratalaw01_Value_2, field_addr f_erratalaw01_Value_3, field_addr f_erratalaw01_Value_4, cellsR.ld (h.hereB hc) sc_string (j := 2) rfl, cellsR.ld (h.hereB hc) sc_s_int (j := 3) rfl, cellsR.ld (h.hereB hc) sc_s_string (j := 4) rfl,
      cellsR.ld (ht.hereB hc) sc_string (j := 2) rfl, cellsR.ld (ht.hereB hc) sc_s_int (j := 3) rfl, cellsR.ld (ht.hereB hc) sc_s_string (j := 4) rfl, rowR.len rl sl_s_int, rowR.len rt sl_s_string, len_string U_string, bin_gtr, ifB_dec]
    refine ⟨fun _ => no _ h, fun c1 => ⟨fun _ => no _ h, fun c2 => ⟨fun _ => no _ h, fun c3 => ?_⟩⟩⟩
    have e1 : IntKind.i64.wrap (n + (x.s.size : Int)) = n + (x.s.size : Int) := wrap_id (by omega) (by omega)
    have e2 : IntKind.i64.wrap (n + (x.s.size : Int) + (x.l.length : Int)) = n + (x.s.size : Int) + (x.l.length : Int) := wrap_id (by omega) (by omega)
    have e3 : IntKind.i64.wrap (n + (x.s.size : Int) + (x.l.length : Int) + (x.t.length : Int)) = n + (x.s.size : Int) + (x.l.length : Int) + (x.t.length : Int) := wrap_id (by omega) (by omega)
    simp -zeta only [bin_add, e1, e2, e3]
    refine LOOP_intro (fun y w' => ∃ (k : Nat) (m : Int), k ≤ x.t.length ∧ y = (.int .i64 m, .int .i64 k, ()) ∧ 0 ≤ m ∧ m ≤ 200000 * i + 1200 + 400 * k ∧ (∀ j (hj : j < x.t.length), j < k → x.t[j].size ≤ 400) ∧ Rel B' w' []) (fun x_1 _ => x.t.length - (match x_1.2.1 with | .int _ n => n.toNat | _ => 0))
      ⟨0, _, Nat.zero_le _, rfl, by omega, by omega, fun j _ hj => absurd hj (Nat.not_lt_zero j), ht⟩ ?_
    clear h ht
    rintro y w3 ⟨k, m, hk, rfl, hm0, hm1, hink, h⟩ next hnext
    simp -zeta only [hx, field_addr f_erratalaw01_Value_4, cellsR.ld (h.hereB hc) sc_s_string (j := 4) rfl, rowR.len rt sl_s_string, bin_lss, ifB_dec]
    refine ⟨fun hltk => ?_, fun hgek => ?_⟩
    · have hkl : k < x.t.length := by omega
      obtain ⟨a, q1, q2⟩ := rowR.at_sc rt h sl_s_string hkl sc_string (x := .string x.t[k]) rfl
      simp -zeta only [q1, q2, len_string U_string, bin_gtr, ifB_dec]
      refine ⟨fun _ => no _ h, fun c4 => ?_⟩
      rw [bin_add, wrap_id (by omega) (by omega), bin_add, wrap_id (by omega) (by omega)]
      refine hnext _ _ ⟨k + 1, _, hkl, rfl, by omega, by omega, fun j hj hjk => ?_, h⟩ (by simp only; omega)
      by_cases e : j = k
      · subst e; omega
      · exact hink j hj (by omega)
    · exact hJ m hm0 (by omega) ⟨by omega, by omega, by omega, fun y hy => by
        obtain ⟨j, hj, rfl⟩ := List.getElem_of_mem hy
        exact hink j hj (by omega)⟩ _ h
  · rw [bin_leq]
    by_cases c : n ≤ 400
    · rw [decide_eq_true c]
      exact yes _ (by omega) (fun x hx => by
        obtain ⟨j, hj, rfl⟩ := List.getElem_of_mem hx
        exact hin j hj (by omega)) h
    · rw [decide_eq_false c]
      exact no _ h
theorem itoa0 : Go.Lib.itoa 0 = [48] := by rw [show (0 : Int) = ((0 : Nat) : Int) from rfl]; unfold Go.Lib.itoa; rw [if_neg (by decide)]; exact dec_small (by decide)
theorem itoa_nat {n : Nat} : Go.Lib.itoa (n : Int) = Go.Lib.decDigits n := by unfold Go.Lib.itoa; rw [if_neg (by omega)]; rfl
theorem dec300 : Go.Lib.decDigits 300 = [51, 48, 48] := by
  rw [dec_big (by decide), dec_big (u := 300 / 10) (by decide), dec_small (u := 300 / 10 / 10) (by decide)]
  decide
theorem bad7 : natR ⟨[48, 48, 55, 59], false⟩ = (0, failR) := by
  unfold natR numR
  have : numS 59 0 [48, 48, 55, 59] = none := numS_none.2 fun n r h h0 h1 => by
    have h2 : ([48, 48, 55] : Bs) ++ 59 :: [] = Go.Lib.itoa n ++ 59 :: r := h
    obtain ⟨e1, _⟩ := split_first (by decide) (itoa_not (.inl rfl)) h2
    obtain ⟨m, rfl⟩ : ∃ m : Nat, n = m := ⟨n.toNat, by omega⟩
    rw [itoa_nat] at e1
    have h3 : valD (Go.Lib.decDigits m) = 7 := by rw [← e1]; decide
    rw [valD_dec] at h3
    subst h3
    rw [dec_small (by decide)] at e1
    exact absurd e1 (by decide)
  rw [this]
theorem small_r {K : Value → World → Prop} (hB : wireD B) (h : Rel B w σ) (k : ∀ w', Rel B w' σ → K (.bool true) w') : upK Tryd.prog (sCall F_erratalaw01_small #[]) w K := by
  obtain ⟨B', h', back, _, base⟩ := h.frz
  replace hB := base hB
  replace k : ∀ w' τ, Rel B' w' τ → K (.bool true) w' := fun w' τ h => k w' (by have := back w' _ h; exact this.drop)
  clear back h
  have h := h'
  clear h'
  have i0 : ∀ n : Int, -1000 ≤ n → n ≤ 1000 → inI n := fun n h1 h2 => ⟨by omega, by omega⟩
  refine erratalaw01_small.up (erratalaw01_small.call ?_)
  unfold erratalaw01_small.pt
  have d : ∀ n : Nat, n < 10 → Go.Lib.itoa (n : Int) = [UInt8.ofNat (48 + n)] := fun n hn => by rw [itoa_nat, dec_small hn]
  have d1 : Go.Lib.itoa 1 = [49] := d 1 (by decide)
  have d2 : Go.Lib.itoa 2 = [50] := d 2 (by decide)
  have d3 : Go.Lib.itoa 3 = [51] := d 3 (by decide)
  have d7 : Go.Lib.itoa 7 = [55] := d 7 (by decide)
  have m1 : Go.Lib.itoa (-1) = [45, 49] := by unfold Go.Lib.itoa; rw [if_pos (by decide), show (-1 : Int).natAbs = 1 from rfl, dec_small (by decide)]; rfl
  have m7 : Go.Lib.itoa (-7) = [45, 55] := by unfold Go.Lib.itoa; rw [if_pos (by decide), show (-7 : Int).natAbs = 7 from rfl, dec_small (by decide)]; rfl
  have e1 : encN 0 = [48, 59] := by show Go.Lib.itoa 0 ++ [59] = _; rw [itoa0]; rfl
  have e2 : encN 300 = [51, 48, 48, 59] := by show Go.Lib.itoa ((300 : Nat) : Int) ++ [59] = _; rw [itoa_nat, dec300]; rfl
  have e3 : encN (-1) = [] := rfl
  have e4 : encI (-7) = [45, 55, 59] := by unfold encI; rw [m7]; rfl
  have e5 : encI 7 = [55, 59] := by unfold encI; rw [d7]; rfl
  have e6 : encT [97, 44, 98] = [51, 58, 97, 44, 98, 44] := by show Go.Lib.itoa 3 ++ _ = _; rw [d3]; rfl
  have e7 : encL encI [1, -1] = [50, 91, 49, 59, 45, 49, 59, 93] := by show Go.Lib.itoa 2 ++ 91 :: (encI 1 ++ (encI (-1) ++ []) ++ [93]) = _; unfold encI; rw [d2, d1, m1]; rfl
  have e8 : encL encT (([] : List ByteArray).map bl) = [48, 91, 93] := by show Go.Lib.itoa 0 ++ 91 :: ([] ++ [93]) = _; rw [itoa0]; rfl
  have lit : ∀ l : Bs, (⟨l.toArray⟩ : ByteArray) = ofL l := fun _ => rfl
  refine h.ask (fun B2 own base2 => wNum_g (base2 hB) (i0 0 (by decide) (by decide))) fun w1 h => ?_
  rw [e1, lit, eql_ofL, decide_eq_true rfl, ifB_true]
  refine h.ask (fun B2 own base2 => wNum_g (base2 hB) (i0 300 (by decide) (by decide))) fun w2 h => ?_
  rw [e2, lit, eql_ofL, decide_eq_true rfl, ifB_true]
  refine h.ask (fun B2 own base2 => wNum_g (base2 hB) (i0 (-1) (by decide) (by decide))) fun w3 h => ?_
  rw [e3, lit, eql_ofL, decide_eq_true rfl, ifB_true]
  refine h.ask (fun B2 own base2 => wInt_g (base2 hB) (i0 (-7) (by decide) (by decide))) fun w4 h => ?_
  rw [e4, lit, eql_ofL, decide_eq_true rfl, ifB_true]
  refine h.ask (fun B2 own base2 => wInt_g (base2 hB) (i0 7 (by decide) (by decide))) fun w5 h => ?_
  rw [e5, lit [55, 59], eql_ofL, decide_eq_true rfl]
  refine h.ask (fun B2 own base2 => wText_g (base2 hB) (s := [97, 44, 98]) (by decide)) fun w6 h => ?_
  rw [e6, lit [51, 58, 97, 44, 98, 44], eql_ofL, decide_eq_true rfl, ifB_true]
  refine h.buildN (α := Int) [1, -1] sl_s_int fun u w7 h => ?_
  have h : Rel B' w7 [rowD T_int u ([1, -1] : List Int)] := h
  refine h.ask (fun B2 own base2 => wNums_g (base2 hB) (rowD.read (own (i := 0) rfl)) (fun x hx => by
    rcases List.mem_cons.1 hx with rfl | hx
    · exact i0 1 (by decide) (by decide)
    · rw [List.mem_singleton.1 hx]; exact i0 (-1) (by decide) (by decide)) (by decide)) fun w8 h => ?_
  rw [e7, lit [50, 91, 49, 59, 45, 49, 59, 93], eql_ofL, decide_eq_true rfl, ifB_true]
  refine h.ask (fun B2 own base2 => wTexts_g (base2 hB) (l := []) ⟨none, 0, rfl, Nat.le_refl _, .inl rfl⟩ (by rw [e8]; decide)) fun w9 h => ?_
  rw [e8, lit [48, 91, 93], eql_ofL, decide_eq_true rfl]
  refine h.make (fun B2 own base2 => open_m (t := [48, 48, 55, 59])) fun u2 τ w10 hp h => ?_
  obtain ⟨p, rfl, rfl⟩ := hp
  have h : Rel B' w10 [rowD T_int u ([1, -1] : List Int), rdD p ⟨[48, 48, 55, 59], false⟩] := h
  rw [bin_eql_ptr_nil U_p_wire_Reader, ifB_false]
  refine h.rd_ 1 rfl (fun B2 own base2 => rNum_d (base2 hB) (by show List.length [48, 48, 55, 59] ≤ _; decide)) fun w11 h => ?_
  rw [bad7] at h ⊢
  have h : Rel B' w11 [rowD T_int u ([1, -1] : List Int), rdD p failR] := h
  simp -zeta only [ifB_true, bin_eql, decide_true]
  refine h.ask (fun B2 own base2 => rLeft_g (own (i := 1) rfl)) fun w12 h => ?_
  rw [bin_eql, show ((failR.rest.length : Nat) : Int) = 0 from rfl, decide_eq_true rfl, ifB_true]
  refine h.ask (fun B2 own base2 => rDone_g (own (i := 1) rfl)) fun w13 h => ?_
  rw [show doneR failR = false from rfl, un_not]
  exact k _ _ h
end
end Go.Proofs.YtkcjcbmbddfjnaaDoor
