/-
  WireWrites, WireReads, WireAgain: the laws' walks. No condition.
-/
import Derived.Test.YtkcjcbmbddfjnaaDoorWireS
import Derived.Test.YtkcjcbmbddfjnaaDoorWireH
namespace Go.Proofs.YtkcjcbmbddfjnaaDoor
open Go.RowKit
set_option maxRecDepth 100000

theorem wireWrites_walk {W : World} (hB : wireD (lawB W)) {x : Vv} (hx : vIn x (lawB W)) (gx : GoodV x)
    {K : Value → World → Prop} (fin : ∀ w' σ, Rel (lawB W) w' σ → K (.bool true) w') : erratalaw01_WireWrites.pt x.raw.v W K := by
  unfold erratalaw01_WireWrites.pt
  have h := lawB.start W
  refine h.box fun a w1 h => ?_
  have h : Rel (lawB W) w1 [cellD a T_erratalaw01_Value x.raw.cs.toArray] := h
  refine small_r hB h fun w3 h => ?_
  rw [h.ldAg 0 rfl ag_erratalaw01_Value rfl]
  refine h.build1 (α := VD) x.raw sl_s_erratalaw01_Value (by decide) fun u w4 h => ?_
  have h : Rel (lawB W) w4 [cellD a T_erratalaw01_Value x.raw.cs.toArray, rowD T_erratalaw01_Value u (vraws [x])] := h
  obtain ⟨B1, e1, h, hu⟩ := Rel.frz1 (σ := [cellD a T_erratalaw01_Value x.raw.cs.toArray]) h
  have hx1 : vIn x B1 := Dat.mono _ e1.le hx
  have hB1 : wireD B1 := Dat.mono _ e1.le hB
  replace fin : ∀ w' σ, Rel B1 w' σ → K (.bool true) w' := fun w' σ h => fin w' σ (e1.rel h)
  refine few_r (rowD.read hu) (fun z hz => by rw [List.mem_singleton.1 hz]; exact hx1) h (fun w5 _ hf h => ?_) fun w5 h => by rw [un_not, Bool.not_false, ifB_true]; exact fin _ _ h
  have fx := hf x (List.mem_singleton.2 rfl)
  obtain ⟨rl, rt⟩ : rowR x.lv.1 x.l B1 ∧ rowR x.tv.1 x.t B1 := hx1
  rw [un_not, Bool.not_true, ifB_false]
  have h := h.tick
  have hs : x.s = ofL (bl x.s) := (ofL_bl x.s).symm
  have hsl : (bl x.s).length ≤ 4611686018427387904 := by rw [bl_length]; have := fx.s; omega
  simp -zeta only [field_addr f_erratalaw01_Value_1, Nat.zero_add, h.ld 0 rfl sc_int (o := 1) rfl]
  refine h.ask (fun B3 own base3 => wNum_g (base3 hB1) gx.n) fun w6 h => ?_
  refine ⟨h.is 0 rfl sc_int (o := 1) rfl, ?_⟩
  refine h.ask (fun B3 own base3 => fNum_g gx.n) fun w7 h => ?_
  rw [eql_ofL, decide_eq_true rfl, ifB_true]
  simp -zeta only [h.ld 0 rfl sc_int (o := 1) rfl]
  refine h.ask (fun B3 own base3 => wInt_g (base3 hB1) gx.n) fun w8 h => ?_
  refine ⟨h.is 0 rfl sc_int (o := 1) rfl, ?_⟩
  refine h.ask (fun B3 own base3 => fInt_g gx.n) fun w9 h => ?_
  rw [eql_ofL, decide_eq_true rfl, ifB_true]
  simp -zeta only [field_addr f_erratalaw01_Value_2, Nat.zero_add, h.ld 0 rfl sc_string (o := 2) rfl]
  refine h.ask (fun B3 own base3 => by have := wText_g (B := B3) (base3 hB1) hsl; rw [← hs] at this; exact this) fun w10 h => ?_
  refine ⟨h.is 0 rfl sc_string (o := 2) rfl, ?_⟩
  refine h.ask (fun B3 own base3 => by have := fText_g (B := B3) hsl; rw [← hs] at this; exact this) fun w11 h => ?_
  rw [eql_ofL, decide_eq_true rfl, ifB_true, ifB_true]
  have h := h.tick
  have hll := fx.l
  have hlt := fx.t
  have hb1 := (encL_len encI x.l (by omega)).2
  have hb2 := flat_len encI x.l 21 fun y hy => encI_len (gx.l y hy)
  have hb3 := encTs_len fx.t fx.each
  simp -zeta only [field_addr f_erratalaw01_Value_3, Nat.zero_add, h.ld 0 rfl sc_s_int (o := 3) rfl]
  refine h.ask (fun B3 own base3 => wNums_g (base3 hB1) (base3 rl) gx.l (by omega)) fun w12 h => ?_
  refine ⟨h.is 0 rfl sc_s_int (o := 3) rfl, ?_⟩
  refine h.ask (fun B3 own base3 => fNums_g (base3 rl) gx.l (by omega) (by rw [List.map_id]; omega)) fun w13 h => ?_
  rw [List.map_id, eql_ofL, decide_eq_true rfl, ifB_true]
  simp -zeta only [field_addr f_erratalaw01_Value_4, Nat.zero_add, h.ld 0 rfl sc_s_string (o := 4) rfl]
  refine h.ask (fun B3 own base3 => wTexts_g (base3 hB1) (base3 rt) (by omega)) fun w14 h => ?_
  refine ⟨h.is 0 rfl sc_s_string (o := 4) rfl, ?_⟩
  refine h.ask (fun B3 own base3 => fTexts_g (base3 rt) (fun y hy => by rw [bl_length]; have := fx.each y hy; omega) (by omega) (by omega)) fun w15 h => ?_
  rw [eql_ofL, decide_eq_true rfl]
  exact fin _ _ h

/-! ### Lists that are read -/
theorem loopR_all {α : Type} {one : RS → α × RS} {P : α → Prop} {Q : RS → Prop} (h : ∀ s, Q s → P (one s).1 ∧ Q (one s).2) : ∀ (k : Nat) (acc : List α) (s : RS), Q s → (∀ x ∈ acc, P x) → ∀ x ∈ (loopR one k acc s).1, P x
  | 0, acc, s, _, ha => by rw [loopR]; exact ha
  | k + 1, acc, s, hs, ha => by
    rw [loopR]
    split
    · exact ha
    · refine loopR_all h k _ _ (h s hs).2 fun x hx => ?_
      rcases List.mem_append.1 hx with hx | hx
      · exact ha x hx
      · rw [List.mem_singleton.1 hx]; exact (h s hs).1
theorem itemsR_all {α : Type} {one : RS → α × RS} {P : α → Prop} {N : Nat} (h : ∀ s : RS, s.rest.length ≤ N → P (one s).1 ∧ (one s).2.rest.length ≤ N) {s : RS} (hs : s.rest.length ≤ N) : ∀ x ∈ (itemsR one s).1, P x := by
  unfold itemsR
  simp only
  split
  · intro x hx; cases hx
  · exact loopR_all (Q := fun s => s.rest.length ≤ N) h _ _ _ (Nat.le_trans (numR_le (.inr (.inr rfl) : isEnd 91) 0 s).1 hs) fun x hx => by cases hx
theorem itemsR_len {α : Type} {enc : α → Bs} {good : α → Prop} {one : RS → α × RS} (h : Ok1 enc good one) (hne : ∀ x, 0 < (enc x).length) (s : RS) : (itemsR one s).1.length ≤ s.rest.length + 1 := by
  unfold itemsR
  have h1 := (numR_le (.inr (.inr rfl) : isEnd 91) 0 s).1
  have h2 := loopR_le h hne (numR 91 0 s).1.toNat [] (numR 91 0 s).2
  rw [List.length_nil] at h2
  simp only
  split
  · rw [List.length_nil]; omega
  · omega
theorem closeR_le (e : UInt8) (s : RS) : (closeR e s).rest.length ≤ s.rest.length := by
  rcases closeR_cases e s with ⟨r, e1, e2⟩ | ⟨_, e2⟩ <;> rw [e2]
  · rw [e1, List.length_cons]; exact Nat.le_succ _
  · exact Nat.zero_le _
theorem textR_le (s : RS) : (textR s).1.length ≤ s.rest.length ∧ (textR s).2.rest.length ≤ s.rest.length := by
  have h1 := (numR_le (.inr (.inl rfl) : isEnd 58) 0 s).1
  unfold textR
  simp only
  split
  · exact ⟨Nat.zero_le _, Nat.zero_le _⟩
  · have h2 := closeR_le 44 ⟨(numR 58 0 s).2.rest.drop (numR 58 0 s).1.toNat, (numR 58 0 s).2.bad⟩
    have h3 : (⟨(numR 58 0 s).2.rest.drop (numR 58 0 s).1.toNat, (numR 58 0 s).2.bad⟩ : RS).rest.length ≤ (numR 58 0 s).2.rest.length := by
      show ((numR 58 0 s).2.rest.drop _).length ≤ _
      rw [List.length_drop]; omega
    refine ⟨?_, Nat.le_trans h2 (Nat.le_trans h3 h1)⟩
    show (if _ then ([] : Bs) else _).length ≤ _
    split
    · exact Nat.zero_le _
    · rw [List.length_take]; omega
theorem loopR_le2 {α : Type} {one : RS → α × RS} (h : ∀ s, (one s).2.rest.length ≤ s.rest.length) : ∀ (k : Nat) (acc : List α) (s : RS), (loopR one k acc s).2.rest.length ≤ s.rest.length
  | 0, acc, s => by rw [loopR]; exact Nat.le_refl _
  | k + 1, acc, s => by
    rw [loopR]
    split
    · exact Nat.le_refl _
    · exact Nat.le_trans (loopR_le2 h k _ _) (h s)
theorem itemsR_le2 {α : Type} {one : RS → α × RS} (h : ∀ s, (one s).2.rest.length ≤ s.rest.length) (s : RS) : (itemsR one s).2.rest.length ≤ s.rest.length := by
  unfold itemsR
  exact Nat.le_trans (closeR_le _ _) (Nat.le_trans (loopR_le2 h _ _ _) (numR_le (.inr (.inr rfl)) 0 s).1)
theorem intR_le (s : RS) : (intR s).2.rest.length ≤ s.rest.length := (numR_le (.inl rfl) _ s).1
theorem natR_le (s : RS) : (natR s).2.rest.length ≤ s.rest.length := (numR_le (.inl rfl) _ s).1

def nilS : SV := ⟨.slice none 0 0, rfl⟩
abbrev kindV (n : Int) : VD := ⟨n, 0, ⟨#[]⟩, nilS, nilS⟩
set_option maxHeartbeats 1000000 in
theorem wireReads_pt {W : World} (hB : wireD (lawB W)) {s : ByteArray} (_ : s.size ≤ maxLen) {v : Value} {l : List Int} (r : rowR v l (lawB W))
    {K : Value → World → Prop} (fin : ∀ w' σ, Rel (lawB W) w' σ → K (.bool true) w') : erratalaw01_WireReads.pt (.string s) v W K := by
  unfold erratalaw01_WireReads.pt
  have h := lawB.start W
  refine small_r hB h fun w1 h => ?_
  simp -zeta only [len_string U_string, bin_gtr, ifB_dec, rowR.len r sl_s_int]
  refine ⟨fun _ => fin _ _ h, fun hs400 => ⟨fun _ => fin _ _ h, fun hl20 => ?_⟩⟩
  obtain ⟨t, rfl⟩ : ∃ t : Bs, s = ofL t := ⟨bl s, (ofL_bl s).symm⟩
  rw [ofL_size] at hs400
  refine h.make (fun B2 own base2 => open_m) fun u τ w2 hp h => ?_
  obtain ⟨p, rfl, rfl⟩ := hp
  refine h.make (fun B2 own base2 => fopen_m) fun u τ w3 hp h => ?_
  obtain ⟨q, rfl, rfl⟩ := hp
  rw [bin_eql_ptr_nil U_p_wire_Reader, ifB_false]
  have h : Rel (lawB W) w3 [rdD p ⟨t, false⟩, rfD q ⟨t, false⟩] := h
  refine LOOP_intro (fun x w' => ∃ (i : Nat) (s : RS), i ≤ l.length ∧ x = (.int .i64 i, ()) ∧ Sane s ∧ s.rest.length ≤ 400 ∧ Rel (lawB W) w' [rdD p s, rfD q s]) (fun x _ => l.length - (match x.1 with | .int _ n => n.toNat | _ => 0))
    ⟨0, ⟨t, false⟩, Nat.zero_le _, rfl, fun hb => (by cases hb), by show t.length ≤ 400; omega, h⟩ ?_
  clear h
  rintro x w4 ⟨i, s, hi, rfl, hsn, hsl, h⟩ next hnext
  simp -zeta only [bin_lss, ifB_dec]
  refine ⟨fun hlt => ?_, fun hge => ?_⟩
  · have hil : i < l.length := by omega
    refine LETJ_intro fun J1 hJ1 => ?_
    replace hJ1 : ∀ s' : RS, Sane s' → s'.rest.length ≤ s.rest.length → ∀ w' τ, Rel (lawB W) w' ([rdD p s', rfD q s'] ++ τ) → J1 (.bool true, ()) w' := by
      intro s' hsn' hle w' τ h
      refine hJ1 _ _ ?_
      have h : Rel (lawB W) w' [rdD p s', rfD q s'] := h.drop
      rw [un_not, Bool.not_true, ifB_false]
      refine h.ask (fun B2 own base2 => rLeft_g (own (i := 0) rfl)) fun w5 h => ?_
      refine h.ask (fun B2 own base2 => fLeft_g (own (i := 1) rfl)) fun w6 h => ?_
      rw [bin_neq, decide_eq_true rfl, Bool.not_true, ifB_false]
      refine h.ask (fun B2 own base2 => rDone_g (own (i := 0) rfl)) fun w7 h => ?_
      refine h.ask (fun B2 own base2 => fDone_g (own (i := 1) rfl)) fun w8 h => ?_
      rw [bin_neq_bool U_bool, beq_self_eq_true, Bool.not_true, ifB_false, bin_add, wrap_id (by omega) (by omega)]
      exact hnext _ _ ⟨i + 1, s', hil, rfl, hsn', by omega, h⟩ (by simp only; omega)
    clear hnext
    obtain ⟨a, q1, q2⟩ := rowR.at_sc r h sl_s_int hil sc_int (x := .int .i64 l[i]) rfl
    rw [q1, q2, bd_erratalaw01_Value_0]
    refine h.ask (fun B2 own base2 => kind_g (kindV l[i])) fun w5 h => ?_
    simp -zeta only [bin_eql, ifB_dec]
    refine ⟨fun _ => ?_, fun _ => ⟨fun _ => ?_, fun _ => ⟨fun _ => ?_, fun _ => ⟨fun _ => ?_, fun _ => ?_⟩⟩⟩⟩
    · refine h.rd_ 0 rfl (fun B2 own base2 => rNum_d (base2 hB) (by omega)) fun w6 h => ?_
      refine h.rf_ 1 rfl (fun B2 own base2 => fNumR_d (by omega)) fun w7 h => ?_
      rw [bin_eql, decide_eq_true rfl]
      exact hJ1 (natR s).2 (natR_sane hsn) (natR_le s) _ [] h
    · refine h.rd_ 0 rfl (fun B2 own base2 => rInt_d (base2 hB) (by omega)) fun w6 h => ?_
      refine h.rf_ 1 rfl (fun B2 own base2 => fIntR_d (by omega)) fun w7 h => ?_
      rw [bin_eql, decide_eq_true rfl]
      exact hJ1 (intR s).2 (intR_sane hsn) (intR_le s) _ [] h
    · refine h.rd_ 0 rfl (fun B2 own base2 => rText_d (base2 hB) (by omega)) fun w6 h => ?_
      refine h.rf_ 1 rfl (fun B2 own base2 => fTextR_d hsn (by omega)) fun w7 h => ?_
      rw [eql_ofL, decide_eq_true rfl]
      exact hJ1 (textR s).2 (textR_sane hsn) (textR_le s).2 _ [] h
    · refine h.act 0 rfl (fun B2 own base2 => rNums_d (base2 hB) (by omega)) fun u e' τ w6 hp h => ?_
      obtain ⟨rfl, rfl⟩ := hp
      have h : Rel (lawB W) w6 [rdD p (intsR s).2, rfD q s, rowD T_int u (intsR s).1] := h
      refine h.act 1 rfl (fun B2 own base2 => fNums_d hsn (by omega)) fun u2 e' τ w7 hp h => ?_
      obtain ⟨rfl, rfl⟩ := hp
      have h : Rel (lawB W) w7 [rdD p (intsR s).2, rfD q (intsR s).2, rowD T_int u (intsR s).1, rowD T_int u2 (intsR s).1] := h
      refine h.ask (fun B2 own base2 => SameNums_g (rowD.read (own (i := 2) rfl)) (rowD.read (own (i := 3) rfl)) (itemsR_le intR_ok encI_pos s (by omega))) fun w8 h => ?_
      rw [decide_eq_true rfl]
      exact hJ1 (intsR s).2 (itemsR_sane (fun s => intR_sane) hsn) (itemsR_le2 intR_le s) _ _ h
    · refine h.act 0 rfl (fun B2 own base2 => rTexts_d (base2 hB) (by omega)) fun u e' τ w6 hp h => ?_
      obtain ⟨rfl, rfl⟩ := hp
      have h : Rel (lawB W) w6 [rdD p (textsR s).2, rfD q s, rowD T_string u ((textsR s).1.map ofL)] := h
      refine h.act 1 rfl (fun B2 own base2 => fTexts_d hsn (by omega)) fun u2 e' τ w7 hp h => ?_
      obtain ⟨rfl, rfl⟩ := hp
      have h : Rel (lawB W) w7 [rdD p (textsR s).2, rfD q (textsR s).2, rowD T_string u ((textsR s).1.map ofL), rowD T_string u2 ((textsR s).1.map ofL)] := h
      refine h.ask (fun B2 own base2 => SameTexts_g (rowD.read (own (i := 2) rfl)) (rowD.read (own (i := 3) rfl)) (by rw [List.length_map]; exact itemsR_le textR_ok encT_pos s (by omega))) fun w8 h => ?_
      rw [decide_eq_true rfl]
      exact hJ1 (textsR s).2 (itemsR_sane (fun s => textR_sane) hsn) (itemsR_le2 (fun s => (textR_le s).2) s) _ _ h
  · rw [ifB_true]
    refine h.rd_ 0 rfl (fun B2 own base2 => rRest_d) fun w5 h => ?_
    refine h.rf_ 1 rfl (fun B2 own base2 => fTail_d) fun w6 h => ?_
    rw [eql_ofL, decide_eq_true rfl, ifB_true]
    have h : Rel (lawB W) w6 [rdD p ⟨[], s.bad⟩, rfD q ⟨[], s.bad⟩] := h
    refine h.ask (fun B2 own base2 => rLeft_g (own (i := 0) rfl)) fun w7 h => ?_
    refine h.ask (fun B2 own base2 => fLeft_g (own (i := 1) rfl)) fun w8 h => ?_
    rw [bin_eql, decide_eq_true rfl, ifB_true]
    refine h.ask (fun B2 own base2 => rDone_g (own (i := 0) rfl)) fun w9 h => ?_
    refine h.ask (fun B2 own base2 => fDone_g (own (i := 1) rfl)) fun w10 h => ?_
    rw [bin_eql_bool U_bool, beq_self_eq_true]
    exact fin _ _ h
set_option maxHeartbeats 1000000 in
theorem wireAgain_pt {W : World} (hB : wireD (lawB W)) {s : ByteArray} (_ : s.size ≤ maxLen) {what : Int}
    {K : Value → World → Prop} (fin : ∀ w' σ, Rel (lawB W) w' σ → K (.bool true) w') : erratalaw01_WireAgain.pt (.string s) (.int .i64 what) W K := by
  unfold erratalaw01_WireAgain.pt
  have h := lawB.start W
  refine small_r hB h fun w1 h => ?_
  simp -zeta only [len_string U_string, bin_gtr, ifB_dec]
  refine ⟨fun _ => fin _ _ h, fun hs400 => ?_⟩
  obtain ⟨t, rfl⟩ : ∃ t : Bs, s = ofL t := ⟨bl s, (ofL_bl s).symm⟩
  rw [ofL_size] at hs400 ⊢
  refine h.make (fun B2 own base2 => open_m) fun u τ w2 hp h => ?_
  obtain ⟨p, rfl, rfl⟩ := hp
  rw [bin_eql_ptr_nil U_p_wire_Reader, ifB_false]
  have h : Rel (lawB W) w2 [rdD p ⟨t, false⟩] := h
  refine LETJ_intro fun J1 hJ1 => ?_
  replace hJ1 : ∀ (x : Bs) (s' : RS), Sane s' → (s'.bad = false → t = x ++ s'.rest) → ∀ w' τ, Rel (lawB W) w' ([rdD p s'] ++ τ) → J1 (.string (ofL x), ()) w' := by
    intro x s' hsn hx w' τ h
    refine hJ1 _ _ ?_
    clear hJ1
    have h : Rel (lawB W) w' [rdD p s'] := h.drop
    refine LETJ_intro fun J2 hJ2 => ?_
    replace hJ2 : s'.bad = false → ∀ w', Rel (lawB W) w' [rdD p s'] → J2 () w' := by
      intro hb w' h
      refine hJ2 _ _ ?_
      have hx := hx hb
      have hxl : t.length = x.length + s'.rest.length := by rw [hx, List.length_append]
      refine h.ask (fun B2 own base2 => rLeft_g (own (i := 0) rfl)) fun w5 h => ?_
      have e1 : IntKind.i64.wrap ((t.length : Int) - (s'.rest.length : Int)) = (x.length : Int) := by rw [wrap_id (by omega) (by omega)]; omega
      have e2 : min (x.length : Int) (t.length : Int) = (x.length : Int) := by omega
      have e3 : max (0 : Int) (x.length : Int) = (x.length : Int) := by omega
      simp -zeta only [bin_sub, e1, ifB_true, bin_geq, bin_leq, blt_min, blt_max, e2, e3]
      rw [decide_eq_true (by omega), ifB_true, decide_eq_true (by omega), ifB_true, str_cut U_string (lo := 0) (hi := x.length) Bnd.none Bnd.some (Nat.zero_le _) (by rw [ofL_size]; omega), bl_ofL, List.drop_zero, hx, List.take_left, eql_ofL, decide_eq_true rfl]
      exact fin _ _ h
    refine h.ask (fun B2 own base2 => rLeft_g (own (i := 0) rfl)) fun w5 h => ?_
    rw [bin_eql, ifB_dec]
    refine ⟨fun c => ?_, fun c => ?_⟩
    · refine h.ask (fun B2 own base2 => rDone_g (own (i := 0) rfl)) fun w6 h => ?_
      rw [un_not, ifB_not, ifB_bool]
      refine ⟨fun hd => ?_, fun _ => fin _ _ h⟩
      unfold doneR at hd
      refine hJ2 ?_ _ h
      cases hb : s'.bad
      · rfl
      · rw [hb] at hd; simp at hd
    · refine hJ2 ?_ _ h
      cases hb : s'.bad
      · rfl
      · have := hsn hb
        rw [this] at c
        exact absurd rfl c
  have sn : Sane ⟨t, false⟩ := fun hb => by cases hb
  have tl : (⟨t, false⟩ : RS).rest.length ≤ 400 := by show t.length ≤ 400; omega
  rw [bd_erratalaw01_Value_0]
  refine h.ask (fun B2 own base2 => kind_g (kindV what)) fun w5 h => ?_
  simp -zeta only [bin_eql, ifB_dec]
  refine ⟨fun _ => ?_, fun _ => ⟨fun _ => ?_, fun _ => ⟨fun _ => ?_, fun _ => ⟨fun _ => ?_, fun _ => ?_⟩⟩⟩⟩
  · refine h.rd_ 0 rfl (fun B2 own base2 => rNum_d (base2 hB) (by omega)) fun w6 h => ?_
    refine h.ask (fun B2 own base2 => wNum_g (base2 hB) (numR_le (.inl rfl) 0 _).2.1) fun w7 h => ?_
    refine hJ1 _ _ (natR_sane sn) (fun hb => ?_) _ [] h
    obtain ⟨e1, e2, _⟩ := natR_ok.back (s := ⟨t, false⟩) rfl hb
    unfold encN
    rw [if_neg (by omega)]
    exact e1
  · refine h.rd_ 0 rfl (fun B2 own base2 => rInt_d (base2 hB) (by omega)) fun w6 h => ?_
    refine h.ask (fun B2 own base2 => wInt_g (base2 hB) (numR_le (.inl rfl) _ _).2.1) fun w7 h => ?_
    exact hJ1 _ _ (intR_sane sn) (fun hb => (intR_ok.back (s := ⟨t, false⟩) rfl hb).1) _ [] h
  · refine h.rd_ 0 rfl (fun B2 own base2 => rText_d (base2 hB) (by omega)) fun w6 h => ?_
    refine h.ask (fun B2 own base2 => wText_g (base2 hB) (by have := (textR_le ⟨t, false⟩).1; omega)) fun w7 h => ?_
    exact hJ1 _ _ (textR_sane sn) (fun hb => (textR_ok.back (s := ⟨t, false⟩) rfl hb).1) _ [] h
  · refine h.act 0 rfl (fun B2 own base2 => rNums_d (base2 hB) (by omega)) fun u e' τ w6 hp h => ?_
    obtain ⟨rfl, rfl⟩ := hp
    have h : Rel (lawB W) w6 [rdD p (intsR ⟨t, false⟩).2, rowD T_int u (intsR ⟨t, false⟩).1] := h
    refine h.ask (fun B2 own base2 => wNums_g (base2 hB) (rowD.read (own (i := 1) rfl)) (itemsR_all (P := inI) (N := 400) (fun s hs => ⟨(numR_le (.inl rfl) _ s).2.1, Nat.le_trans (intR_le s) hs⟩) tl) (Nat.le_trans (itemsR_len intR_ok encI_pos ⟨t, false⟩) (by show t.length + 1 ≤ _; omega))) fun w7 h => ?_
    exact hJ1 _ _ (itemsR_sane (fun s => intR_sane) sn) (fun hb => (intsR_ok.back (s := ⟨t, false⟩) rfl hb).1) _ _ h
  · refine h.act 0 rfl (fun B2 own base2 => rTexts_d (base2 hB) (by omega)) fun u e' τ w6 hp h => ?_
    obtain ⟨rfl, rfl⟩ := hp
    have h : Rel (lawB W) w6 [rdD p (textsR ⟨t, false⟩).2, rowD T_string u ((textsR ⟨t, false⟩).1.map ofL)] := h
    have em : ((textsR ⟨t, false⟩).1.map ofL).map bl = (textsR ⟨t, false⟩).1 := by
      rw [List.map_map]
      exact List.map_id _
    have h1 : (textsR ⟨t, false⟩).1.length ≤ 401 := Nat.le_trans (itemsR_len textR_ok encT_pos ⟨t, false⟩) (by show t.length + 1 ≤ _; omega)
    have h2 := itemsR_all (P := fun x : Bs => x.length ≤ 400) (N := 400) (one := textR) (fun s hs => ⟨Nat.le_trans (textR_le s).1 hs, Nat.le_trans (textR_le s).2 hs⟩) tl
    have h3 := (encL_len encT (textsR ⟨t, false⟩).1 (by omega)).2
    have h4 := flat_len encT (textsR ⟨t, false⟩).1 422 fun x hx => by
      have := encT_len x (by have := h2 x hx; omega)
      have := h2 x hx
      omega
    refine h.ask (fun B2 own base2 => wTexts_g (base2 hB) (rowD.read (own (i := 1) rfl)) (by rw [em]; omega)) fun w7 h => ?_
    rw [em]
    exact hJ1 _ _ (itemsR_sane (fun s => textR_sane) sn) (fun hb => (textsR_ok.back (s := ⟨t, false⟩) rfl hb).1) _ _ h
theorem wireWrites_pt {W : World} (hB : wireD (lawB W)) {x : VD} (hx : ok_erratalaw01_Value W x)
    {K : Value → World → Prop} (fin : ∀ w' σ, Rel (lawB W) w' σ → K (.bool true) w') : erratalaw01_WireWrites.pt x.v W K := by
  obtain ⟨a, rfl, qa, ga⟩ := open_val hx
  exact wireWrites_walk hB qa ga fin
end Go.Proofs.YtkcjcbmbddfjnaaDoor
