/-
  wire: the reader. No condition.
-/
import Derived.Test.YtoebncgnjbblgaaGreatDoorWireB
--@auto
namespace Go.Proofs.YtoebncgnjbblgaaGreatDoor
open Go.RowKit
set_option maxRecDepth 100000

abbrev rdC (s : RS) : Array Value := #[.string (ofL s.rest), .bool s.bad]
abbrev rdD (p : Nat) (s : RS) : Dat := cellD p T_wire_Reader (rdC s)
def rdPost (p : Nat) (v : Value) (s : RS) : Value → Dat → List Dat → Prop := fun u e' τ => u = v ∧ e' = rdD p s ∧ τ = []
abbrev ptr1 (p : Nat) : Value := .pointer (some ⟨p, 0, none⟩)
section
variable {B : Base} {w : World} {σ : List Dat} {p : Nat} {s : RS}
theorem Does.rd {sem : Sem Next} {v : Value} {s' : RS} (h : ∀ (B' : Base) (w : World) (K : Value → World → Prop), (∀ {d : Dat}, d B → d B') → Rel B' w [rdD p s] → (∀ w' τ, Rel B' w' (rdD p s' :: τ) → K v w') → upK Tryz.prog sem w K) : Does Tryz.prog B (rdD p s) sem (rdPost p v s') := by
  refine Does.intro fun B' w K base h' k => ?_
  refine h B' w K base h' fun w' τ h2 => k v _ [] w' ⟨rfl, rfl, rfl⟩ ?_
  have h3 : Rel B' w' ([rdD p s'] ++ τ) := h2
  exact h3.drop
/-- A reader's call. -/
theorem Rel.rd_ (h : Rel B w σ) (i : Nat) (hi : σ[i]? = some (rdD p s)) {sem : Sem Next} {v : Value} {s' : RS} {K : Value → World → Prop} (G : ∀ B' : Base, (∀ {j : Nat} {d : Dat}, j ≠ i → σ[j]? = some d → d B') → (∀ {d : Dat}, d B → d B') → Does Tryz.prog B' (rdD p s) sem (rdPost p v s'))
    (k : ∀ w', Rel B w' (σ.set i (rdD p s')) → K v w') : upK Tryz.prog sem w K := by
  refine h.act i hi G fun u e' τ w' hp h2 => ?_
  obtain ⟨rfl, rfl, rfl⟩ := hp
  rw [List.append_nil] at h2
  exact k _ h2
theorem fail_d : Does Tryz.prog B (rdD p s) (sCall F_wire_Reader_fail #[ptr1 p]) (rdPost p (.tuple #[]) failR) := by
  refine Does.rd fun B' w K base h k => ?_
  refine wire_Reader_fail.up (wire_Reader_fail.call ?_)
  unfold wire_Reader_fail.pt
  simp -zeta only [nil_ptr, field_addr f_wire_Reader_0, Nat.add_zero]
  refine h.st 0 rfl sc_string (show 0 < 2 by omega) rfl fun w1 h => ?_
  simp -zeta only [field_addr f_wire_Reader_1, Nat.zero_add]
  refine h.st 0 rfl sc_bool (show 1 < 2 by omega) rfl fun w2 h => ?_
  exact k _ [] h
theorem toU8 (e : UInt8) : (e.toNat : Int).toNat.toUInt8 = e := by simp
theorem number_d (hB : wireD B) {e : UInt8} (he : isEnd e) {lo : Int} (hs : s.rest.length ≤ 140737488355328) :
    Does Tryz.prog B (rdD p s) (sCall F_wire_Reader_number #[ptr1 p, .int .u8 e.toNat, .int .i64 lo]) (rdPost p (.int .i64 (numR e lo s).1) (numR e lo s).2) := by
  refine Does.rd fun B' w K base h k => ?_
  replace hB := base hB
  refine wire_Reader_number.up (wire_Reader_number.call ?_)
  unfold wire_Reader_number.pt
  have h := h.tick
  have hmin : min ((s.rest.length : Nat) : Int) 21 = ((min s.rest.length 21 : Nat) : Int) := by omega
  simp -zeta only [nil_ptr, field_addr f_wire_Reader_0, Nat.add_zero, h.ld 0 rfl sc_string (o := 0) rfl, str_len U_string, bl_ofL, blt_min, hmin]
  rw [str_cut U_string (lo := 0) (hi := min s.rest.length 21) Bnd.none Bnd.some (Nat.zero_le _) (by rw [ofL_size]; omega)]
  rw [bl_ofL, List.drop_zero]
  have hhead : s.rest.take (min s.rest.length 21) = s.rest.take 21 := by
    rcases Nat.le_total s.rest.length 21 with h1 | h1
    · rw [Nat.min_eq_left h1, List.take_length, List.take_of_length_le h1]
    · rw [Nat.min_eq_right h1]
  rw [hhead]
  refine h.ask (fun B2 own base2 => index_g _ _) fun w1 h => ?_
  rw [toU8, bl_ofL, bin_lss]
  have bad : (∀ n r, s.rest = Go.Lib.itoa n ++ e :: r → lo ≤ n → ¬ inI n) → numR e lo s = (0, failR) := fun hno => by
    unfold numR
    rw [numS_none.2 hno]
  have no : (∀ n r, s.rest = Go.Lib.itoa n ++ e :: r → lo ≤ n → ¬ inI n) → ∀ w', Rel B' w' [rdD p s] → upK Tryz.prog (sCall F_wire_Reader_fail #[ptr1 p]) w' fun _ w2 => K (.int .i64 0) w2 := fun hno w' h => by
    rw [bad hno] at k
    exact h.rd_ 0 rfl (fun B2 own base2 => fail_d) fun w2 h => k _ [] h
  by_cases hmem : e ∈ s.rest.take 21
  · obtain ⟨a, r, hsp, hna⟩ := first_split hmem
    obtain ⟨z, hfull⟩ : ∃ z, s.rest = a ++ e :: z := by
      have h1 : s.rest.take 21 ++ s.rest.drop 21 = s.rest := List.take_append_drop 21 s.rest
      rw [hsp, List.append_assoc, List.cons_append] at h1
      exact ⟨_, h1.symm⟩
    have hal : a.length < s.rest.length := by rw [hfull, List.length_append, List.length_cons]; omega
    have hal2 : a.length < (s.rest.take 21).length := by rw [hsp, List.length_append, List.length_cons]; omega
    have hat : Go.Lib.indexByte (s.rest.take 21) e = a.length := by rw [hsp]; exact index_first r hna
    have htk : ((s.rest.take 21).take a.length).drop 0 = a := by rw [hsp, List.drop_zero, List.take_left]
    rw [hat, decide_eq_false (show ¬ ((a.length : Int) < 0) by omega), ifB_false]
    rw [str_cut U_string (lo := 0) (hi := a.length) Bnd.none Bnd.some (Nat.zero_le _) (by rw [ofL_size]; omega)]
    rw [bl_ofL, htk]
    refine atoi_r hB h (by rw [ofL_size]; omega) fun v w3 hv h => ?_
    have h := h.tick
    rw [bl_ofL] at hv
    rcases hv with ⟨n, hn, rfl⟩ | ⟨hno, n, t, q, rfl⟩
    · have hin := Go.Lib.atoiAll_bounds hn
      simp -zeta only [ext_2_0, ext_2_1, neq_nil_nil (show Tryz.prog.underlying T_error = some (.interface (Tryz.prog.methodsAt T_error)) by kernel_rfl), ifB_false]
      rw [str_cut U_string (lo := 0) (hi := a.length) Bnd.none Bnd.some (Nat.zero_le _) (by rw [ofL_size]; omega), bl_ofL, htk]
      refine h.ask (fun B2 own base2 => itoa_g (base2 hB) hin) fun w5 h => ?_
      rw [neq_str, ifB_not, ifB_dec]
      refine ⟨fun heq => ?_, fun hne => no (fun m r' h1 h2 h3 => ?_) _ h⟩
      · have heq : Go.Lib.itoa n = a := by have := congrArg bl heq; exact this
        rw [bin_lss, ifB_dec]
        refine ⟨fun hlt => no (fun m r' h1 h2 h3 => ?_) _ h, fun hge => ?_⟩
        · rw [hfull] at h1
          obtain ⟨e1, _⟩ := split_first hna (itoa_not he) h1
          have := itoa_inj (heq.trans e1)
          omega
        · have hnum : numR e lo s = (n, ⟨z, s.bad⟩) := by
            unfold numR
            rw [(numS_some he (n := n) (r := z)).2 ⟨by rw [heq]; exact hfull, by omega, hin⟩]
          rw [hnum] at k
          have hw : IntKind.i64.wrap ((a.length : Int) + 1) = ((a.length + 1 : Nat) : Int) := by rw [wrap_id (by omega) (by omega)]; omega
          simp -zeta only [nil_ptr, field_addr f_wire_Reader_0, Nat.add_zero, h.ld 0 rfl sc_string (o := 0) rfl, bin_add, hw]
          rw [str_cut U_string (lo := a.length + 1) (hi := (ofL s.rest).size) Bnd.some Bnd.none (by rw [ofL_size]; omega) (Nat.le_refl _)]
          have hcut : (((bl (ofL s.rest)).take (ofL s.rest).size).drop (a.length + 1)) = z := by
            rw [bl_ofL, ofL_size, List.take_length, hfull]
            have : a ++ e :: z = (a ++ [e]) ++ z := by simp
            rw [this, show a.length + 1 = (a ++ [e]).length by simp, List.drop_left]
          rw [hcut]
          refine h.st 0 rfl sc_string (show 0 < 2 by omega) rfl fun w8 h => ?_
          exact k _ [] h
      · rw [hfull] at h1
        obtain ⟨e1, _⟩ := split_first hna (itoa_not he) h1
        rw [e1, atoi_itoa h3] at hn
        injection hn with hn
        subst hn
        exact hne (by rw [e1])
    · simp -zeta only [ext_2_0, ext_2_1, neq_iface_nil (show Tryz.prog.underlying T_error = some (.interface (Tryz.prog.methodsAt T_error)) by kernel_rfl), ifB_true]
      refine no (fun m r' h1 h2 h3 => ?_) _ h
      rw [hfull] at h1
      obtain ⟨e1, _⟩ := split_first hna (itoa_not he) h1
      exact hno m (by rw [e1]; exact atoi_itoa h3)
  · rw [index_none hmem, decide_eq_true (show (-1 : Int) < 0 by decide), ifB_true]
    refine no (fun n r h1 h2 h3 => hmem ?_) _ h
    rw [h1, List.take_append]
    have := itoa_len h3
    refine List.mem_append.2 (.inr ?_)
    obtain ⟨m, hm⟩ : ∃ m, 21 - (Go.Lib.itoa n).length = m + 1 := ⟨20 - (Go.Lib.itoa n).length, by omega⟩
    rw [hm, List.take_succ_cons]
    exact List.mem_cons_self
theorem close_d {e : UInt8} (hs : s.rest.length ≤ 140737488355328) : Does Tryz.prog B (rdD p s) (sCall F_wire_Reader_close #[ptr1 p, .string (ofL [e])]) (rdPost p (.tuple #[]) (closeR e s)) := by
  refine Does.rd fun B' w K base h k => ?_
  refine wire_Reader_close.up (wire_Reader_close.call ?_)
  unfold wire_Reader_close.pt
  simp -zeta only [nil_ptr, field_addr f_wire_Reader_0, Nat.add_zero, h.ld 0 rfl sc_string (o := 0) rfl]
  refine h.ask (fun B2 own base2 => cut_g _ _) fun w1 h => ?_
  simp -zeta only [ext_2_0, ext_2_1, bl_ofL]
  have hc : (Go.Lib.hasPrefix s.rest [e] = true ∧ closeR e s = ⟨Go.Lib.trimPrefix s.rest [e], s.bad⟩) ∨ (Go.Lib.hasPrefix s.rest [e] = false ∧ closeR e s = failR) := by
    unfold Go.Lib.trimPrefix Go.Lib.hasPrefix closeR
    cases s.rest with
    | nil => exact .inr ⟨rfl, rfl⟩
    | cons x r =>
      by_cases hx : x = e
      · subst hx; left; simp
      · right
        have : ¬ e = x := fun hh => hx hh.symm
        simp [List.isPrefixOf, hx, this]
  refine h.st 0 rfl sc_string (show 0 < 2 by omega) rfl fun w2 h => ?_
  rcases hc with ⟨h1, h2⟩ | ⟨h1, h2⟩
  · rw [h1, un_not, Bool.not_true, ifB_false]
    rw [h2] at k
    exact k _ [] h
  · rw [h1, un_not, Bool.not_false, ifB_true]
    rw [h2] at k
    have h : Rel B' w2 [rdD p ⟨Go.Lib.trimPrefix s.rest [e], s.bad⟩] := h
    exact h.rd_ 0 rfl (fun B2 own base2 => fail_d) fun w3 h => k _ [] h
theorem rNum_d (hB : wireD B) (hs : s.rest.length ≤ 140737488355328) : Does Tryz.prog B (rdD p s) (sCall F_wire_Reader_Num #[ptr1 p]) (rdPost p (.int .i64 (natR s).1) (natR s).2) := by
  refine Does.rd fun B' w K base h k => ?_
  refine wire_Reader_Num.up (wire_Reader_Num.call ?_)
  unfold wire_Reader_Num.pt
  exact h.rd_ 0 rfl (fun B2 own base2 => number_d (e := 59) (base2 (base hB)) (.inl rfl) hs) fun w1 h => k _ [] h
theorem rInt_d (hB : wireD B) (hs : s.rest.length ≤ 140737488355328) : Does Tryz.prog B (rdD p s) (sCall F_wire_Reader_Int #[ptr1 p]) (rdPost p (.int .i64 (intR s).1) (intR s).2) := by
  refine Does.rd fun B' w K base h k => ?_
  refine wire_Reader_Int.up (wire_Reader_Int.call ?_)
  unfold wire_Reader_Int.pt
  exact h.rd_ 0 rfl (fun B2 own base2 => number_d (e := 59) (base2 (base hB)) (.inl rfl) hs) fun w1 h => k _ [] h
theorem numR_le {e : UInt8} (he : isEnd e) (lo : Int) (s : RS) : (numR e lo s).2.rest.length ≤ s.rest.length ∧ inI (numR e lo s).1 ∧ (0 ≤ lo → 0 ≤ (numR e lo s).1) := by
  rcases numR_cases he lo s with ⟨n, r, e1, e2, e3, e4⟩ | ⟨_, e4⟩ <;> rw [e4]
  · refine ⟨?_, e3, fun h => by show 0 ≤ n; omega⟩
    rw [e1, List.length_append, List.length_cons]
    show r.length ≤ _
    omega
  · exact ⟨Nat.zero_le _, by show inI 0; exact ⟨by decide, by decide⟩, fun _ => Int.le_refl 0⟩
theorem rText_d (hB : wireD B) (hs : s.rest.length ≤ 140737488355328) : Does Tryz.prog B (rdD p s) (sCall F_wire_Reader_Text #[ptr1 p]) (rdPost p (.string (ofL (textR s).1)) (textR s).2) := by
  refine Does.rd fun B' w K base h k => ?_
  replace hB := base hB
  refine wire_Reader_Text.up (wire_Reader_Text.call ?_)
  unfold wire_Reader_Text.pt
  refine h.rd_ 0 rfl (fun B2 own base2 => number_d (e := 58) (base2 hB) (.inr (.inl rfl)) hs) fun w1 h => ?_
  obtain ⟨hle, hin, h0⟩ := numR_le (.inr (.inl rfl) : isEnd 58) 0 s
  have h0 := h0 (Int.le_refl 0)
  unfold textR at k
  generalize numR 58 0 s = q at h k hle hin h0
  obtain ⟨n, s1⟩ := q
  have h : Rel B' w1 [rdD p s1] := h
  simp only at hle hin h0 k ⊢
  simp -zeta only [nil_ptr, field_addr f_wire_Reader_0, Nat.add_zero, h.ld 0 rfl sc_string (o := 0) rfl, str_len U_string, bl_ofL, bin_gtr, ifB_dec]
  refine ⟨fun c => ?_, fun c => ?_⟩
  · rw [if_pos c] at k
    exact h.rd_ 0 rfl (fun B2 own base2 => fail_d) fun w2 h => k _ [] h
  · rw [if_neg c] at k
    obtain ⟨m, rfl⟩ : ∃ m : Nat, n = m := ⟨n.toNat, by omega⟩
    rw [str_cut U_string (lo := 0) (hi := m) Bnd.none Bnd.some (Nat.zero_le _) (by rw [ofL_size]; omega)]
    rw [str_cut U_string (lo := m) (hi := (ofL s1.rest).size) Bnd.some Bnd.none (by rw [ofL_size]; omega) (Nat.le_refl _)]
    rw [bl_ofL, ofL_size, List.take_length, List.drop_zero]
    refine h.st 0 rfl sc_string (show 0 < 2 by omega) rfl fun w3 h => ?_
    have h : Rel B' w3 [rdD p ⟨s1.rest.drop m, s1.bad⟩] := h
    refine h.rd_ 0 rfl (fun B2 own base2 => close_d (e := 44) (by show (s1.rest.drop m).length ≤ _; rw [List.length_drop]; omega)) fun w4 h => ?_
    simp only [Int.toNat_natCast] at k
    have h : Rel B' w4 [rdD p (closeR 44 ⟨s1.rest.drop m, s1.bad⟩)] := h
    simp -zeta only [nil_ptr, field_addr f_wire_Reader_1, Nat.zero_add, h.ld 0 rfl sc_bool (o := 1) rfl]
    rw [ifB_bool]
    refine ⟨fun c2 => ?_, fun c2 => ?_⟩
    · rw [if_pos c2] at k; exact k _ [] h
    · rw [if_neg (by rw [c2]; decide)] at k; exact k _ [] h
theorem empty_str : (⟨#[]⟩ : ByteArray) = ofL [] := rfl
theorem eql_ofL {P : Program} {T : TypeId} {xo yo : Operand} {a b : Bs} {K : Value → Prop} : pureK P (sBin .eql T xo yo (.string (ofL a)) (.string (ofL b))) K = K (.bool (decide (a = b))) := by
  rw [eql_str]
  congr 2
  exact decide_eq_decide.2 ⟨fun h => congrArg bl h, fun h => by rw [h]⟩
def doneR (s : RS) : Bool := !s.bad && decide (s.rest = [])
theorem rDone_g (hc : rdD p s B) : Gives Tryz.prog B (sCall F_wire_Reader_Done #[ptr1 p]) (.bool (doneR s)) := by
  refine Gives.intro fun B' w K base h k => ?_
  replace hc := base hc
  refine wire_Reader_Done.up (wire_Reader_Done.call ?_)
  unfold wire_Reader_Done.pt
  simp -zeta only [nil_ptr, field_addr f_wire_Reader_0, field_addr f_wire_Reader_1, Nat.zero_add, Nat.add_zero, cellD.ld (h.hereB hc) sc_string (o := 0) rfl, cellD.ld (h.hereB hc) sc_bool (o := 1) rfl, un_not, ifB_not, ifB_bool, empty_str, eql_ofL]
  unfold doneR at k
  refine ⟨fun c => ?_, fun c => ?_⟩
  · rw [c] at k; exact k _ _ h
  · rw [c] at k; exact k _ _ h
theorem open_m {t : Bs} : Makes Tryz.prog B (sCall F_wire_Open #[.string (ofL t)]) fun u τ => ∃ p, u = ptr1 p ∧ τ = [rdD p ⟨t, false⟩] := by
  refine Makes.intro fun B' w K base h k => ?_
  refine wire_Open.up (wire_Open.call ?_)
  unfold wire_Open.pt
  rw [bd_wire_Reader_0]
  refine h.box fun b w1 h => ?_
  exact k _ _ _ ⟨b, rfl, rfl⟩ h
end
end Go.Proofs.YtoebncgnjbblgaaGreatDoor
