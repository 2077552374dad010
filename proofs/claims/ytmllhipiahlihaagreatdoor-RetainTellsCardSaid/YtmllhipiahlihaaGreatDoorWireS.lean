/-
  Chapter 01's reference: the reader. No condition.
-/
import Derived.Test.YtmllhipiahlihaaGreatDoorWireR
import Derived.Test.YtmllhipiahlihaaGreatDoorWireX
--@auto
namespace Go.Proofs.YtmllhipiahlihaaGreatDoor
open Go.RowKit
set_option maxRecDepth 100000

abbrev rfD (p : Nat) (s : RS) : Dat := cellD p T_errataref01_Reader (rdC s)
def rfPost (p : Nat) (v : Value) (s : RS) : Value → Dat → List Dat → Prop := fun u e' τ => u = v ∧ e' = rfD p s ∧ τ = []
section
variable {B : Base} {w : World} {σ : List Dat} {p : Nat} {s : RS}
theorem Does.rf {sem : Sem Next} {v : Value} {s' : RS} (h : ∀ (B' : Base) (w : World) (K : Value → World → Prop), (∀ {d : Dat}, d B → d B') → Rel B' w [rfD p s] → (∀ w' τ, Rel B' w' (rfD p s' :: τ) → K v w') → upK Tryz.prog sem w K) : Does Tryz.prog B (rfD p s) sem (rfPost p v s') := by
  refine Does.intro fun B' w K base h' k => ?_
  refine h B' w K base h' fun w' τ h2 => k v _ [] w' ⟨rfl, rfl, rfl⟩ ?_
  have h3 : Rel B' w' ([rfD p s'] ++ τ) := h2
  exact h3.drop
theorem Rel.rf_ (h : Rel B w σ) (i : Nat) (hi : σ[i]? = some (rfD p s)) {sem : Sem Next} {v : Value} {s' : RS} {K : Value → World → Prop} (G : ∀ B' : Base, (∀ {j : Nat} {d : Dat}, j ≠ i → σ[j]? = some d → d B') → (∀ {d : Dat}, d B → d B') → Does Tryz.prog B' (rfD p s) sem (rfPost p v s'))
    (k : ∀ w', Rel B w' (σ.set i (rfD p s')) → K v w') : upK Tryz.prog sem w K := by
  refine h.act i hi G fun u e' τ w' hp h2 => ?_
  obtain ⟨rfl, rfl, rfl⟩ := hp
  rw [List.append_nil] at h2
  exact k _ h2
theorem ffail_d : Does Tryz.prog B (rfD p s) (sCall F_errataref01_Reader_fail #[ptr1 p]) (rfPost p (.int .i64 0) failR) := by
  refine Does.rf fun B' w K base h k => ?_
  refine errataref01_Reader_fail.up (errataref01_Reader_fail.call ?_)
  unfold errataref01_Reader_fail.pt
  simp -zeta only [nil_ptr, field_addr f_errataref01_Reader_0, Nat.add_zero]
  refine h.st 0 rfl sc_string (show 0 < 2 by omega) rfl fun w1 h => ?_
  simp -zeta only [field_addr f_errataref01_Reader_1, Nat.zero_add]
  refine h.st 0 rfl sc_bool (show 1 < 2 by omega) rfl fun w2 h => ?_
  exact k _ [] h
theorem u8_eq {a b : UInt8} : ((a.toNat : Nat) : Int) = (b.toNat : Int) ↔ a = b := ⟨fun h => UInt8.toNat_inj.1 (by omega), fun h => by rw [h]⟩
theorem fclose_d {e : UInt8} (hsn : Sane s) (hs : s.rest.length ≤ 140737488355328) : Does Tryz.prog B (rfD p s) (sCall F_errataref01_Reader_close #[ptr1 p, .int .u8 e.toNat]) (rfPost p (.bool (!(closeR e s).bad)) (closeR e s)) := by
  refine Does.rf fun B' w K base h k => ?_
  refine errataref01_Reader_close.up (errataref01_Reader_close.call ?_)
  unfold errataref01_Reader_close.pt
  have bad : closeR e s = failR → ∀ w', Rel B' w' [rfD p s] → upK Tryz.prog (sCall F_errataref01_Reader_fail #[ptr1 p]) w' fun _ w1 => K (.bool false) w1 := fun hc w' h => by
    rw [hc] at k
    exact h.rf_ 0 rfl (fun B2 own base2 => ffail_d) fun w2 h => k _ [] h
  simp -zeta only [nil_ptr, field_addr f_errataref01_Reader_0, Nat.add_zero, h.ld 0 rfl sc_string (o := 0) rfl, str_len U_string, bl_ofL, bin_eql, ifB_dec]
  refine ⟨fun c => ?_, fun c => ?_⟩
  · have hn : s.rest = [] := List.eq_nil_of_length_eq_zero (by omega)
    exact bad (by unfold closeR; rw [hn]) _ h
  · have h0 : 0 < s.rest.length := by omega
    have hi : ∀ {Kp : Value → Prop}, pureK Tryz.prog (sIdx T_string (.string (ofL s.rest)) (.int .i64 0)) Kp = Kp (.int .u8 s.rest[0].toNat) := fun {Kp} => str_idx (P := Tryz.prog) (Kp := Kp) U_string (show 0 < (ofL s.rest).size by rw [ofL_size]; exact h0)
    simp -zeta only [hi, bin_neq, ifB_not, ifB_dec, u8_eq]
    obtain ⟨x, r, hr⟩ : ∃ x r, s.rest = x :: r := by
      cases hr : s.rest with
      | nil => rw [hr] at h0; exact absurd h0 (Nat.lt_irrefl 0)
      | cons x r => exact ⟨x, r, rfl⟩
    have hx : s.rest[0] = x := by simp [hr]
    rw [hx]
    refine ⟨fun c1 => ?_, fun c1 => bad (by unfold closeR; rw [hr]; simp [c1]) _ h⟩
    have hb : s.bad = false := by
      cases hb : s.bad
      · rfl
      · have := hsn hb; rw [this] at hr; cases hr
    have hcl : closeR e s = ⟨r, s.bad⟩ := by unfold closeR; rw [hr]; simp [c1]
    rw [hcl] at k
    have k : ∀ w' τ, Rel B' w' (rfD p ⟨r, s.bad⟩ :: τ) → K (.bool (!s.bad)) w' := k
    rw [hb] at k
    have hcut := str_cut (P := Tryz.prog) (s := ofL s.rest) U_string (lo := 1) (hi := (ofL s.rest).size) (lov := some (.int .i64 1)) (hiv := none) (Kp := fun t27 => pureK Tryz.prog (sNil (ptr1 p)) fun t28 => pureK Tryz.prog (sFieldAddr T_errataref01_Reader t28 0) fun t29 => upK Tryz.prog (sStore T_string t29 t27) w fun _ w3 => K (.bool true) w3) Bnd.some Bnd.none (by rw [ofL_size]; omega) (Nat.le_refl _)
    have hdr : (((bl (ofL s.rest)).take (ofL s.rest).size).drop 1) = r := by
      rw [bl_ofL, ofL_size, List.take_length, hr]; rfl
    rw [hdr] at hcut
    simp -zeta only [nil_ptr, field_addr f_errataref01_Reader_0, Nat.add_zero] at hcut
    rw [hcut]
    refine h.st 0 rfl sc_string (show 0 < 2 by omega) rfl fun w3 h => ?_
    rw [← hb] at k
    have := k w3 [] h
    rw [hb] at this
    exact this
set_option maxHeartbeats 1000000 in
theorem fahead_d {e : UInt8} (he : isEnd e) (hs : s.rest.length ≤ 140737488355328) : Does Tryz.prog B (rfD p s) (sCall F_errataref01_Reader_ahead #[ptr1 p, .int .u8 e.toNat]) (rfPost p (.int .i64 (numR e minI s).1) (numR e minI s).2) := by
  refine Does.rf fun B' w K base h k => ?_
  refine errataref01_Reader_ahead.up (errataref01_Reader_ahead.call ?_)
  unfold errataref01_Reader_ahead.pt
  have bad : (∀ m r, s.rest = Go.Lib.itoa m ++ e :: r → ¬ inI m) → ∀ w', Rel B' w' [rfD p s] → upK Tryz.prog (sCall F_errataref01_Reader_fail #[ptr1 p]) w' fun t w1 => K t w1 := fun hno w' h => by
    have hc : numR e minI s = (0, failR) := by
      unfold numR
      rw [numS_none.2 fun m r h1 _ h3 => hno m r h1 h3]
    rw [hc] at k
    exact h.rf_ 0 rfl (fun B2 own base2 => ffail_d) fun w2 h => k _ [] h
  have atE : ∀ m r, s.rest = Go.Lib.itoa m ++ e :: r → ∃ hj : (Go.Lib.itoa m).length < s.rest.length, s.rest[(Go.Lib.itoa m).length] = e := fun m r h1 => by
    have hj : (Go.Lib.itoa m).length < s.rest.length := by rw [h1, List.length_append, List.length_cons]; omega
    refine ⟨hj, ?_⟩
    have : s.rest[(Go.Lib.itoa m).length]? = some e := by
      rw [h1, List.getElem?_append_right (Nat.le_refl _), Nat.sub_self]
      rfl
    rw [List.getElem?_eq_getElem hj] at this
    injection this
  have hidx : ∀ {n : Nat} (hn : n < s.rest.length) {Kp : Value → Prop}, pureK Tryz.prog (sIdx T_string (.string (ofL s.rest)) (.int .i64 n)) Kp = Kp (.int .u8 s.rest[n].toNat) := fun {n} hn {Kp} => str_idx (P := Tryz.prog) (Kp := Kp) U_string (show n < (ofL s.rest).size by rw [ofL_size]; exact hn)
  refine LETJ_intro fun J1 hJ1 => ?_
  replace hJ1 : ∀ n : Nat, n ≤ s.rest.length → n ≤ 21 → (∀ j (hj : j < s.rest.length), j < n → s.rest[j] ≠ e) → (n = s.rest.length ∨ n = 21 ∨ (∃ h : n < s.rest.length, s.rest[n] = e)) → ∀ w', Rel B' w' [rfD p s] → J1 (.int .i64 n, ()) w' := by
    intro n hn h21 hno hstop w' h
    refine hJ1 _ _ ?_
    clear hJ1
    simp -zeta only [nil_ptr, field_addr f_errataref01_Reader_0, Nat.add_zero, h.ld 0 rfl sc_string (o := 0) rfl, str_len U_string, bl_ofL, bin_geq, ifB_dec]
    refine ⟨fun c => bad (fun m r h1 h3 => ?_) _ h, fun c => ?_⟩
    · obtain ⟨hj, he1⟩ := atE m r h1
      exact hno _ hj (by omega) he1
    have hil : n < s.rest.length := by omega
    simp -zeta only [hidx hil, bin_neq, ifB_not, ifB_dec, u8_eq]
    refine ⟨fun c1 => ?_, fun c1 => bad (fun m r h1 h3 => ?_) _ h⟩
    case refine_2 =>
      obtain ⟨hj, he1⟩ := atE m r h1
      have hl := itoa_len h3
      have hn21 : n = 21 := by
        rcases hstop with h4 | h4 | ⟨h4, h5⟩
        · omega
        · exact h4
        · exact absurd h5 c1
      exact hno _ hj (by omega) he1
    have hsp : s.rest = s.rest.take n ++ e :: s.rest.drop (n + 1) := by
      rw [← c1, List.getElem_cons_drop, List.take_append_drop]
    have hna : e ∉ s.rest.take n := fun hm => by
      obtain ⟨j, hj, hje⟩ := List.mem_take_iff_getElem.1 hm
      exact hno j (by omega) (by omega) hje
    rw [str_cut U_string (lo := 0) (hi := n) Bnd.none Bnd.some (Nat.zero_le _) (by rw [ofL_size]; omega), bl_ofL, List.drop_zero]
    refine back_r (by rw [List.length_take]; omega) h fun v ok w4 hv h => ?_
    simp -zeta only [ext_2_0, ext_2_1]
    rw [un_not, ifB_not, ifB_bool]
    refine ⟨fun c2 => ?_, fun c2 => bad (fun m r h1 h3 => ?_) _ h⟩
    case refine_2 =>
      have h1' := hsp.symm.trans h1
      obtain ⟨h4, _⟩ := split_first hna (itoa_not he) h1'
      have := (hv.2 m h3 h4).1
      rw [c2] at this
      cases this
    obtain ⟨h4, h5⟩ := hv.1 c2
    have hnum : numR e minI s = (v, ⟨s.rest.drop (n + 1), s.bad⟩) := by
      unfold numR
      rw [(numS_some he (n := v) (r := s.rest.drop (n + 1))).2 ⟨by rw [← h4]; exact hsp, h5.1, h5⟩]
    rw [hnum] at k
    have hw : IntKind.i64.wrap ((n : Int) + 1) = ((n + 1 : Nat) : Int) := by rw [wrap_id (by omega) (by omega)]; omega
    simp -zeta only [nil_ptr, field_addr f_errataref01_Reader_0, Nat.add_zero, h.ld 0 rfl sc_string (o := 0) rfl, bin_add, hw]
    rw [str_cut U_string (lo := n + 1) (hi := (ofL s.rest).size) Bnd.some Bnd.none (by rw [ofL_size]; omega) (Nat.le_refl _)]
    have hcut : (((bl (ofL s.rest)).take (ofL s.rest).size).drop (n + 1)) = s.rest.drop (n + 1) := by
      rw [bl_ofL, ofL_size, List.take_length]
    rw [hcut]
    refine h.st 0 rfl sc_string (show 0 < 2 by omega) rfl fun w8 h => ?_
    exact k _ [] h
  refine LOOP_intro (fun x w' => ∃ n : Nat, n ≤ s.rest.length ∧ n ≤ 21 ∧ x = (.int .i64 n, ()) ∧ (∀ j (hj : j < s.rest.length), j < n → s.rest[j] ≠ e) ∧ Rel B' w' [rfD p s]) (fun x _ => s.rest.length - (match x.1 with | .int _ n => n.toNat | _ => 0))
    ⟨0, Nat.zero_le _, Nat.zero_le _, rfl, fun j _ hj => absurd hj (Nat.not_lt_zero j), h⟩ ?_
  clear h
  rintro x w2 ⟨n, hn, h21, rfl, hno, h⟩ next hnext
  simp -zeta only [nil_ptr, field_addr f_errataref01_Reader_0, Nat.add_zero, h.ld 0 rfl sc_string (o := 0) rfl, str_len U_string, bl_ofL, bin_lss, ifB_dec]
  refine ⟨fun c => ⟨fun c1 => ?_, fun c1 => hJ1 n hn h21 hno (.inr (.inl (by omega))) _ h⟩, fun c => hJ1 n hn h21 hno (.inl (by omega)) _ h⟩
  have hil : n < s.rest.length := by omega
  simp -zeta only [hidx hil, bin_neq, ifB_not, ifB_dec, u8_eq]
  refine ⟨fun c2 => hJ1 n hn h21 hno (.inr (.inr ⟨hil, c2⟩)) _ h, fun c2 => ?_⟩
  rw [bin_add, wrap_id (by omega) (by omega)]
  refine hnext _ _ ⟨n + 1, hil, by omega, rfl, fun j hj h1 => ?_, h⟩ (by simp only; omega)
  by_cases ej : j = n
  · subst ej; exact c2
  · exact hno j hj (by omega)
theorem fnumber_d {e : UInt8} (he : isEnd e) (hs : s.rest.length ≤ 140737488355328) : Does Tryz.prog B (rfD p s) (sCall F_errataref01_Reader_number #[ptr1 p, .int .u8 e.toNat]) (rfPost p (.int .i64 (numR e 0 s).1) (numR e 0 s).2) := by
  refine Does.rf fun B' w K base h k => ?_
  refine errataref01_Reader_number.up (errataref01_Reader_number.call ?_)
  unfold errataref01_Reader_number.pt
  refine h.rf_ 0 rfl (fun B2 own base2 => fahead_d he hs) fun w1 h => ?_
  rw [numR_zero he] at k
  rw [bin_lss, ifB_dec]
  refine ⟨fun c => ?_, fun c => ?_⟩
  · rw [if_pos c] at k
    exact h.rf_ 0 rfl (fun B2 own base2 => ffail_d) fun w2 h => k _ [] h
  · rw [if_neg c] at k
    exact k _ [] h
theorem fNumR_d (hs : s.rest.length ≤ 140737488355328) : Does Tryz.prog B (rfD p s) (sCall F_errataref01_Reader_Num #[ptr1 p]) (rfPost p (.int .i64 (natR s).1) (natR s).2) := by
  refine Does.rf fun B' w K base h k => ?_
  refine errataref01_Reader_Num.up (errataref01_Reader_Num.call ?_)
  unfold errataref01_Reader_Num.pt
  exact h.rf_ 0 rfl (fun B2 own base2 => fnumber_d (e := 59) (.inl rfl) hs) fun w1 h => k _ [] h
theorem fIntR_d (hs : s.rest.length ≤ 140737488355328) : Does Tryz.prog B (rfD p s) (sCall F_errataref01_Reader_Int #[ptr1 p]) (rfPost p (.int .i64 (intR s).1) (intR s).2) := by
  refine Does.rf fun B' w K base h k => ?_
  refine errataref01_Reader_Int.up (errataref01_Reader_Int.call ?_)
  unfold errataref01_Reader_Int.pt
  exact h.rf_ 0 rfl (fun B2 own base2 => fahead_d (e := 59) (.inl rfl) hs) fun w1 h => k _ [] h
theorem fTextR_d (hsn : Sane s) (hs : s.rest.length ≤ 140737488355328) : Does Tryz.prog B (rfD p s) (sCall F_errataref01_Reader_Text #[ptr1 p]) (rfPost p (.string (ofL (textR s).1)) (textR s).2) := by
  refine Does.rf fun B' w K base h k => ?_
  refine errataref01_Reader_Text.up (errataref01_Reader_Text.call ?_)
  unfold errataref01_Reader_Text.pt
  refine h.rf_ 0 rfl (fun B2 own base2 => fnumber_d (e := 58) (.inr (.inl rfl)) hs) fun w1 h => ?_
  obtain ⟨hle, hin, h0⟩ := numR_le (.inr (.inl rfl) : isEnd 58) 0 s
  have h0 := h0 (Int.le_refl 0)
  have hs1 := numR_sane (.inr (.inl rfl) : isEnd 58) (lo := 0) hsn
  have hfl := textR_fail (s := s) (n := (numR 58 0 s).1) (s1 := (numR 58 0 s).2) rfl
  have htx : ¬ ((numR 58 0 s).2.rest.length : Int) < (numR 58 0 s).1 → textR s = (if (closeR 44 ⟨(numR 58 0 s).2.rest.drop (numR 58 0 s).1.toNat, (numR 58 0 s).2.bad⟩).bad = true then [] else (numR 58 0 s).2.rest.take (numR 58 0 s).1.toNat, closeR 44 ⟨(numR 58 0 s).2.rest.drop (numR 58 0 s).1.toNat, (numR 58 0 s).2.bad⟩) := fun c => by
    unfold textR
    simp only
    rw [if_neg c]
  generalize numR 58 0 s = q at h hle hin h0 hs1 hfl htx
  obtain ⟨n, s1⟩ := q
  have h : Rel B' w1 [rfD p s1] := h
  simp only at hle hin h0 hs1 hfl htx ⊢
  have bad : (s1.rest = [] ∨ (s1.rest.length : Int) ≤ n) → ∀ w', Rel B' w' [rfD p s1] → upK Tryz.prog (sCall F_errataref01_Reader_fail #[ptr1 p]) w' fun _ w1 => K (.string ⟨#[]⟩) w1 := fun hc w' h => by
    rw [hfl hc] at k
    exact h.rf_ 0 rfl (fun B2 own base2 => ffail_d) fun w2 h => k _ [] h
  simp -zeta only [nil_ptr, field_addr f_errataref01_Reader_0, field_addr f_errataref01_Reader_1, Nat.add_zero, Nat.zero_add, h.ld 0 rfl sc_string (o := 0) rfl, h.ld 0 rfl sc_bool (o := 1) rfl, str_len U_string, bl_ofL, bin_geq]
  rw [ifB_bool]
  refine ⟨fun c => bad (.inl (hs1 c)) _ h, fun c0 => ?_⟩
  rw [ifB_dec]
  refine ⟨fun c => bad (.inr c) _ h, fun c => ?_⟩
  have htx := htx (by omega)
  rw [htx] at k
  obtain ⟨m, rfl⟩ : ∃ m : Nat, n = m := ⟨n.toNat, by omega⟩
  rw [str_cut U_string (lo := 0) (hi := m) Bnd.none Bnd.some (Nat.zero_le _) (by rw [ofL_size]; omega)]
  rw [str_cut U_string (lo := m) (hi := (ofL s1.rest).size) Bnd.some Bnd.none (by rw [ofL_size]; omega) (Nat.le_refl _)]
  rw [bl_ofL, ofL_size, List.take_length, List.drop_zero]
  refine h.st 0 rfl sc_string (show 0 < 2 by omega) rfl fun w3 h => ?_
  have h : Rel B' w3 [rfD p ⟨s1.rest.drop m, s1.bad⟩] := h
  refine h.rf_ 0 rfl (fun B2 own base2 => fclose_d (e := 44) (sane_drop hs1 m) (by show (s1.rest.drop m).length ≤ _; rw [List.length_drop]; omega)) fun w4 h => ?_
  simp only [Int.toNat_natCast] at k
  have h : Rel B' w4 [rfD p (closeR 44 ⟨s1.rest.drop m, s1.bad⟩)] := h
  rw [un_not, Bool.not_not, ifB_bool]
  refine ⟨fun c2 => ?_, fun c2 => ?_⟩
  · rw [if_pos c2] at k; exact k _ [] h
  · rw [if_neg (by rw [c2]; decide)] at k; exact k _ [] h
theorem fDone_g (hc : rfD p s B) : Gives Tryz.prog B (sCall F_errataref01_Reader_Done #[ptr1 p]) (.bool (doneR s)) := by
  refine Gives.intro fun B' w K base h k => ?_
  replace hc := base hc
  refine errataref01_Reader_Done.up (errataref01_Reader_Done.call ?_)
  unfold errataref01_Reader_Done.pt
  simp -zeta only [nil_ptr, field_addr f_errataref01_Reader_0, field_addr f_errataref01_Reader_1, Nat.zero_add, Nat.add_zero, cellD.ld (h.hereB hc) sc_string (o := 0) rfl, cellD.ld (h.hereB hc) sc_bool (o := 1) rfl, un_not, ifB_not, ifB_bool, empty_str, eql_ofL]
  unfold doneR at k
  refine ⟨fun c => ?_, fun c => ?_⟩
  · rw [c] at k; exact k _ _ h
  · rw [c] at k; exact k _ _ h
theorem fopen_m {t : Bs} : Makes Tryz.prog B (sCall F_errataref01_Open #[.string (ofL t)]) fun u τ => ∃ p, u = ptr1 p ∧ τ = [rfD p ⟨t, false⟩] := by
  refine Makes.intro fun B' w K base h k => ?_
  refine errataref01_Open.up (errataref01_Open.call ?_)
  unfold errataref01_Open.pt
  rw [bd_errataref01_Reader_0]
  refine h.box fun b w1 h => ?_
  exact k _ _ _ ⟨b, rfl, rfl⟩ h
end
end Go.Proofs.YtmllhipiahlihaaGreatDoor
