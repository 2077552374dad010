/-
  Chapter 01's reference: the reader. No condition.
-/
import Derived.Test.YtdecfgbdppfmcaaGreatDoorWireR
import Derived.Test.YtdecfgbdppfmcaaGreatDoorWireX
--@auto
namespace Go.Proofs.YtdecfgbdppfmcaaGreatDoor
open Go.RowKit
set_option maxRecDepth 100000

abbrev rfD (p : Nat) (s : RS) : Dat := cellD p T_errataref01_Reader (rdC s)
def rfPost (p : Nat) (v : Value) (s : RS) : Value → Dat → List Dat → Prop := fun u e' τ => u = v ∧ e' = rfD p s ∧ τ = []
section
variable {B : Base} {w : World} {σ : List Dat} {p : Nat} {s : RS}
theorem Does.rf {sem : Sem Next} {v : Value} {s' : RS} (h : ∀ (B' : Base) (w : World) (K : Value → World → Prop), (∀ {d : Dat}, d B → d B') → Rel B' w [rfD p s] → (∀ w' τ, Rel B' w' (rfD p s' :: τ) → K v w') → upK Tryz.prog sem w K) : Does Tryz.prog B (rfD p s) sem (rfPost p v s') := by
  refine Does.intro fun B' w K base h' k => ?_
  refine h B' w K base h' fun w' τ h2 => k v _ [] w' ⟨rfl, rfl, rfl⟩ ?_
  have h3 : Rel B' w' ([rfD p s'] ++ τ) := h2
  exact h3.drop
theorem Rel.rf_ (h : Rel B w σ) (i : Nat) (hi : σ[i]? = some (rfD p s)) {sem : Sem Next} {v : Value} {s' : RS} {K : Value → World → Prop} (G : ∀ B' : Base, (∀ {j : Nat} {d : Dat}, j ≠ i → σ[j]? = some d → d B') → (∀ {d : Dat}, d B → d B') → Does Tryz.prog B' (rfD p s) sem (rfPost p v s'))
    (k : ∀ w', Rel B w' (σ.set i (rfD p s')) → K v w') : upK Tryz.prog sem w K := by
  refine h.act i hi G fun u e' τ w' hp h2 => ?_
  obtain ⟨rfl, rfl, rfl⟩ := hp
  rw [List.append_nil] at h2
  exact k _ h2
theorem ffail_d : Does Tryz.prog B (rfD p s) (sCall F_errataref01_Reader_fail #[ptr1 p]) (rfPost p (.int .i64 0) failR) := by
  refine Does.rf fun B' w K base h k => ?_
  refine errataref01_Reader_fail.up (errataref01_Reader_fail.call ?_)
  unfold errataref01_Reader_fail.pt
  simp -zeta only [nil_ptr, field_addr f_errataref01_Reader_0, Nat.add_zero]
  refine h.st 0 rfl sc_string (show 0 < 2 by omega) rfl fun w1 h => ?_
  simp -zeta only [field_addr f_errataref01_Reader_1, Nat.zero_add]
  refine h.st 0 rfl sc_bool (show 1 < 2 by omega) rfl fun w2 h => ?_
  exact k _ [] h
theorem u8_eq {a b : UInt8} : ((a.toNat : Nat) : Int) = (b.toNat : Int) ↔ a = b := ⟨fun h => UInt8.toNat_inj.1 (by omega), fun h => by rw [h]⟩
set_option maxHeartbeats 1000000 in
theorem fahead_d {e : UInt8} (he : isEnd e) (hs : s.rest.length ≤ 140737488355328) : Does Tryz.prog B (rfD p s) (sCall F_errataref01_Reader_ahead #[ptr1 p, .int .u8 e.toNat]) (rfPost p (.int .i64 (numR e minI s).1) (numR e minI s).2) := by
  refine Does.rf fun B' w K base h k => ?_
  refine errataref01_Reader_ahead.up (errataref01_Reader_ahead.call ?_)
  unfold errataref01_Reader_ahead.pt
  have bad : (∀ m r, s.rest = Go.Lib.itoa m ++ e :: r → ¬ inI m) → ∀ w', Rel B' w' [rfD p s] → upK Tryz.prog (sCall F_errataref01_Reader_fail #[ptr1 p]) w' fun t w1 => K t w1 := fun hno w' h => by
    have hc : numR e minI s = (0, failR) := by
      unfold numR
      rw [numS_none.2 fun m r h1 _ h3 => hno m r h1 h3]
    rw [hc] at k
    exact h.rf_ 0 rfl (fun B2 own base2 => ffail_d) fun w2 h => k _ [] h
  have atE : ∀ m r, s.rest = Go.Lib.itoa m ++ e :: r → ∃ hj : (Go.Lib.itoa m).length < s.rest.length, s.rest[(Go.Lib.itoa m).length] = e := fun m r h1 => by
    have hj : (Go.Lib.itoa m).length < s.rest.length := by rw [h1, List.length_append, List.length_cons]; omega
    refine ⟨hj, ?_⟩
    have : s.rest[(Go.Lib.itoa m).length]? = some e := by
      rw [h1, List.getElem?_append_right (Nat.le_refl _), Nat.sub_self]
      rfl
    rw [List.getElem?_eq_getElem hj] at this
    injection this
  have hidx : ∀ {n : Nat} (hn : n < s.rest.length) {Kp : Value → Prop}, pureK Tryz.prog (sIdx T_string (.string (ofL s.rest)) (.int .i64 n)) Kp = Kp (.int .u8 s.rest[n].toNat) := fun {n} hn {Kp} => str_idx (P := Tryz.prog) (Kp := Kp) U_string (show n < (ofL s.rest).size by rw [ofL_size]; exact hn)
  refine LETJ_intro fun J1 hJ1 => ?_
  replace hJ1 : ∀ n : Nat, n ≤ s.rest.length → n ≤ 21 → (∀ j (hj : j < s.rest.length), j < n → s.rest[j] ≠ e) → (n = s.rest.length ∨ n = 21 ∨ (∃ h : n < s.rest.length, s.rest[n] = e)) → ∀ w', Rel B' w' [rfD p s] → J1 (.int .i64 n, ()) w' := by
    intro n hn h21 hno hstop w' h
    refine hJ1 _ _ ?_
    clear hJ1
    simp -zeta only [nil_ptr, field_addr f_errataref01_Reader_0, Nat.add_zero, h.ld 0 rfl sc_string (o := 0) rfl, str_len U_string, bl_ofL, bin_geq, ifB_dec]
    refine ⟨fun c => bad (fun m r h1 h3 => ?_) _ h, fun c => ?_⟩
    · obtain ⟨hj, he1⟩ := atE m r h1
      exact hno _ hj (by omega) he1
    have hil : n < s.rest.length := by omega
    simp -zeta only [hidx hil, bin_neq, ifB_not, ifB_dec, u8_eq]
    refine ⟨fun c1 => ?_, fun c1 => bad (fun m r h1 h3 => ?_) _ h⟩
    case refine_2 =>
      obtain ⟨hj, he1⟩ := atE m r h1
      have hl := itoa_len h3
      have hn21 : n = 21 := by
        rcases hstop with h4 | h4 | ⟨h4, h5⟩
        · omega
        · exact h4
        · exact absurd h5 c1
      exact hno _ hj (by omega) he1
    have hsp : s.rest = s.rest.take n ++ e :: s.rest.drop (n + 1) := by
      rw [← c1, List.getElem_cons_drop, List.take_append_drop]
    have hna : e ∉ s.rest.take n := fun hm => by
      obtain ⟨j, hj, hje⟩ := List.mem_take_iff_getElem.1 hm
      exact hno j (by omega) (by omega) hje
    rw [str_cut U_string (lo := 0) (hi := n) Bnd.none Bnd.some (Nat.zero_le _) (by rw [ofL_size]; omega), bl_ofL, List.drop_zero]
    refine back_r (by rw [List.length_take]; omega) h fun v ok w4 hv h => ?_
    simp -zeta only [ext_2_0, ext_2_1]
    rw [un_not, ifB_not, ifB_bool]
    refine ⟨fun c2 => ?_, fun c2 => bad (fun m r h1 h3 => ?_) _ h⟩
    case refine_2 =>
      have h1' := hsp.symm.trans h1
      obtain ⟨h4, _⟩ := split_first hna (itoa_not he) h1'
      have := (hv.2 m h3 h4).1
      rw [c2] at this
      cases this
    obtain ⟨h4, h5⟩ := hv.1 c2
    have hnum : numR e minI s = (v, ⟨s.rest.drop (n + 1), s.bad⟩) := by
      unfold numR
      rw [(numS_some he (n := v) (r := s.rest.drop (n + 1))).2 ⟨by rw [← h4]; exact hsp, h5.1, h5⟩]
    rw [hnum] at k
    have hw : IntKind.i64.wrap ((n : Int) + 1) = ((n + 1 : Nat) : Int) := by rw [wrap_id (by omega) (by omega)]; omega
    simp -zeta only [nil_ptr, field_addr f_errataref01_Reader_0, Nat.add_zero, h.ld 0 rfl sc_string (o := 0) rfl, bin_add, hw]
    rw [str_cut U_string (lo := n + 1) (hi := (ofL s.rest).size) Bnd.some Bnd.none (by rw [ofL_size]; omega) (Nat.le_refl _)]
    have hcut : (((bl (ofL s.rest)).take (ofL s.rest).size).drop (n + 1)) = s.rest.drop (n + 1) := by
      rw [bl_ofL, ofL_size, List.take_length]
    rw [hcut]
    refine h.st 0 rfl sc_string (show 0 < 2 by omega) rfl fun w8 h => ?_
    exact k _ [] h
  refine LOOP_intro (fun x w' => ∃ n : Nat, n ≤ s.rest.length ∧ n ≤ 21 ∧ x = (.int .i64 n, ()) ∧ (∀ j (hj : j < s.rest.length), j < n → s.rest[j] ≠ e) ∧ Rel B' w' [rfD p s]) (fun x _ => s.rest.length - (match x.1 with | .int _ n => n.toNat | _ => 0))
    ⟨0, Nat.zero_le _, Nat.zero_le _, rfl, fun j _ hj => absurd hj (Nat.not_lt_zero j), h⟩ ?_
  clear h
  rintro x w2 ⟨n, hn, h21, rfl, hno, h⟩ next hnext
  simp -zeta only [nil_ptr, field_addr f_errataref01_Reader_0, Nat.add_zero, h.ld 0 rfl sc_string (o := 0) rfl, str_len U_string, bl_ofL, bin_lss, ifB_dec]
  refine ⟨fun c => ⟨fun c1 => ?_, fun c1 => hJ1 n hn h21 hno (.inr (.inl (by omega))) _ h⟩, fun c => hJ1 n hn h21 hno (.inl (by omega)) _ h⟩
  have hil : n < s.rest.length := by omega
  simp -zeta only [hidx hil, bin_neq, ifB_not, ifB_dec, u8_eq]
  refine ⟨fun c2 => hJ1 n hn h21 hno (.inr (.inr ⟨hil, c2⟩)) _ h, fun c2 => ?_⟩
  rw [bin_add, wrap_id (by omega) (by omega)]
  refine hnext _ _ ⟨n + 1, hil, by omega, rfl, fun j hj h1 => ?_, h⟩ (by simp only; omega)
  by_cases ej : j = n
  · subst ej; exact c2
  · exact hno j hj (by omega)
theorem fnumber_d {e : UInt8} (he : isEnd e) (hs : s.rest.length ≤ 140737488355328) : Does Tryz.prog B (rfD p s) (sCall F_errataref01_Reader_number #[ptr1 p, .int .u8 e.toNat]) (rfPost p (.int .i64 (numR e 0 s).1) (numR e 0 s).2) := by
  refine Does.rf fun B' w K base h k => ?_
  refine errataref01_Reader_number.up (errataref01_Reader_number.call ?_)
  unfold errataref01_Reader_number.pt
  refine h.rf_ 0 rfl (fun B2 own base2 => fahead_d he hs) fun w1 h => ?_
  rw [numR_zero he] at k
  rw [bin_lss, ifB_dec]
  refine ⟨fun c => ?_, fun c => ?_⟩
  · rw [if_pos c] at k
    exact h.rf_ 0 rfl (fun B2 own base2 => ffail_d) fun w2 h => k _ [] h
  · rw [if_neg c] at k
    exact k _ [] h
theorem fNumR_d (hs : s.rest.length ≤ 140737488355328) : Does Tryz.prog B (rfD p s) (sCall F_errataref01_Reader_Num #[ptr1 p]) (rfPost p (.int .i64 (natR s).1) (natR s).2) := by
  refine Does.rf fun B' w K base h k => ?_
  refine errataref01_Reader_Num.up (errataref01_Reader_Num.call ?_)
  unfold errataref01_Reader_Num.pt
  exact h.rf_ 0 rfl (fun B2 own base2 => fnumber_d (e := 59) (.inl rfl) hs) fun w1 h => k _ [] h
theorem fIntR_d (hs : s.rest.length ≤ 140737488355328) : Does Tryz.prog B (rfD p s) (sCall F_errataref01_Reader_Int #[ptr1 p]) (rfPost p (.int .i64 (intR s).1) (intR s).2) := by
  refine Does.rf fun B' w K base h k => ?_
  refine errataref01_Reader_Int.up (errataref01_Reader_Int.call ?_)
  unfold errataref01_Reader_Int.pt
  exact h.rf_ 0 rfl (fun B2 own base2 => fahead_d (e := 59) (.inl rfl) hs) fun w1 h => k _ [] h
theorem fopen_m {t : Bs} : Makes Tryz.prog B (sCall F_errataref01_Open #[.string (ofL t)]) fun u τ => ∃ p, u = ptr1 p ∧ τ = [rfD p ⟨t, false⟩] := by
  refine Makes.intro fun B' w K base h k => ?_
  refine errataref01_Open.up (errataref01_Open.call ?_)
  unfold errataref01_Open.pt
  rw [bd_errataref01_Reader_0]
  refine h.box fun b w1 h => ?_
  exact k _ _ _ ⟨b, rfl, rfl⟩ h
end
end Go.Proofs.YtdecfgbdppfmcaaGreatDoor
