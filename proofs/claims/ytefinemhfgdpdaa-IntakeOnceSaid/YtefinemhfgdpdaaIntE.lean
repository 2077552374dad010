/-
  Intake: few, small. No condition.
-/
import Derived.Test.YtefinemhfgdpdaaIntD
namespace Go.Proofs.Ytefinemhfgdpdaa
open Go.RowKit

/-- Entries with their rows. -/
abbrev EnL := List (EnD × List ValD)
def eraws (L : EnL) : List EnD := L.map (·.1)
def erows (L : EnL) : Dat := Dat.all L fun p => rowR p.1.row.1 p.2
structure FewE (L : EnL) (n : Nat) : Prop where
  each : ∀ p ∈ L, p.2.length ≤ 12 ∧ p.1.source.size ≤ 30 ∧ ∀ v ∈ p.2, v.s.size ≤ 210
  len : L.length ≤ n
section
variable {B : Base} {w : World} {p : Nat} {s : IS}
theorem few_r {v : Value} {L : EnL} {n : Nat} {K : Value → World → Prop} {σ : List Dat} (r : rowR v (eraws L) B) (q : erows L B) (h : Rel B w σ) (hl : L.length ≤ maxLen) (hq : ∀ p ∈ L, p.2.length ≤ maxLen) (yes : ∀ w', FewE L n → Rel B w' σ → K (.bool true) w') (no : ∀ w', Rel B w' σ → K (.bool false) w') :
    upK Try.prog (sCall F_erratalaw11_few #[v, .int .i64 n]) w K := by
  obtain ⟨B', h', back, _, base⟩ := h.frz
  replace r := base r
  replace q := base q
  replace yes : ∀ w', FewE L n → Rel B' w' [] → K (.bool true) w' := fun w' hf h => yes w' hf (by have := back w' _ h; simpa using this)
  replace no : ∀ w', Rel B' w' [] → K (.bool false) w' := fun w' h => no w' (by have := back w' _ h; simpa using this)
  clear back h
  have h := h'
  clear h'
  have hal : (eraws L).length = L.length := List.length_map ..
  unfold maxLen at hl
  have hq : ∀ p ∈ L, p.2.length ≤ 9223372036854775807 := hq
  refine erratalaw11_few.up (erratalaw11_few.call ?_)
  unfold erratalaw11_few.pt
  refine LOOP_intro (fun x w' => ∃ i : Nat, i ≤ L.length ∧ x = (.int .i64 i, ()) ∧ (∀ j (hj : j < L.length), j < i → L[j].2.length ≤ 12 ∧ L[j].1.source.size ≤ 30 ∧ ∀ v ∈ L[j].2, v.s.size ≤ 210) ∧ Rel B' w' []) (fun x _ => L.length - (match x.1 with | .int _ n => n.toNat | _ => 0))
    ⟨0, Nat.zero_le _, rfl, fun j _ hj => absurd hj (Nat.not_lt_zero j), h⟩ ?_
  clear h
  rintro x w1 ⟨i, hi, rfl, hin, h⟩ next hnext
  simp -zeta only [rowR.len r sl_s_api_Entry, bin_lss, bin_leq, ifB_dec]
  rw [hal]
  refine ⟨fun hlt => ?_, fun hge => ?_⟩
  · have hil : i < L.length := by omega
    obtain ⟨g, o, hx, hc⟩ := rowR.idx r sl_s_api_Entry (P := Try.prog) (i := i) (by omega)
    have hel : (eraws L)[i]'(by omega) = L[i].1 := by simp [eraws]
    rw [hel] at hc
    have hc : cellsR g o L[i].1.cs B' := hc
    have hrow := q L[i] (List.getElem_mem hil)
    have hrl := hq L[i] (List.getElem_mem hil)
    refine LETJ_intro fun J hJ => ?_
    replace hJ : (L[i].2.length ≤ 12 ∧ L[i].1.source.size ≤ 30 ∧ ∀ v ∈ L[i].2, v.s.size ≤ 210) → ∀ w', Rel B' w' [] → J () w' := by
      intro ha w' h
      refine hJ _ _ ?_
      rw [bin_add, wrap_id (by omega) (by omega)]
      refine hnext _ _ ⟨i + 1, hil, rfl, fun j hj hji => ?_, h⟩ (by simp only; omega)
      by_cases e : j = i
      · subst e; exact ha
      · exact hin j hj (by omega)
    simp -zeta only [hx, field_addr f_api_Entry_7, field_addr f_api_Entry_4, cellsR.ld (h.hereB hc) sc_s_api_Value (j := 7) rfl, cellsR.ld (h.hereB hc) sc_string (j := 4) rfl, rowR.len hrow sl_s_api_Value, len_string U_string, bin_gtr, ifB_dec]
    refine ⟨fun _ => no _ h, fun c1 => ⟨fun _ => no _ h, fun c2 => ?_⟩⟩
    refine LOOP_intro (fun x w' => ∃ k : Nat, k ≤ L[i].2.length ∧ x = (.int .i64 k, ()) ∧ (∀ j (hj : j < L[i].2.length), j < k → L[i].2[j].s.size ≤ 210) ∧ Rel B' w' []) (fun x _ => L[i].2.length - (match x.1 with | .int _ n => n.toNat | _ => 0))
      ⟨0, Nat.zero_le _, rfl, fun j _ hj => absurd hj (Nat.not_lt_zero j), h⟩ ?_
    clear h
    rintro x w2 ⟨k, hk, rfl, hkin, h⟩ next2 hnext2
    simp -zeta only [hx, field_addr f_api_Entry_7, cellsR.ld (h.hereB hc) sc_s_api_Value (j := 7) rfl, rowR.len hrow sl_s_api_Value, bin_lss, ifB_dec]
    refine ⟨fun hlt2 => ?_, fun hge2 => hJ ⟨by omega, by omega, fun v hv => ?_⟩ _ h⟩
    · have hkl : k < L[i].2.length := by omega
      obtain ⟨g2, o2, hx2, hc2⟩ := rowR.idx hrow sl_s_api_Value (P := Try.prog) hkl
      have hc2 : cellsR g2 o2 L[i].2[k].cs B' := hc2
      simp -zeta only [hx, hx2, field_addr f_api_Entry_7, field_addr f_api_Value_2, cellsR.ld (h.hereB hc) sc_s_api_Value (j := 7) rfl, cellsR.ld (h.hereB hc2) sc_string (j := 2) rfl, len_string U_string, bin_gtr, ifB_dec]
      refine ⟨fun _ => no _ h, fun c3 => ?_⟩
      rw [bin_add, wrap_id (by omega) (by omega)]
      refine hnext2 _ _ ⟨k + 1, hkl, rfl, fun j hj hji => ?_, h⟩ (by simp only; omega)
      by_cases e : j = k
      · subst e; omega
      · exact hkin j hj (by omega)
    · obtain ⟨j, hj, rfl⟩ := List.getElem_of_mem hv
      exact hkin j hj (by omega)
  · by_cases c : (L.length : Int) ≤ n
    · rw [decide_eq_true c]
      exact yes _ ⟨fun p hp => by
        obtain ⟨j, hj, rfl⟩ := List.getElem_of_mem hp
        exact hin j hj (by omega), by omega⟩ h
    · rw [decide_eq_false c]
      exact no _ h
def cfgS : CfD := ⟨0, 2, 5, 100, 1, 0⟩
def st1 (s : IS) (q t n : Int) : IS := (applyS s (entD q t nilSV) (rowN n)).2
theorem one_r (hg : GoodIS s) (h1 : s.next < 1000000000) (h2 : s.refused < 1000000000) (hkl : s.known.length ≤ 4611686018427387904) {K : Value → World → Prop} {q t n a b : Int} (ha : (applyS s (entD q t nilSV) (rowN n)).1 = (a, b)) (h : Rel B w [intD p s])
    (k : ∀ w', GoodIS (st1 s q t n) → (st1 s q t n).next ≤ s.next + 1 → (st1 s q t n).refused ≤ s.refused + 1 → (st1 s q t n).known = s.known → Rel B w' [intD p (st1 s q t n)] → K (.tuple #[.int .i64 a, .int .i64 b]) w') :
    upK Try.prog (sCall F_erratalaw11_entry #[.int .i64 q, .int .i64 t, .int .i64 n]) w fun x w' => upK Try.prog (sCall F_intake_Intake_Apply #[ptrI p, x]) w' K := by
  refine h.make (fun B2 own base2 => entry_m q t n) fun u τ w1 hp h => ?_
  obtain ⟨rv, rfl, rfl⟩ := hp
  have h : Rel B w1 [intD p s, rowD T_api_Value rv.1 (rowN n)] := h
  refine h.act 0 rfl (fun B2 own base2 => apply_d hg h1 h2 (en := entD q t rv) (r := rowN n) (rowD.read (own (j := 1) (by decide) rfl)) (show 1 ≤ 4611686018427387904 by omega) hkl) fun v e' τ w2 hp h => ?_
  obtain ⟨rfl, rfl, rfl⟩ := hp
  have e : applyS s (entD q t rv) (rowN n) = applyS s (entD q t nilSV) (rowN n) := rfl
  rw [e] at h ⊢
  have g := apply_good hg (entD q t nilSV) (rowN n) h1 h2
  rw [ha]
  exact k _ g.1 g.2.2.2.1 g.2.2.2.2 g.2.2.1 ((h.take 1))
set_option maxHeartbeats 1000000 in
theorem small_r {σ : List Dat} {K : Value → World → Prop} (h : Rel B w σ) (k : ∀ w', Rel B w' σ → K (.bool true) w') : upK Try.prog (sCall F_erratalaw11_small #[]) w K := by
  obtain ⟨B', h', back, _, _⟩ := h.frz
  replace k : ∀ w' τ, Rel B' w' τ → K (.bool true) w' := fun w' τ h => k w' (by have := back w' _ h; exact this.drop)
  clear back h
  have h := h'
  clear h'
  refine erratalaw11_small.up (erratalaw11_small.call ?_)
  unfold erratalaw11_small.pt
  rw [bd_api_Config_1_2_3_4]
  refine h.make (fun B2 own base2 => known_m) fun u τ w1 hp h => ?_
  subst hp
  have h : Rel B' w1 [knownD u knS] := h
  refine h.make (fun B2 own base2 => New_m cfgS (own (i := 0) rfl) knS_few) fun x τ w2 hp h => ?_
  have hr : RightC cfgS := by decide
  rcases hp with ⟨_, p, rfl, rfl⟩ | ⟨hn, _⟩
  case inr => exact absurd hr hn
  have h := h.pick [1] (by decide)
  have h : Rel B' w2 [intD p (newS cfgS knS)] := h
  have g0 := new_good hr knS
  rw [bin_eql_ptr_nil U_p_intake_Intake, ifB_false]
  have n0 : (newS cfgS knS).next = 0 := rfl
  have f0 : (newS cfgS knS).refused = 0 := rfl
  have k0 : (newS cfgS knS).known = knS := rfl
  have kl : knS.length ≤ 4611686018427387904 := by decide
  refine one_r g0 (by omega) (by omega) (by rw [k0]; exact kl) (a := 0) (b := 0) (by kernel_rfl) h fun w3 g1 n1 f1 k1 h => ?_
  simp -zeta only [ext_2_0, ext_2_1]
  refine one_r g1 (by omega) (by omega) (by rw [k1, k0]; exact kl) (a := 0) (b := 5) (by kernel_rfl) h fun w4 g2 n2 f2 k2 h => ?_
  simp -zeta only [ext_2_0, ext_2_1]
  refine one_r g2 (by omega) (by omega) (by rw [k2, k1, k0]; exact kl) (a := 0) (b := 22) (by kernel_rfl) h fun w5 g3 n3 f3 k3 h => ?_
  simp -zeta only [ext_2_0, ext_2_1]
  refine one_r g3 (by omega) (by omega) (by rw [k3, k2, k1, k0]; exact kl) (a := 0) (b := 20) (by kernel_rfl) h fun w6 g4 n4 f4 k4 h => ?_
  simp -zeta only [ext_2_0, ext_2_1]
  refine one_r g4 (by omega) (by omega) (by rw [k4, k3, k2, k1, k0]; exact kl) (a := 1) (b := 0) (by kernel_rfl) h fun w7 g5 n5 f5 k5 h => ?_
  simp -zeta only [ext_2_0, ext_2_1]
  refine one_r g5 (by omega) (by omega) (by rw [k5, k4, k3, k2, k1, k0]; exact kl) (a := 0) (b := 21) (by kernel_rfl) h fun w8 g6 n6 f6 k6 h => ?_
  simp -zeta only [ext_2_0, ext_2_1, bin_eql, decide_true, ifB_true]
  generalize hs : st1 _ 2 101 1 = s6 at *
  have e1 : closedS s6 = 4 := by rw [← hs]; kernel_rfl
  have e2 : markS s6 = 7 := by rw [← hs]; kernel_rfl
  have e3 : s6.refused = 3 := by rw [← hs]; kernel_rfl
  refine h.ask (fun B2 own base2 => iClosed_g (own (i := 0) rfl) g6) fun w9 h => ?_
  rw [e1, bin_eql, decide_eq_true (Eq.refl (4 : Int)), ifB_true]
  refine h.ask (fun B2 own base2 => iMark_g (own (i := 0) rfl) g6) fun w10 h => ?_
  rw [e2, bin_eql, decide_eq_true (Eq.refl (7 : Int)), ifB_true]
  refine h.ask (fun B2 own base2 => iRefused_g (own (i := 0) rfl)) fun w11 h => ?_
  rw [e3, bin_eql, decide_eq_true (Eq.refl (3 : Int))]
  exact k _ _ h
end
end Go.Proofs.Ytefinemhfgdpdaa
