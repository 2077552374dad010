/-
  RetainFull: as many events are added as there is room for. No condition.
-/
import Derived.Test.YtmllhipiahlihaaRetainHolds
namespace Go.Proofs.Ytmllhipiahlihaa
open Go.RowKit

def fullE (pos time : Int) : Ev := ⟨1, pos, ⟨#[]⟩, 0, time, []⟩
theorem addS_full {s : St} {pos time : Int} (hp : s.part = 1) (hpos : pos = s.next) (ht : 0 ≤ time ∧ time ≤ 1099511627776) : addS s (fullE pos time) = if s.events.length < 2000 then (0, { s with events := s.events ++ [fullE pos time] }) else (6, s) := by
  have h1 : rightE s (fullE pos time) = true := by
    simp [rightE, fullE, hp, ht.1, ht.2, ByteArray.size]
  have h2 : rightRow (fullE pos time).row = true := rfl
  have h3 : (fullE pos time).pos = s.next := hpos
  unfold addS
  rw [if_pos h1, if_pos h2, if_pos h3]

theorem retainFull_pt {W : World} {n0 drop : Int} {K : Value → World → Prop} (fin : ∀ w' σ, Rel (lawB W) w' σ → K (.bool true) w') : erratalaw12_RetainFull.pt (.int .i64 n0) (.int .i64 drop) W K := by
  unfold erratalaw12_RetainFull.pt
  refine small_r (lawB.start W) fun w1 h => ?_
  simp -zeta only [bin_lss, bin_gtr, ifB_dec]
  refine ⟨fun _ => fin _ _ h, fun e1 => ⟨fun _ => fin _ _ h, fun e2 => ⟨fun _ => fin _ _ h, fun e3 => ⟨fun _ => fin _ _ h, fun e4 => ?_⟩⟩⟩⟩
  obtain ⟨n, rfl⟩ : ∃ n : Nat, n0 = n := ⟨n0.toNat, by omega⟩
  refine h.make (fun _ _ _ => new_m 1) fun u τ w2 hp h => ?_
  obtain ⟨b, rfl, rfl⟩ := hp
  simp -zeta only [bin_eql_ptr_nil UpS, ifB_false]
  refine LOOP_intro (fun x w' => ∃ (i : Nat) (s : St), i ≤ n ∧ x = (.int .i64 i, ()) ∧ s.part = 1 ∧ s.first = 0 ∧ s.events.length = min i 2000 ∧ Rel (lawB W) w' [storeD b s]) (fun x _ => n - (match x.1 with | .int _ n => n.toNat | _ => 0)) ⟨0, ⟨1, 0, 0, []⟩, Nat.zero_le _, rfl, rfl, rfl, rfl, h⟩ ?_
  clear h
  rintro x w3 ⟨i, s, hi, rfl, hp, hf, hl, h⟩ next hnext
  simp -zeta only [bin_lss, ifB_dec]
  refine ⟨fun hlt => ?_, fun hge => ?_⟩
  · refine LETJ_intro fun J hJ => ?_
    replace hJ : ∀ w' (s : St), s.part = 1 → s.first = 0 → s.events.length = min (i + 1) 2000 → Rel (lawB W) w' [storeD b s] → J () w' := by
      intro w' s h1 h2 h3 h
      refine hJ _ _ ?_
      show pureK _ _ _
      rw [bin_add, wrap_id (by omega) (by omega)]
      exact hnext _ _ ⟨i + 1, s, by omega, rfl, h1, h2, h3, h⟩ (by simp only; omega)
    clear hnext
    simp -zeta only [blt_min, bd_api_Event_0_1_4]
    have hn : (min (i : Int) 2000) = s.next := by unfold St.next; omega
    refine h.act 0 rfl (fun B2 own base2 => add_d (fullE (min i 2000) i) nilV (nil_row B2) (Nat.zero_le _) (fun x hx => by cases hx)) fun u e' τ w4 hp2 h => ?_
    obtain ⟨rfl, rfl, rfl⟩ := hp2
    have ha := addS_full (s := s) (pos := min (i : Int) 2000) (time := i) hp hn (by omega)
    rw [ha] at h ⊢
    by_cases hr : s.events.length < 2000
    · rw [if_pos hr] at h ⊢
      have hi2 : (i : Int) < 2000 := by omega
      simp -zeta only [bin_eql, bin_lss, decide_true, decide_eq_true hi2, bin_neq_bool U_bool, beq_self_eq_true, Bool.not_true, ifB_false, bin_neq]
      exact hJ _ { s with events := s.events ++ [fullE (min i 2000) i] } hp hf (by simp; omega) h
    · rw [if_neg hr] at h ⊢
      have hi2 : ¬ (i : Int) < 2000 := by omega
      have e60 : decide ((6 : Int) = 0) = false := by decide
      simp -zeta only [bin_eql, bin_lss, e60, decide_eq_false hi2, bin_neq_bool U_bool, beq_self_eq_true, Bool.not_true, Bool.not_false, ifB_false, ifB_true, bin_neq, decide_true]
      exact hJ _ s hp hf (by omega) h
  · have hin : i = n := by omega
    subst hin
    clear hnext
    simp -zeta only [blt_min]
    refine h.act 0 rfl (fun B2 own base2 => drop_d drop (by omega)) fun u e' τ w4 hp2 h => ?_
    obtain ⟨rfl, rfl, rfl⟩ := hp2
    obtain ⟨g, hg, hgl⟩ : ∃ g : Nat, placeS s drop = g ∧ (g : Int) = min drop (min (i : Int) 2000) := ⟨_, rfl, by unfold placeS St.next; omega⟩
    rw [hg] at h ⊢
    rw [← hgl]
    simp -zeta only [bin_neq, decide_true, Bool.not_true, ifB_false]
    have hc : min (i : Int) 2000 = s.events.length := by omega
    rw [hc]
    refine LOOP_intro (fun x w' => ∃ (j : Nat) (s' : St), j ≤ g ∧ x = (.int .i64 ((s.events.length : Int) + j), ()) ∧ s'.part = 1 ∧ s'.first = g ∧ s'.events.length = s.events.length - g + j ∧ Rel (lawB W) w' [storeD b s']) (fun x _ => s.events.length + g - (match x.1 with | .int _ n => n.toNat | _ => 0))
      ⟨0, cutS s g, Nat.zero_le _, by simp, hp, by show s.first + g = _; omega, by show (s.events.drop g).length = _; simp, h⟩ ?_
    clear h
    rintro x w5 ⟨j, s', hj, rfl, hp', hf', hl', h⟩ next hnext
    simp -zeta only [bin_add]
    rw [wrap_id (by omega) (by omega)]
    simp -zeta only [bin_lss, ifB_dec]
    have hn' : (s.events.length : Int) + j = s'.next := by unfold St.next; omega
    refine ⟨fun hlt => ?_, fun hge => ?_⟩
    · simp -zeta only [bd_api_Event_0_1]
      refine h.act 0 rfl (fun B2 own base2 => add_d (fullE ((s.events.length : Int) + j) 0) nilV (nil_row B2) (Nat.zero_le _) (fun x hx => by cases hx)) fun u e' τ w6 hp2 h => ?_
      obtain ⟨rfl, rfl, rfl⟩ := hp2
      rw [addS_full hp' hn' (by omega), if_pos (by omega)] at h ⊢
      simp -zeta only [bin_neq, decide_true, Bool.not_true, ifB_false]
      rw [wrap_id (by omega) (by omega)]
      exact hnext _ _ ⟨j + 1, { s' with events := s'.events ++ [fullE ((s.events.length : Int) + j) 0] }, by omega, by simp; omega, hp', hf', by simp; omega, h⟩ (by simp only; omega)
    · have hjg : j = g := by omega
      subst hjg
      clear hnext
      simp -zeta only [bd_api_Event_0_1]
      refine h.act 0 rfl (fun B2 own base2 => add_d (fullE ((s.events.length : Int) + j) 0) nilV (nil_row B2) (Nat.zero_le _) (fun x hx => by cases hx)) fun u e' τ w6 hp2 h => ?_
      obtain ⟨rfl, rfl, rfl⟩ := hp2
      rw [addS_full hp' hn' (by omega)] at h ⊢
      simp -zeta only [ifB_true, bin_eql, bin_eql_bool U_bool]
      by_cases hr : s'.events.length < 2000
      · rw [if_pos hr] at h ⊢
        have hne : ¬ ((s.events.length : Int) = 2000) := by omega
        have e06 : decide ((0 : Int) = 6) = false := by decide
        simp -zeta only [e06, decide_eq_false hne, beq_self_eq_true, ifB_true]
        refine h.ask (fun _ own _ => first_g (storeD.read (own (i := 0) rfl))) fun w7 h => ?_
        simp -zeta only [bin_eql, hf', decide_true]
        exact fin _ _ h
      · rw [if_neg hr] at h ⊢
        have hne : (s.events.length : Int) = 2000 := by omega
        simp -zeta only [decide_true, decide_eq_true hne, beq_self_eq_true, ifB_true]
        refine h.ask (fun _ own _ => first_g (storeD.read (own (i := 0) rfl))) fun w7 h => ?_
        simp -zeta only [bin_eql, hf', decide_true]
        exact fin _ _ h
end Go.Proofs.Ytmllhipiahlihaa
