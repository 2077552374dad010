/-
  ReplaceAsks: what is granted, and what is named when the history is too short. No condition.
-/
import Derived.Test.YtdecfgbdppfmcaaGreatDoorRepD
import Derived.Test.YtdecfgbdppfmcaaGreatDoorArgs
namespace Go.Proofs.YtdecfgbdppfmcaaGreatDoor
open Go.RowKit
set_option maxRecDepth 100000

/-- The laws' state at the beginning. -/
theorem start_r {B : Base} {w : World} {σ : List Dat} {K' : Value → World → Prop} (h : Rel B w σ) (k : ∀ B' b vt w', B.ext B' → rowR vt seg0 B' → Rel B' w' (σ ++ [stateD b (.slice none 0 0) vt]) → K' (ptr b) w') :
    upK Tryz.prog (sBuildSlice T_s_api_Seg 1 #[(0, (⟨0, 1⟩ : Seg).v)]) w fun t29 w2 => pureK Tryz.prog (sBuild T_erratalaw47_state #[(1, t29)]) fun t30 => upK Tryz.prog (sBox T_erratalaw47_state t30) w2 fun t31 w3 => K' t31 w3 := by
  refine h.build1 (⟨0, 1⟩ : Seg) sl_s_api_Seg (by decide) fun vt w1 h => ?_
  obtain ⟨B', hext, h', hrow⟩ := h.frz1
  clear h
  have hr : rowR vt seg0 B' := rowD.read hrow
  obtain ⟨a, cap, rfl, _⟩ := rowR.form hr
  rw [bd_erratalaw47_state_1]
  exact h'.box fun b w2 h => k B' b _ w2 hext hr h

theorem askS_err {l : List Rpl} {fr ver back hor : Int} {raise : Bool} (h : (askS l fr ver back hor raise).2.2 ≠ 0) :
    ((askS l fr ver back hor raise) = ([], hor + back, 23) ∧ 0 < hor ∧ fr < hor + back ∧ within ver 1 50 = true ∧ within back 0 1099511627776 = true ∧ within hor 0 1099511627776 = true) ∨ ((askS l fr ver back hor raise).1 = [] ∧ (askS l fr ver back hor raise).2.1 = 0 ∧ (askS l fr ver back hor raise).2.2 ≠ 23) := by
  have on : ∀ f, (askOn l f ver back).2.2 ≠ 0 → (askOn l f ver back).1 = [] ∧ (askOn l f ver back).2.1 = 0 ∧ (askOn l f ver back).2.2 ≠ 23 := by
    intro f hf
    unfold askOn at hf ⊢
    split at hf
    · rename_i hl; rw [if_pos hl]; exact ⟨rfl, rfl, by decide⟩
    · exact absurd rfl hf
  unfold askS at h ⊢
  split at h
  · rename_i c1
    split at h
    · rename_i c2
      split at h
      · rename_i c3
        split at h
        · rename_i c4
          rw [if_pos c1, if_pos c2, if_pos c3, if_pos c4]
          split at h
          · rename_i hb; rw [if_pos hb]; exact .inr ⟨rfl, rfl, by decide⟩
          · rename_i hb
            rw [if_neg hb]
            split at h
            · rename_i hh
              rw [if_pos hh]
              split at h
              · rename_i hr; rw [if_pos hr]; exact .inr (on _ h)
              · rename_i hr; rw [if_neg hr]; exact .inl ⟨rfl, hh.1, hh.2, c2, c3, c4⟩
            · rename_i hh; rw [if_neg hh]; exact .inr (on _ h)
        · rename_i c4; rw [if_pos c1, if_pos c2, if_pos c3, if_neg c4]; exact .inr ⟨rfl, rfl, by decide⟩
      · rename_i c3; rw [if_pos c1, if_pos c2, if_neg c3]; exact .inr ⟨rfl, rfl, by decide⟩
    · rename_i c2; rw [if_pos c1, if_neg c2]; exact .inr ⟨rfl, rfl, by decide⟩
  · rename_i c1; rw [if_neg c1]; exact .inr ⟨rfl, rfl, by decide⟩

theorem ask_again {l : List Rpl} {ver back hor : Int} : (askS l (hor + back) ver back hor false).2.2 ≠ 23 := by
  by_cases h : (askS l (hor + back) ver back hor false).2.2 = 0
  · rw [h]; decide
  · rcases askS_err h with ⟨_, _, h2, _⟩ | ⟨_, _, h3⟩
    · omega
    · exact h3

end Go.Proofs.YtdecfgbdppfmcaaGreatDoor
