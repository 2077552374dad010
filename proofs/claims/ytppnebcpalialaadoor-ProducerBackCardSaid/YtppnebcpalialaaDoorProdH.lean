/-
  Tables stay right; chapter 10's small. No condition.
-/
import Derived.Test.YtppnebcpalialaaDoorProdG
namespace Go.Proofs.YtppnebcpalialaaDoor
open Go.RowKit
set_option maxRecDepth 100000

theorem put_right {s : List Pr} (h : RightT s) (id e q pos : Int) : RightT (putS s id e q pos) := by
  unfold putS
  by_cases c0 : (lookS s id e q).2 ≠ 0
  · rw [if_pos c0]; exact h
  rw [if_neg c0]
  have c0 : (lookS s id e q).2 = 0 := by simpa using c0
  obtain ⟨⟨h1, _, h3⟩, he, hq, hfull⟩ := look_ok c0
  by_cases c1 : ¬ inP pos
  · rw [if_pos c1]; exact h
  rw [if_neg c1]
  by_cases c2 : 0 < (getP s id).last.length ∧ pos ≤ (getP s id).last.getD ((getP s id).last.length - 1) 0
  · rw [if_pos c2]; exact h
  rw [if_neg c2]
  have hid := getP_id s id
  have hfine := (getP_fine h (id := id) ⟨h1.1, by have := h1.2; omega⟩).1
  refine with_right h (putP_fine hfine (by rw [← hq]; exact h3.2) (Decidable.of_not_not c1) c2) ?_
  show hasP s (getP s id).id = true ∨ _
  rw [hid]
  cases e : hasP s id
  · right
    exact Nat.lt_of_not_le fun hh => hfull ⟨e, hh⟩
  · exact .inl rfl
theorem fence_ok {s : List Pr} {id : Int} (h : (fenceS s id).2.2 = 0) : okN id ∧ ¬ (getP s id).epoch = 1099511627776 ∧ ¬ (hasP s id = false ∧ 50 ≤ s.length) ∧ fenceS s id = (withS s ⟨id, (getP s id).epoch + 1, 0, []⟩, (getP s id).epoch + 1, 0) := by
  unfold fenceS at h ⊢
  by_cases c1 : ¬ okN id ∨ (getP s id).epoch = 1099511627776
  · rw [if_pos c1] at h; cases h
  rw [if_neg c1] at h ⊢
  by_cases c2 : hasP s id = false ∧ 50 ≤ s.length
  · rw [if_pos c2] at h; cases h
  rw [if_neg c2]
  exact ⟨Decidable.of_not_not fun hh => c1 (.inl hh), fun hh => c1 (.inr hh), c2, rfl⟩
theorem fence_right {s : List Pr} (h : RightT s) {id : Int} (he : (fenceS s id).2.2 = 0) : RightT (fenceS s id).1 := by
  obtain ⟨h1, h2, h3, e⟩ := fence_ok he
  rw [e]
  have hsm := getP_small h (id := id)
  refine with_right h ⟨⟨h1.1, by have := h1.2; show id ≤ _; omega⟩, ⟨by show 0 ≤ (getP s id).epoch + 1; omega, by show (getP s id).epoch + 1 ≤ _; omega⟩, (show inP 0 by decide), rfl, fun i h => absurd h (Nat.not_lt_zero i), fun i h => absurd h (Nat.not_lt_zero i)⟩ ?_
  show hasP s id = true ∨ _
  cases e : hasP s id
  · right
    exact Nat.lt_of_not_le fun hh => h3 ⟨e, hh⟩
  · exact .inl rfl
theorem right_nil : RightT [] := ⟨fun p hp => (by cases hp), fun i h => absurd h (Nat.not_lt_zero i), Nat.zero_le _⟩

abbrev ent (a b c : Int) : D_api_Entry := ⟨0, a, b, c, ⟨#[]⟩, 0, 0, nilSV⟩
section
variable {B : Base} {w : World}
theorem nilT (B : Base) : (rowR (.slice none 0 0) (praws [])) B := ⟨none, 0, rfl, Nat.le_refl _, .inl rfl⟩
theorem nilQ (B : Base) : prows [] B := fun x hx => by cases hx
theorem small_r {σ : List Dat} {K : Value → World → Prop} (h : Rel B w σ) (k : ∀ w', Rel B w' σ → K (.bool true) w') : upK Tryd.prog (sCall F_erratalaw10_small #[]) w K := by
  obtain ⟨B', h', back, _, _⟩ := h.frz
  replace k : ∀ w' τ, Rel B' w' τ → K (.bool true) w' := fun w' τ h => k w' (by have := back w' _ h; exact this.drop)
  clear back h
  have h := h'
  clear h'
  refine erratalaw10_small.up (erratalaw10_small.call ?_)
  unfold erratalaw10_small.pt
  refine h.ask (fun B2 own base2 => record_g 7 0 0) fun w1 h => ?_
  refine h.ask (fun B2 own base2 => Look_g (L := []) (nilT _) (nilQ _) right_nil (ent 7 0 0)) fun w2 h => ?_
  simp -zeta only [ext_2_0, ext_2_1]
  refine h.ask (fun B2 own base2 => record_g 7 0 0) fun w3 h => ?_
  refine h.make (fun B2 own base2 => Put_m (L := []) (nilT _) (nilQ _) right_nil (ent 7 0 0) 3) fun u τ w4 hp h => ?_
  obtain ⟨B1, L1, e1, h, hs1, r1, q1⟩ := hp B' w4 [] h
  have hR1 : RightT (prs L1) := by rw [hs1]; exact put_right right_nil _ _ _ _
  have hs1 : prs L1 = [⟨7, 0, 1, [3]⟩] := by rw [hs1]; kernel_rfl
  refine h.ask (fun B2 own base2 => record_g 7 0 0) fun w5 h => ?_
  refine h.ask (fun B2 own base2 => Look_g (base2 r1) (base2 q1) hR1 (ent 7 0 0)) fun w6 h => ?_
  simp -zeta only [ext_2_0, ext_2_1]
  refine h.make (fun B2 own base2 => Fence_m (base2 r1) (base2 q1) hR1 7) fun u2 τ w7 hp h => ?_
  obtain ⟨tv, rfl, hp⟩ := hp
  obtain ⟨B2, L2, e2, h, hs2, r2, q2⟩ := hp B1 w7 [] h
  have hf : (fenceS (prs L1) 7).2.2 = 0 := by rw [hs1]; kernel_rfl
  have hR2 : RightT (prs L2) := by rw [hs2]; exact fence_right hR1 hf
  have hs2 : prs L2 = [⟨7, 1, 0, []⟩] := by rw [hs2, hs1]; kernel_rfl
  simp -zeta only [ext_3_0, ext_3_1, ext_3_2]
  refine h.ask (fun B2 own base2 => record_g 7 0 1) fun w8 h => ?_
  refine h.ask (fun B2 own base2 => Look_g (base2 r2) (base2 q2) hR2 (ent 7 0 1)) fun w9 h => ?_
  simp -zeta only [ext_2_0, ext_2_1]
  refine h.ask (fun B2 own base2 => record_g 7 1 0) fun w10 h => ?_
  refine h.ask (fun B2 own base2 => Look_g (base2 r2) (base2 q2) hR2 (ent 7 1 0)) fun w11 h => ?_
  simp -zeta only [ext_2_0, ext_2_1]
  refine h.ask (fun B2 own base2 => record_g 8 0 1) fun w12 h => ?_
  refine h.ask (fun B2 own base2 => Look_g (base2 r2) (base2 q2) hR2 (ent 8 0 1)) fun w13 h => ?_
  simp -zeta only [ext_2_0, ext_2_1]
  have l0 : lookS (prs []) 7 0 0 = (0, 0) := by kernel_rfl
  have l1 : lookS (prs L1) 7 0 0 = (3, 5) := by rw [hs1]; kernel_rfl
  have l2 : lookS (prs L2) 7 0 1 = (0, 18) := by rw [hs2]; kernel_rfl
  have l3 : lookS (prs L2) 7 1 0 = (0, 0) := by rw [hs2]; kernel_rfl
  have l4 : lookS (prs L2) 8 0 1 = (0, 19) := by rw [hs2]; kernel_rfl
  have f1 : fenceS (prs L1) 7 = ([⟨7, 1, 0, []⟩], 1, 0) := by rw [hs1]; kernel_rfl
  rw [l0, l1, l2, l3, l4, f1]
  simp -zeta only [bin_eql, decide_true, ifB_true]
  have hl : ∀ p ∈ L2, p.1.last.length ≤ 4611686018427387904 := fun x hx => by have := (hR2.fine x.1 (List.mem_map_of_mem hx)).len; omega
  have hll : L2.length ≤ 4611686018427387904 := by
    have := hR2.len
    have e : (prs L2).length = L2.length := List.length_map ..
    omega
  refine h.ask (fun B2 own base2 => Right_g (base2 r2) (base2 q2) hll hl) fun w14 h => ?_
  rw [rightB_true.2 hR2]
  exact k _ _ (e1.rel (e2.rel h))
end
end Go.Proofs.YtppnebcpalialaaDoor
