/-
  ProducerApart. No condition.
-/
import Derived.Test.YtppnebcpalialaaProdI
namespace Go.Proofs.Ytppnebcpalialaa
open Go.RowKit

theorem look_cong {s t : List Pr} {id e q : Int} (h1 : getP s id = getP t id) (h2 : hasP s id = hasP t id) (h3 : s.length < 50) (h4 : t.length < 50) : lookS s id e q = lookS t id e q := by
  unfold lookS
  rw [h1, h2]
  by_cases c : hasP t id = false ∧ 50 ≤ s.length
  · omega
  · have c' : ¬ (hasP t id = false ∧ 50 ≤ t.length) := fun hh => by omega
    rw [if_neg c, if_neg c']
theorem put_facts {s : List Pr} (h : RightT s) (id e q pos : Int) : (putS s id e q pos = s ∨ (putS s id e q pos = withS s (putP (getP s id) pos))) := by
  unfold putS
  split
  · exact .inl rfl
  · split
    · exact .inl rfl
    · split
      · exact .inl rfl
      · exact .inr rfl
theorem put_apart {s : List Pr} (h : RightT s) {id id2 : Int} (hne : id2 ≠ id) (e q pos : Int) : getP (putS s id e q pos) id2 = getP s id2 ∧ hasP (putS s id e q pos) id2 = hasP s id2 := by
  rcases put_facts h id e q pos with e1 | e1 <;> rw [e1]
  · exact ⟨rfl, rfl⟩
  · exact getP_with_ne h.pw _ (by show id2 ≠ (getP s id).id; rw [getP_id]; exact hne)
theorem put_len {s : List Pr} (h : RightT s) (id e q pos : Int) : (putS s id e q pos).length ≤ s.length ∨ ((putS s id e q pos).length = s.length + 1 ∧ hasP (putS s id e q pos) id = true) := by
  rcases put_facts h id e q pos with e1 | e1 <;> rw [e1]
  · exact .inl (Nat.le_refl _)
  · have hl := with_len h.pw (putP (getP s id) pos)
    have hh := (getP_with h.pw (putP (getP s id) pos)).2
    have hid : (putP (getP s id) pos).id = id := getP_id s id
    rw [hid] at hl hh
    rw [hl]
    split
    · exact .inl (Nat.le_refl _)
    · exact .inr ⟨rfl, hh⟩

set_option maxHeartbeats 1000000 in
theorem producerApart_walk {W : World} {v : Value} {L : PrL} {a b : D_api_Entry} {pos : Int} (r : rowR v (praws L) (lawB W)) (q : prows L (lawB W))
    {K : Value → World → Prop} (fin : ∀ w' σ, Rel (lawB W) w' σ → K (.bool true) w') : erratalaw10_ProducerApart.pt v a.v b.v (.int .i64 pos) W K := by
  unfold erratalaw10_ProducerApart.pt
  have hal : (praws L).length = L.length := List.length_map ..
  have hpl : (prs L).length = L.length := List.length_map ..
  have h := lawB.start W
  refine h.box fun a5 w1 h => ?_
  refine h.box fun b6 w2 h => ?_
  have h : Rel (lawB W) w2 [cellD a5 T_api_Entry a.cs.toArray, cellD b6 T_api_Entry b.cs.toArray] := h
  refine small_r h fun w3 h => ?_
  refine few_r r q h (fun w4 hf h => ?_) fun w4 h => by rw [un_not, Bool.not_false, ifB_true]; exact fin _ _ h
  rw [un_not, Bool.not_true, ifB_false]
  refine h.ask (fun B2 own base2 => RRight_g (base2 r) (base2 q) (by have := hf.len; omega) fun p hp => by have := hf.each p hp; omega) fun w5 h => ?_
  rw [un_not, ifB_not, ifB_bool]
  refine ⟨fun hR => ?_, fun _ => fin _ _ h⟩
  have hR := rightB_true.1 hR
  simp -zeta only [field_addr f_api_Entry_1, Nat.zero_add, h.ld 0 rfl sc_int (o := 1) rfl, h.ld 1 rfl sc_int (o := 1) rfl, bin_eql, ifB_dec, rowR.len r sl_s_api_Producer, bin_geq]
  refine ⟨fun _ => fin _ _ h, fun hne => ⟨fun _ => fin _ _ h, fun h49 => ?_⟩⟩
  have hlen : (prs L).length < 49 := by omega
  rw [h.ldAg 0 rfl ag_api_Entry rfl]
  refine h.ask (fun B2 own base2 => Look_g (base2 r) (base2 q) hR a) fun w6 h => ?_
  simp -zeta only [ext_2_0, ext_2_1]
  rw [h.ldAg 1 rfl ag_api_Entry rfl]
  refine h.make (fun B2 own base2 => Put_m (base2 r) (base2 q) hR b pos) fun u τ w7 hp h => ?_
  obtain ⟨B1, L1, e1, h, hs1, r1, q1⟩ := hp _ _ _ h
  have hR1 : RightT (prs L1) := by rw [hs1]; exact put_right hR _ _ _ _
  have hap := put_apart hR hne b.epoch b.seq pos
  have hpln := put_len hR b.producer b.epoch b.seq pos
  rw [← hs1] at hap hpln
  have hl1 : (prs L1).length < 50 := by rcases hpln with h | ⟨h, _⟩ <;> omega
  have hk1 : lookS (prs L1) a.producer a.epoch a.seq = lookS (prs L) a.producer a.epoch a.seq := look_cong hap.1 hap.2 hl1 (by omega)
  rw [h.ldAg 0 rfl ag_api_Entry rfl]
  refine h.ask (fun B2 own base2 => Look_g (base2 r1) (base2 q1) hR1 a) fun w8 h => ?_
  rw [hk1]
  simp -zeta only [ext_2_0, ext_2_1, bin_neq, decide_true, Bool.not_true, ifB_false]
  have hb1 : ∀ {L : PrL}, RightT (prs L) → (∀ p ∈ L, p.1.last.length ≤ 4611686018427387904) ∧ L.length ≤ 4611686018427387904 := fun {L} hR => by
    have e : (prs L).length = L.length := List.length_map ..
    have := hR.len
    exact ⟨fun x hx => by have := (hR.fine x.1 (List.mem_map_of_mem hx)).len; omega, by omega⟩
  refine h.ask (fun B2 own base2 => Right_g (base2 r1) (base2 q1) (hb1 hR1).2 (hb1 hR1).1) fun w9 h => ?_
  rw [rightB_true.2 hR1, un_not, Bool.not_true, ifB_false, h.ld 1 rfl sc_int (o := 1) rfl]
  refine h.make (fun B2 own base2 => Fence_m (base2 r1) (base2 q1) hR1 b.producer) fun u2 τ w10 hp h => ?_
  obtain ⟨tv, rfl, hp⟩ := hp
  obtain ⟨B2, L2, e2, h, hs2, r2, q2⟩ := hp _ _ _ h
  simp -zeta only [ext_3_0, ext_3_1, ext_3_2, bin_neq, ifB_not, ifB_dec]
  refine ⟨fun hz => ?_, fun _ => fin _ _ (e1.rel (e2.rel h))⟩
  have hR2 : RightT (prs L2) := by rw [hs2]; exact fence_right hR1 hz
  obtain ⟨f1, f2, f3, f4⟩ := fence_ok hz
  have hs2 : prs L2 = withS (prs L1) ⟨b.producer, (getP (prs L1) b.producer).epoch + 1, 0, []⟩ := by rw [hs2, f4]
  have hap2 := getP_with_ne hR1.pw ⟨b.producer, (getP (prs L1) b.producer).epoch + 1, 0, []⟩ (id := a.producer) hne
  have hself := (getP_with hR1.pw ⟨b.producer, (getP (prs L1) b.producer).epoch + 1, 0, []⟩).1
  have hl2 := with_len hR1.pw ⟨b.producer, (getP (prs L1) b.producer).epoch + 1, 0, []⟩
  rw [← hs2] at hap2 hself hl2
  have hself : getP (prs L2) b.producer = ⟨b.producer, (getP (prs L1) b.producer).epoch + 1, 0, []⟩ := hself
  have hl2 : (prs L2).length = if hasP (prs L1) b.producer = true then (prs L1).length else (prs L1).length + 1 := hl2
  have hl3 : (prs L2).length < 50 := by
    rw [hl2]
    split
    · exact hl1
    · rename_i hh
      rcases hpln with h | ⟨_, h⟩
      · omega
      · exact absurd h hh
  have hk2 : lookS (prs L2) a.producer a.epoch a.seq = lookS (prs L) a.producer a.epoch a.seq := (look_cong hap2.1 hap2.2 hl3 hl1).trans hk1
  rw [h.ldAg 0 rfl ag_api_Entry rfl]
  refine h.ask (fun B2 own base2 => Look_g (base2 r2) (base2 q2) hR2 a) fun w11 h => ?_
  rw [hk2]
  simp -zeta only [ext_2_0, ext_2_1]
  rw [h.ldAg 1 rfl ag_api_Entry rfl]
  refine h.ask (fun B3 own base3 => Look_g (base3 (Dat.mono _ e2.le r1)) (base3 (Dat.mono _ e2.le q1)) hR1 b) fun w12 h => ?_
  simp -zeta only [ext_2_0, ext_2_1]
  rw [h.ldAg 1 rfl ag_api_Entry rfl]
  refine h.ask (fun B2 own base2 => Look_g (base2 r2) (base2 q2) hR2 b) fun w13 h => ?_
  simp -zeta only [ext_2_0, ext_2_1, ifB_true, bin_eql, decide_true]
  refine h.ask (fun B2 own base2 => Right_g (base2 r2) (base2 q2) (hb1 hR2).2 (hb1 hR2).1) fun w14 h => ?_
  rw [rightB_true.2 hR2, ifB_true, ifB_dec]
  have done := fin w14 _ (e1.rel (e2.rel h))
  refine ⟨fun _ => done, fun hw => ?_⟩
  rw [bin_neq]
  have : ¬ (lookS (prs L2) b.producer b.epoch b.seq).2 = 0 := fun hz2 => by
    obtain ⟨g0, g1, _, _⟩ := look_ok hz2
    rw [hself] at g1
    have g1 : b.epoch = (getP (prs L1) b.producer).epoch + 1 := g1
    apply hw
    unfold lookS
    rw [if_neg (fun hh => hh g0), if_neg (by omega), if_pos (by omega)]
  rw [decide_eq_false this]
  exact done
end Go.Proofs.Ytppnebcpalialaa
