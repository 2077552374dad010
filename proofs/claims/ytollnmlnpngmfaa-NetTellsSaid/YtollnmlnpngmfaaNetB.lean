/-
  The network of package net: its functions' contracts. No condition.
-/
import Derived.Test.YtollnmlnpngmfaaNetA
namespace Go.Proofs.Ytollnmlnpngmfaa
open Go.RowKit

theorem szP : Enc.sz Pkt = 3 := rfl
theorem oneCell_slice {a : Option Addr} {n c : Nat} : (Value.slice a n c).oneCell' = true := rfl
theorem row_slice {α : Type} [Enc α] {c : Nat → Nat} {t : Nat} {w : World} {E : TypeId} {v : Value} {l : List α} (h : RowO c t w E v l) : v.oneCell' = true := by
  obtain ⟨a, cap, rfl, _⟩ := h.slice
  rfl

section
variable {K : Value → World → Prop} {w : World} {c : Nat → Nat} {t u b : Nat} {s : NetS}

theorem new_sp (t u : Nat) (k : ∀ c' b w', Step nobody c w c' w' → NetAt c' t u w' b ⟨[], 0⟩ → K (ptr b) w') : upK Try.prog (sCall F_net_New #[]) w K := by
  refine net_New.up (net_New.call ?_)
  unfold net_New.pt
  simp only [build_net0]
  refine box_of (t := t) (c := c) fun c' w' _ hb st => k c' _ w' st ⟨_, hb, RowO.nil _ _ _ _, by simp⟩

theorem split_sp (h : NetAt c t u w b s) (htu : t ≠ u) (m : Int) (k : ∀ w', Step (only t) c w c w' → NetAt c t u w' b (split_ s m) → K (.tuple #[]) w') : upK Try.prog (sCall F_net_Net_Split #[ptr b, .int .i64 m]) w K := by
  refine net_Net_Split.up (net_Net_Split.call ?_)
  unfold net_Net_Split.pt
  obtain ⟨v, hb, hr, hl⟩ := h
  simp only [bin_and, nil_ptr, field_addr TN1]
  refine st_sc TI hb (by simp) rfl fun hb' st => k _ st ⟨v, hb', hr.frame st fun e => htu e.symm, hl⟩

theorem heal_sp (h : NetAt c t u w b s) (htu : t ≠ u) (k : ∀ w', Step (only t) c w c w' → NetAt c t u w' b { s with sp := 0 } → K (.tuple #[]) w') : upK Try.prog (sCall F_net_Net_Heal #[ptr b]) w K := by
  refine net_Net_Heal.up (net_Net_Heal.call ?_)
  unfold net_Net_Heal.pt
  obtain ⟨v, hb, hr, hl⟩ := h
  simp only [nil_ptr, field_addr TN1]
  refine st_sc TI hb (by simp) rfl fun hb' st => k _ st ⟨v, hb', hr.frame st fun e => htu e.symm, hl⟩

theorem count_sp (h : NetAt c t u w b s) (k : K (.int .i64 s.fl.length) w) : upK Try.prog (sCall F_net_Net_Count #[ptr b]) w K := by
  refine net_Net_Count.up (net_Net_Count.call ?_)
  unfold net_Net_Count.pt
  obtain ⟨v, hb, hr, hl⟩ := h
  simp only [nil_ptr, field_addr TN0, ld_sc TSl (hb.cell (o := 0) (v := v) rfl), hr.read.len_eq TP]
  exact k

theorem TPu : Try.prog.underlying T_s_api_Packet = some (.slice T_api_Packet) := by kernel_rfl

/-- slices.Clone -/
theorem clone_sp {v : Value} {l : List Pkt} (x : Nat) (h : RowR c t w v l) (hl : l.length ≤ 1000000) (k : ∀ c' v' w', Step nobody c w c' w' → RowO c' x w' T_api_Packet v' l → K v' w') :
    upK Try.prog (sCall F_slices_Clone_s_api_Packet_api_Packet #[v]) w K := by
  refine slices_Clone_s_api_Packet_api_Packet.up (slices_Clone_s_api_Packet_api_Packet.call ?_)
  unfold slices_Clone_s_api_Packet_api_Packet.pt
  obtain ⟨a, cap, hv⟩ := h.len
  subst hv
  simp only [bin_eql_slice_nil TPu]
  cases a with
  | none =>
    simp only [Option.isNone_none, ifB_true]
    obtain ⟨a', cap', hv', _, hh⟩ := h
    have : l = [] := by
      rcases hh with rfl | ⟨g, o, rfl, _⟩
      · rfl
      · injection hv' with e; cases e
    subst this
    exact k c _ w (Step.refl _ c w) (RowO.nil c x w _)
  | some a =>
    simp only [Option.isNone_some, ifB_false]
    obtain ⟨j, hj, hfr⟩ := exists_fresh c w.heap.size (t + x)
    refine build0 (α := Pkt) (c := c) (t := j) TP fun c1 v1 w1 st1 hr1 _ => ?_
    have h1 := h.frame st1 fun h => h
    refine append_own TP hr1 h1 (by simp; omega) (by simp; omega) fun c2 v2 w2 st2 hr2 => ?_
    have st : Step nobody c w c2 w2 := (Step.trans st1.none st2).hide fun k hk e => Nat.ne_of_lt (hfr k hk) e
    exact k _ v2 w2 (st.repaint x) (hr2.retag (fun k hk => st.old k hk) hfr)

/-- slices.Delete -/
theorem delete_sp {v : Value} {l : List Pkt} (h : RowO c t w T_api_Packet v l) (hl : l.length ≤ 1000000) {i j : Nat} (hij : i < j) (hj : j ≤ l.length)
    (k : ∀ c' v' w', Step (only t) c w c' w' → RowO c' t w' T_api_Packet v' (l.take i ++ l.drop j) → K v' w') :
    upK Try.prog (sCall F_slices_Delete_s_api_Packet_api_Packet #[v, .int .i64 i, .int .i64 j]) w K := by
  refine slices_Delete_s_api_Packet_api_Packet.up (slices_Delete_s_api_Packet_api_Packet.call ?_)
  unfold slices_Delete_s_api_Packet_api_Packet.pt
  have hne : ¬ ((i : Int) = (j : Int)) := by omega
  rcases h.cases with ⟨rfl, rfl⟩ | ⟨g, cap, cur, rfl, hb, hc, hm, hs, htk⟩
  · simp at hj; omega
  · simp only [len_slice TPu, slice3 TP (show i ≤ j by omega) hj hc, bin_eql, hne, decide_false, ifB_false]
    obtain ⟨v2, hv2, hr2⟩ := h.read.cut TP (lov := some (.int .i64 j)) (hiv := none) Bnd.some Bnd.none hj (Nat.le_refl _)
    rw [List.take_length] at hr2
    have e1 : ∀ {Kp : Value → Prop}, pureK Try.prog (sSlice T_s_api_Packet (.slice (some ⟨g, 0, none⟩) l.length cap) none (some (.int .i64 i)) none) Kp = Kp (.slice (some ⟨g, 0, none⟩) i cap) := fun {Kp} =>
      pureK_eq fun w => by
        have := slice_run (α := Pkt) (P := Try.prog) (a := some ⟨g, 0, none⟩) (len := l.length) (cap := cap) (lo := 0) (hi := i) (lov := none) (hiv := some (.int .i64 i)) TP Bnd.none Bnd.some (Nat.zero_le _) (by omega) w
        rw [this]
        simp [addr_add]
    simp only [e1, hv2]
    have hld : (l.drop j).length = l.length - j := by simp
    refine append_room TP hb.tick hr2.tick (n := i) (by omega) hs fun w1 st1 hb1 => ?_
    have e2 : ∀ {Kp : Value → Prop}, pureK Try.prog (sSlice T_s_api_Packet (.slice (some ⟨g, 0, none⟩) (i + (l.drop j).length) cap) (some (.int .i64 ((i + (l.drop j).length : Nat) : Int))) (some (.int .i64 (l.length : Int))) none) Kp = Kp (.slice (some ⟨g, (i + (l.drop j).length) * 3, none⟩) (l.length - (i + (l.drop j).length)) (cap - (i + (l.drop j).length))) := fun {Kp} =>
      pureK_eq fun w => by
        have := slice_run (α := Pkt) (P := Try.prog) (a := some ⟨g, 0, none⟩) (len := i + (l.drop j).length) (cap := cap) (lo := i + (l.drop j).length) (hi := l.length) TP Bnd.some Bnd.some (by omega) hc w
        rw [this, if_neg (by omega)]
        simp [addr_add]
        rfl
    simp only [len_slice TPu, e2]
    have hlen : ((cur.toList.take (i * Enc.sz Pkt) ++ flat (l.drop j) ++ cur.toList.drop ((i + (l.drop j).length) * Enc.sz Pkt)).toArray).size = cap * 3 := by
      have : Enc.sz Pkt = 3 := rfl
      simp only [List.size_toArray, List.length_append, List.length_take, List.length_drop, Array.length_toList, flat_length, hs, this]
      omega
    refine clear_own TP hb1 (by rw [hlen]; simp only [szP]; omega) fun w2 cur2 st2 hb2 hs2 ht2 => ?_
    refine k c _ w2 ((Step.tick _ c w).trans (st1.trans st2)) (RowO.mk_ hb2 (by simp; omega) (by omega) hm (by rw [hs2, hlen]; rfl) ?_)
    rw [show (i + (l.drop j).length) * Enc.sz Pkt = (i + (l.drop j).length) * 3 from rfl, ht2, flat_append, ← flat_take, ← htk, List.take_take]
    rw [Nat.min_eq_left (Nat.mul_le_mul_right _ (by omega))]
    exact List.take_left' (by simp only [List.length_append, List.length_take, Array.length_toList, flat_length, hs, szP]; omega)


def ofPkt (p : Pkt) (e : Int) : Value := .tuple #[pval p, .int .i64 e]

theorem build1p (p : Pkt) (x : Nat) (k : ∀ c' v w', Step nobody c w c' w' → RowO c' x w' T_api_Packet v [p] → K v w') : upK Try.prog (sBuildSlice T_s_api_Packet 1 #[(0, pval p)]) w K :=
  build1 (t := x) p TP (by simp only [szP]; omega) k

theorem send_sp (h : NetAt c t u w b s) (htu : t ≠ u) (f g : Int) (m : ByteArray) (k : ∀ c' w', Step (two t u) c w c' w' → NetAt c' t u w' b (send s ⟨f, g, m⟩).2 → K (.int .i64 (send s ⟨f, g, m⟩).1) w') :
    upK Try.prog (sCall F_net_Net_Send #[ptr b, .int .i64 f, .int .i64 g, .string m]) w K := by
  refine net_Net_Send.up (net_Net_Send.call ?_)
  unfold net_Net_Send.pt
  have same : ∀ e w', Step (two t u) c w c w' → NetAt c t u w' b s → send s ⟨f, g, m⟩ = (e, s) → K (.int .i64 e) w' := by
    intro e w' st hn he
    have := k c w'
    rw [he] at this
    exact this st hn
  refine end_sp f ?_
  simp only [un_not, ifB_not]
  rw [ifB_bool]
  refine ⟨fun hf => ?_, fun hf => same 1 w (Step.refl _ c w) h (by simp [send, hf])⟩
  refine end_sp g ?_
  simp only [un_not, ifB_not]
  rw [ifB_bool]
  refine ⟨fun hg => ?_, fun hg => same 1 w (Step.refl _ c w) h (by simp [send, hg])⟩
  simp only [bin_eql, ifB_dec]
  refine ⟨fun e => same 1 w (Step.refl _ c w) h (by simp [send, e]), fun hne => ?_⟩
  refine hear_sp h f g ?_
  simp only [un_not, ifB_not]
  rw [ifB_bool]
  have stt := Step.tick (two t u) c w
  refine ⟨fun hh => ?_, fun hh => same 10 _ stt h.tick (by simp [send, hf, hg, hne, hh])⟩
  obtain ⟨v, hb, hr, hl⟩ := h.tick
  simp only [nil_ptr, field_addr TN0, ld_sc TSl (hb.cell (o := 0) (v := v) rfl), hr.read.len_eq TP, bin_geq, ifB_dec]
  refine ⟨fun hfull => same 6 _ stt h.tick (by simp [send, hf, hg, hne, hh]; omega), fun hfull => ?_⟩
  simp only [build_pkt]
  refine build1p (c := c) ⟨f, g, m⟩ (t + u + 1) fun c1 v1 w1 st1 hr1 => ?_
  have hr' := hr.frame st1 fun h => h
  have hb' := hb.frame st1 fun h => h
  refine append_own TP hr' hr1.read (by simp; omega) (by simp; omega) fun c2 v2 w2 st2 hr2 => ?_
  have hb2 := hb'.frame st2 htu
  have hs : send s ⟨f, g, m⟩ = (0, { s with fl := s.fl ++ [⟨f, g, m⟩] }) := by
    simp [send, hf, hg, hne, hh]; omega
  refine st_sc TSl hb2 (by simp) (row_slice hr2) fun hb3 st3 => ?_
  have := k c2 (w2.setCell ⟨b, 0, none⟩ v2)
  rw [hs] at this
  refine this (stt.trans (st1.none.trans ((st2.mono fun x h => .inr h).trans (st3.mono fun x h => .inl h)))) ⟨v2, hb3, hr2.frame st3 fun e => htu e.symm, by simp; omega⟩

end
end Go.Proofs.Ytollnmlnpngmfaa
