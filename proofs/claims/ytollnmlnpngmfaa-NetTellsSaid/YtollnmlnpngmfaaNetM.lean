/-
  The reference's network, the second half: deliver, drop, double, split, copy, and the law's model. No condition.
-/
import Derived.Test.YtollnmlnpngmfaaNetR
namespace Go.Proofs.Ytollnmlnpngmfaa
open Go.RowKit

section
variable {K : Value → World → Prop} {w : World} {c : Nat → Nat} {t u b : Nat} {s : NetS}

theorem rsplit_sp (h : RefAt c t u w b s) (htu : t ≠ u) (m : Int) (k : ∀ w', Step (only t) c w c w' → RefAt c t u w' b (split_ s m) → K (.tuple #[]) w') : upK Try.prog (sCall F_errataref07_Net_Split #[ptr b, .int .i64 m]) w K := by
  refine errataref07_Net_Split.up (errataref07_Net_Split.call ?_)
  unfold errataref07_Net_Split.pt
  obtain ⟨v, hb, hr, hl⟩ := h
  simp only [bin_and, nil_ptr, field_addr TR1]
  refine st_sc TI hb (by simp) rfl fun hb' st => k _ st ⟨v, hb', hr.frame st fun e => htu e.symm, hl⟩

theorem rdrop_sp (h : RefAt c t u w b s) (htu : t ≠ u) (i : Int) (k : ∀ c' w', Step (two t u) c w c' w' → RefAt c' t u w' b (drop_ s i).2 → K (.int .i64 (drop_ s i).1) w') :
    upK Try.prog (sCall F_errataref07_Net_Drop #[ptr b, .int .i64 i]) w K := by
  refine errataref07_Net_Drop.up (errataref07_Net_Drop.call ?_)
  unfold errataref07_Net_Drop.pt
  have same : drop_ s i = (4, s) → K (.int .i64 4) w := by
    intro he
    rw [he] at k
    exact k c w (Step.refl _ c w) h
  simp only [bin_lss, ifB_dec]
  refine ⟨fun h0 => same (by have : inl s i = false := by simp [inl]; omega
                             simp [drop_, this]), fun h0 => ?_⟩
  have h' := h
  obtain ⟨v, hb, hr, hl⟩ := h'
  simp only [nil_ptr, field_addr TR0, ld_sc TSl (hb.cell (o := 0) (v := v) rfl), hr.read.len_eq TP, bin_geq, ifB_dec]
  refine ⟨fun h1 => same (by have : inl s i = false := by simp [inl]; omega
                             simp [drop_, this]), fun h1 => ?_⟩
  have hi : inl s i = true := by simp [inl]; omega
  obtain ⟨n, rfl, hn⟩ := inl_iff.1 hi
  have e : drop_ s n = (0, rm s n) := by simp [drop_, hi]
  rw [e] at k
  exact rremove_sp h htu n hn k

theorem rdeliver_sp (h : RefAt c t u w b s) (htu : t ≠ u) (i : Int) (k : ∀ c' w', Step (two t u) c w c' w' → RefAt c' t u w' b (deliver s i).2 → K (ofPkt (deliver s i).1.1 (deliver s i).1.2) w') :
    upK Try.prog (sCall F_errataref07_Net_Deliver #[ptr b, .int .i64 i]) w K := by
  refine errataref07_Net_Deliver.up (errataref07_Net_Deliver.call ?_)
  unfold errataref07_Net_Deliver.pt
  obtain ⟨j, hj, hfr⟩ := exists_fresh c w.heap.size (t + u)
  refine alloc_p j c fun c1 b1 w1 st1 hv => ?_
  have h1 := h.frame st1 (fun h => h) (fun h => h)
  let T : Nat → Prop := fun x => x = t ∨ x = u ∨ j ≤ x
  have hT : ∀ k, k < w.heap.size → T (c k) → two t u (c k) := fun k hk e => by
    rcases e with e | e | e
    · exact .inl e
    · exact .inr e
    · have := hfr k hk; omega
  have h2T : ∀ x, two t u x → T x := fun x e => e.elim .inl fun e => .inr (.inl e)
  have hjT : ∀ x, only j x → T x := fun x (e : x = j) => .inr (.inr (by omega))
  have fin : ∀ (q : Pkt) (e : Int) (c2 : Nat → Nat) (w2 : World) (s' : NetS), Step T c1 w1 c2 w2 → VarP c2 j w2 b1 pzero → RefAt c2 t u w2 b s' → deliver s i = ((q, e), s') →
      upK Try.prog (sStore T_api_Packet (ptr b1) (pval q)) w2 fun _ w3 => readV Try.prog (do loadVar T_api_Packet (← asAddr (ptr b1))) w3 fun x => K (.tuple #[x, .int .i64 e]) w3 := by
    intro q e c2 w2 s' st hv2 hn2 he
    rw [he] at k
    refine store_p hv2 q fun w3 st3 hv3 => ?_
    rw [res_p hv3]
    exact k c2 w3 ((st1.none.trans (st.trans (st3.mono hjT))).hide hT) (hn2.frame st3 (show ¬ t = j by omega) (show ¬ u = j by omega))
  have hjn : ¬ two t u j := fun e => by rcases e with e | e <;> omega
  have out : inl s i = false → upK Try.prog (sStore T_api_Packet (ptr b1) (pval pzero)) w1 fun _ w3 => readV Try.prog (do loadVar T_api_Packet (← asAddr (ptr b1))) w3 fun x => K (.tuple #[x, .int .i64 4]) w3 := fun hi =>
    fin pzero 4 c1 w1 s (Step.refl _ _ _) hv h1 (by simp [deliver, hi])
  simp only [bin_lss, ifB_dec, build_pkt0]
  refine ⟨fun h0 => out (by simp [inl]; omega), fun h0 => ?_⟩
  have h1' := h1
  obtain ⟨v, hb, hr, hl⟩ := h1'
  simp only [nil_ptr, field_addr TR0, ld_sc TSl (hb.cell (o := 0) (v := v) rfl), hr.read.len_eq TP, bin_geq, ifB_dec]
  refine ⟨fun h2 => out (by simp [inl]; omega), fun h2 => ?_⟩
  have hi : inl s i = true := by simp [inl]; omega
  obtain ⟨n, rfl, hn⟩ := inl_iff.1 hi
  obtain ⟨x, hx1, hx2⟩ := loadAt_p hr.read hn
  rw [hx1, hx2]
  refine alloc_store_p (j + 1) c1 _ fun c3 b3 w3 st3 hv3 => ?_
  refine rremove_sp (h1.frame st3 (fun h => h) (fun h => h)) htu n hn fun c4 w4 st4 hn4 => ?_
  have hv4 := hv3.frame st4 (show ¬ two t u (j + 1) from fun e => by rcases e with e | e <;> omega)
  have st : Step T c1 w1 c4 w4 := st3.none.trans (st4.mono h2T)
  have e1 : at_ s n = s.fl[n] := by simp [at_, List.getD, hn]
  rw [← e1] at hv4
  simp only [field_addr TK0, field_addr TK1, ld_sc TI (Blk.cell hv4 (o := 0) (v := .int .i64 (at_ s n).frm) rfl), ld_sc TI (Blk.cell hv4 (o := 1) (v := .int .i64 (at_ s n).to) rfl)]
  refine rhear_sp hn4 _ _ ?_
  have hh : hear (rm s n) (at_ s n).frm (at_ s n).to = hear s (at_ s n).frm (at_ s n).to := rfl
  have hv5 := (hv.frame st3 fun h => h).frame st4 hjn
  simp only [un_not, ifB_not]
  rw [ifB_bool, hh]
  refine ⟨fun e => ?_, fun e => ?_⟩
  · rw [load_p hv4]
    exact fin _ 0 c4 _ _ st hv5 hn4 (by simp [deliver, hi, e])
  · exact fin _ 10 c4 _ _ st hv5 hn4 (by simp [deliver, hi, e])

theorem rcopy_sp (h : RefAt c t u w b s) (t' u' : Nat) (k : ∀ c' b' w', Step nobody c w c' w' → RefAt c' t' u' w' b' s → K (ptr b') w') : upK Try.prog (sCall F_errataref07_Net_Copy #[ptr b]) w K := by
  refine errataref07_Net_Copy.up (errataref07_Net_Copy.call ?_)
  unfold errataref07_Net_Copy.pt
  obtain ⟨v, hb, hr, hl⟩ := h.tick
  obtain ⟨j, hj, hfr⟩ := exists_fresh c w.heap.size (t + u + u')
  simp only [nil_ptr, field_addr TR0, field_addr TR1, ld_sc TSl (hb.cell (o := 0) (v := v) rfl), ld_sc TI (hb.cell (o := 1) (v := .int .i64 s.sp) rfl)]
  refine build0 (α := Pkt) (c := c) (t := j) TP fun c1 v1 w1 st1 hr1 _ => ?_
  have hb1 := hb.frame st1 fun h => h
  refine ⟨run_load_sc TI (hb1.cell (o := 1) (v := .int .i64 s.sp) rfl), run_load_sc TSl (hb1.cell (o := 0) (v := v) rfl), ?_⟩
  refine append_own TP hr1 (hr.read.frame st1 fun h => h) (by simp; omega) (by simp; omega) fun c2 v2 w2 st2 hr2 => ?_
  have hb2 := hb1.frame st2 (show ¬ t = j by omega)
  refine ⟨run_load_sc TI (hb2.cell (o := 1) (v := .int .i64 s.sp) rfl), ?_⟩
  have hst : Step nobody c w c2 w2 := ((Step.tick _ c w).trans (st1.none.trans st2)).hide fun k hk (e : c k = j) => by have := hfr k hk; omega
  have hr3 := hr2.retag (x := u') (fun k hk => hst.old k hk) hfr
  have hst' := hst.repaint u'
  obtain ⟨a, cap, hv2, _⟩ := hr3.slice
  subst hv2
  simp only [build_ref]
  refine box_of (t := t') (c := paint c w.heap.size u') fun c3 w3 _ hb3 st3 => ?_
  exact k c3 _ w3 (hst'.trans st3) ⟨_, hb3, by simpa using hr3.frame st3 fun h => h, hl⟩

theorem rdouble_sp (h : RefAt c t u w b s) (htu : t ≠ u) (i : Int) (k : ∀ c' w', Step (two t u) c w c' w' → RefAt c' t u w' b (double s i).2 → K (.int .i64 (double s i).1) w') :
    upK Try.prog (sCall F_errataref07_Net_Double #[ptr b, .int .i64 i]) w K := by
  refine errataref07_Net_Double.up (errataref07_Net_Double.call ?_)
  unfold errataref07_Net_Double.pt
  have same : ∀ e, double s i = (e, s) → K (.int .i64 e) w := by
    intro e he
    rw [he] at k
    exact k c w (Step.refl _ c w) h
  obtain ⟨v, hb, hr, hl⟩ := h
  simp -zeta only [bin_lss, ifB_dec, nil_ptr, field_addr TR0, ld_sc TSl (hb.cell (o := 0) (v := v) rfl), hr.read.len_eq TP, bin_geq]
  refine ⟨fun h0 => same 4 (by have : inl s i = false := by simp [inl]; omega
                               simp [double, this]), fun h0 => ⟨fun h1 => same 4 (by have : inl s i = false := by simp [inl]; omega
                                                                                     simp [double, this]), fun h1 => ?_⟩⟩
  have hi : inl s i = true := by simp [inl]; omega
  obtain ⟨n, rfl, hn⟩ := inl_iff.1 hi
  refine ⟨fun h2 => same 6 (by simp [double, hi]; omega), fun h2 => ?_⟩
  have hs : double s n = (0, { s with fl := s.fl ++ [at_ s n] }) := by simp [double, hi]; omega
  have e1 : at_ s n = s.fl[n] := by simp [at_, List.getD, hn]
  rw [hs, e1] at k
  obtain ⟨j, hj, hfr⟩ := exists_fresh c w.heap.size (t + u)
  have hb0 := hb
  replace hb := hb.tick
  replace hr := hr.tick
  obtain ⟨g, o, hx, hc⟩ := pktAt hr.read hn
  intro J1
  have hJ : ∀ c1 v1 w1, Step (fun x => x = j ∨ x = j + 1) c (tick w) c1 w1 → RowO c1 j w1 T_api_Packet v1 (s.fl ++ [s.fl[n]]) →
      upK Try.prog (sStore T_s_api_Packet (.pointer (some ⟨b, 0 + 0, none⟩)) v1) w1 fun _ w2 => J1 w2 := by
    intro c1 v1 w1 st1 hr1
    have hst : Step nobody c w c1 w1 := ((Step.tick _ c w).trans st1).hide fun k hk e => by have := hfr k hk; rcases e with e | e <;> omega
    have hst' := hst.repaint u
    have hr2 := hr1.retag (x := u) (fun k hk => hst.old k hk) hfr
    have hb3 : Blk (paint c w.heap.size u) t w1 b T_errataref07_Net #[v, .int .i64 s.sp] := Blk.frame (w := w) hb0 hst' fun h => h
    refine st_sc TSl hb3 (by simp) (row_slice hr2) fun hb5 st5 => ?_
    exact k _ _ (hst'.none.trans (st5.mono fun x h => .inl h)) ⟨v1, hb5, hr2.frame st5 fun e => htu e.symm, by simp; omega⟩
  clear_value J1
  let T : Nat → Prop := fun x => x = j ∨ x = j + 1
  have nt : ¬ T t := fun e => by rcases e with e | e <;> omega
  have nu : ¬ T u := fun e => by rcases e with e | e <;> omega
  have mT : ∀ x, only j x → T x := fun x e => .inl e
  have lb : ∀ {c' w'}, Step T c (Go.Proofs.Ytollnmlnpngmfaa.tick w) c' w' → Is Try.prog (sLoad T_s_api_Packet (.pointer (some ⟨b, 0 + 0, none⟩))) v w' := fun st => run_load_sc TSl ((hb.frame st nt).cell (o := 0) (v := v) rfl)
  have lp : ∀ {c' w'}, Step T c (Go.Proofs.Ytollnmlnpngmfaa.tick w) c' w' → Is Try.prog (sLoad T_api_Packet (.pointer (some ⟨g, o, none⟩))) (pval s.fl[n]) w' := fun st => is_p (hc.frame st nu)
  simp -zeta only [ld_sc TSl (hb.cell (o := 0) (v := v) rfl), hx, ld_p hc]
  refine ⟨?_, ?_⟩
  · refine build0 (α := Pkt) (c := c) (t := j) TP fun c1 v1 w1 st1 hr1 _ => ?_
    replace st1 : Step T c _ c1 w1 := st1.none
    refine ⟨lp st1, lb st1, lb st1, ?_, ?_⟩
    · refine append_own TP hr1 (hr.read.frame st1 nu) (by simp; omega) (by simp; omega) fun c2 v2 w2 st2 hr2 => ?_
      replace st1 := st1.trans (st2.mono mT)
      refine ⟨lp st1, lb st1, ?_⟩
      refine build1p (c := c2) _ (j + 1) fun c3 v3 w3 st3 hr3 => ?_
      replace st1 := st1.trans st3.none
      refine ⟨lb st1, ?_⟩
      refine append_own TP (hr2.frame st3 fun h => h) hr3.read (by simp; omega) (by simp; omega) fun c4 v4 w4 st4 hr4 => ?_
      exact hJ c4 v4 w4 (st1.trans (st4.mono mT)) (by simpa using hr4)
    · refine build1p (c := c1) _ (j + 1) fun c3 v3 w3 st3 hr3 => ?_
      replace st1 := st1.trans st3.none
      refine ⟨lb st1, ?_⟩
      refine append_own TP (hr1.frame st3 fun h => h) (hr.read.frame st1 nu) (by simp; omega) (by simp; omega) fun c2 v2 w2 st2 hr2 => ?_
      replace st1 := st1.trans (st2.mono mT)
      refine ⟨lp st1, lb st1, ?_⟩
      refine append_own TP hr2 (hr3.read.frame st2 (by unfold only; omega)) (by simp; omega) (by simp; omega) fun c4 v4 w4 st4 hr4 => ?_
      exact hJ c4 v4 w4 (st1.trans (st4.mono mT)) (by simpa using hr4)
  · refine build1p (c := c) _ (j + 1) fun c3 v3 w3 st3 hr3 => ?_
    replace st3 : Step T c _ c3 w3 := st3.none
    refine ⟨lb st3, ?_⟩
    refine build0 (α := Pkt) (c := c3) (t := j) TP fun c1 v1 w1 st1 hr1 _ => ?_
    replace hr3 := hr3.frame st1 fun h => h
    replace st1 := st3.trans st1.none
    refine ⟨lp st1, lb st1, lb st1, ?_⟩
    refine append_own TP hr1 (hr.read.frame st1 nu) (by simp; omega) (by simp; omega) fun c2 v2 w2 st2 hr2 => ?_
    replace st1 := st1.trans (st2.mono mT)
    refine ⟨lp st1, lb st1, ?_⟩
    refine append_own TP hr2 (hr3.read.frame st2 (by unfold only; omega)) (by simp; omega) (by simp; omega) fun c4 v4 w4 st4 hr4 => ?_
    exact hJ c4 v4 w4 (st1.trans (st4.mono mT)) (by simpa using hr4)

theorem model_sp (h : RefAt c t u w b s) (htu : t ≠ u) (x : OpD) (k : ∀ c' w', Step (two t u) c w c' w' → RefAt c' t u w' b (step s x).2 → K (ofPkt (step s x).1.1 (step s x).1.2) w') :
    upK Try.prog (sCall F_erratalaw07_model #[ptr b, oval x]) w K := by
  refine erratalaw07_model.up (erratalaw07_model.call ?_)
  unfold erratalaw07_model.pt
  obtain ⟨j, hj, hfr⟩ := exists_fresh c w.heap.size (t + u)
  refine box_o j c x fun c1 b1 w1 st1 ho => ?_
  refine alloc_p (j + 1) c1 fun c2 b2 w2 st2 hv => ?_
  have ho := ho.frame st2 fun h => h
  have st := st1.trans st2
  have hn := h.frame st (fun h => h) (fun h => h)
  let T : Nat → Prop := fun x => x = t ∨ x = u ∨ j ≤ x
  have hT : ∀ k, k < w.heap.size → T (c k) → two t u (c k) := fun k hk e => by
    rcases e with e | e | e
    · exact .inl e
    · exact .inr e
    · have := hfr k hk; omega
  have h2T : ∀ x, two t u x → T x := fun x e => e.elim .inl fun e => .inr (.inl e)
  have hjn : ¬ two t u (j + 1) := fun e => by rcases e with e | e <;> omega
  have fin : ∀ (q : Pkt) (e : Int) (c3 : Nat → Nat) (w3 : World) (s' : NetS), Step T c2 w2 c3 w3 → VarP c3 (j + 1) w3 b2 pzero → RefAt c3 t u w3 b s' → step s x = ((q, e), s') →
      upK Try.prog (sStore T_api_Packet (ptr b2) (pval q)) w3 fun _ w4 => readV Try.prog (do loadVar T_api_Packet (← asAddr (ptr b2))) w4 fun z => K (.tuple #[z, .int .i64 e]) w4 := by
    intro q e c3 w3 s' st3 hv3 hn3 he
    rw [he] at k
    refine store_p hv3 q fun w4 st4 hv4 => ?_
    rw [res_p hv4]
    exact k c3 w4 ((st.none.trans (st3.trans (st4.mono fun x (e : x = j + 1) => .inr (.inr (by omega))))).hide hT) (hn3.frame st4 (show ¬ t = j + 1 by omega) (show ¬ u = j + 1 by omega))
  simp -zeta only [field_addr TO0, field_addr TO1, field_addr TO2, field_addr TO3, ho.f0, ho.f1, ho.f2, ho.f3, bin_and, and7, bin_eql, ifB_dec, build_pkt0]
  refine ⟨fun e3 => ?_, fun e3 => ⟨fun e4 => ?_, fun e4 => ⟨fun e5 => ?_, fun e5 => ⟨fun e6 => ?_, fun e6 => ⟨fun e7 => ?_, fun e7 => ?_⟩⟩⟩⟩⟩
  · refine rdeliver_sp hn htu x.n fun c3 w3 st3 hn3 => ?_
    simp only [ofPkt, ext_2_0, ext_2_1]
    exact fin _ _ c3 w3 _ (st3.mono h2T) (hv.frame st3 hjn) hn3 (by simp [step, e3])
  · refine rdrop_sp hn htu x.n fun c3 w3 st3 hn3 => ?_
    exact fin _ _ c3 w3 _ (st3.mono h2T) (hv.frame st3 hjn) hn3 (by simp [step, e4])
  · refine rdouble_sp hn htu x.n fun c3 w3 st3 hn3 => ?_
    exact fin _ _ c3 w3 _ (st3.mono h2T) (hv.frame st3 hjn) hn3 (by simp [step, e5])
  · refine rsplit_sp hn htu x.n fun w3 st3 hn3 => ?_
    exact fin _ _ c2 w3 _ (st3.mono fun x e => .inl e) (hv.frame st3 (show ¬ j + 1 = t by omega)) hn3 (by simp [step, e6])
  · refine rsplit_sp hn htu 0 fun w3 st3 hn3 => ?_
    have e0 : split_ s 0 = { s with sp := 0 } := by unfold split_; rw [show mask16 0 = 0 from by kernel_rfl]
    rw [e0] at hn3
    exact fin _ _ c2 w3 _ (st3.mono fun x e => .inl e) (hv.frame st3 (show ¬ j + 1 = t by omega)) hn3 (by simp [step, e7])
  · refine rsend_sp hn htu _ _ _ fun c3 w3 st3 hn3 => ?_
    exact fin _ _ c3 w3 _ (st3.mono h2T) (hv.frame st3 hjn) hn3 (by simp [step, e3, e4, e5, e6, e7])
end
end Go.Proofs.Ytollnmlnpngmfaa
