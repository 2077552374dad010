/-
  The network of package net: taking, delivering, doubling, copying. No condition.
-/
import Derived.Test.YtollnmlnpngmfaaNetB
namespace Go.Proofs.Ytollnmlnpngmfaa
open Go.RowKit

theorem pcells (p : Pkt) : (pval p).cells = #[.int .i64 p.frm, .int .i64 p.to, .string p.body] := rfl
theorem pone (p : Pkt) : ∀ v ∈ (pval p).cells, v.oneCell' = true := by
  intro v hv
  simp only [pcells, List.mem_toArray, List.mem_cons, List.not_mem_nil, or_false] at hv
  rcases hv with rfl | rfl | rfl <;> rfl

/-- A variable that holds a packet. -/
def VarP (c : Nat → Nat) (t : Nat) (w : World) (b : Nat) (p : Pkt) : Prop := Blk c t w b T_api_Packet (pval p).cells

section
variable {K : Value → World → Prop} {Kp : Value → Prop} {w : World} {c : Nat → Nat} {t u b : Nat} {s : NetS} {p : Pkt}

theorem alloc_p (t : Nat) (c : Nat → Nat) (k : ∀ c' b w', Step nobody c w c' w' → VarP c' t w' b pzero → K (ptr b) w') : upK Try.prog (sAlloc T_api_Packet) w K :=
  alloc_of (t := t) (c := c) TPz fun c' w' _ hb st => k c' _ w' st hb
theorem box_p (t : Nat) (c : Nat → Nat) (p : Pkt) (k : ∀ c' b w', Step nobody c w c' w' → VarP c' t w' b p → K (ptr b) w') : upK Try.prog (sBox T_api_Packet (pval p)) w K :=
  box_of (t := t) (c := c) fun c' w' _ hb st => k c' _ w' st hb
theorem store_p (h : VarP c t w b p) (q : Pkt) (k : ∀ w', Step (only t) c w c w' → VarP c t w' b q → K undef w') : upK Try.prog (sStore T_api_Packet (ptr b) (pval q)) w K :=
  st_ag TPag h rfl (by simp [pcells]) (pone q) fun w' hb st => k w' st (by simpa [VarP, pval, Value.cells] using hb)
theorem load_p (h : VarP c t w b p) : readK Try.prog (sLoad T_api_Packet (ptr b)) w Kp = Kp (pval p) :=
  ld_ag (vs := [.int .i64 p.frm, .int .i64 p.to, .string p.body]) TPag rfl fun j v hv => by rw [Nat.zero_add]; exact h.cell (by simpa [pcells] using hv)
theorem res_p (h : VarP c t w b p) : readV Try.prog (do loadVar T_api_Packet (← asAddr (ptr b))) w Kp = Kp (pval p) := by
  have hr := run_load_ag (P := Try.prog) (w := w) (g := b) (o := 0) (vs := [.int .i64 p.frm, .int .i64 p.to, .string p.body]) TPag rfl fun j v hv => by rw [Nat.zero_add]; exact h.cell (by simpa [pcells] using hv)
  have hr2 : (do loadVar T_api_Packet (← asAddr (ptr b)) : Sem Value).run Try.prog w = .ok (pval p) w := by
    have e : (sLoad T_api_Packet (ptr b)) = vN (do loadVar T_api_Packet (← asAddr (ptr b))) := rfl
    rw [e] at hr
    unfold vN at hr
    rw [Sem.run_bind] at hr
    revert hr
    generalize ((do loadVar T_api_Packet (← asAddr (ptr b)) : Sem Value).run Try.prog w) = r
    intro hr
    cases r with
    | ok a w' => simp at hr; obtain ⟨rfl, rfl⟩ := hr; rfl
    | halt x w' => cases hr
  exact propext ⟨fun ⟨v, h1, h2⟩ => by rw [hr2] at h1; cases h1; exact h2, fun h => ⟨_, hr2, h⟩⟩

theorem VarP.frame {T : Nat → Prop} {c' : Nat → Nat} {w' : World} (h : VarP c t w b p) (st : Step T c w c' w') (ht : ¬ T t) : VarP c' t w' b p := Blk.frame h st ht

theorem loadAt_p {v : Value} {l : List Pkt} (h : RowR c t w v l) {i : Nat} (hi : i < l.length) : ∃ x, (∀ {Kp : Value → Prop}, pureK Try.prog (sIdxAddr T_s_api_Packet v (.int .i64 i)) Kp = Kp x) ∧ (∀ {Kp : Value → Prop}, readK Try.prog (sLoad T_api_Packet x) w Kp = Kp (pval l[i])) := by
  obtain ⟨g, o, _, _, h1, h2⟩ := h.idx TP hi
  refine ⟨_, h1, fun {Kp} => ?_⟩
  exact ld_ag (vs := [.int .i64 l[i].frm, .int .i64 l[i].to, .string l[i].body]) TPag rfl h2

theorem inl_iff {s : NetS} {i : Int} : inl s i = true ↔ ∃ n : Nat, i = n ∧ n < s.fl.length := by
  simp only [inl, Bool.and_eq_true, decide_eq_true_eq]
  constructor
  · rintro ⟨h1, h2⟩; exact ⟨i.toNat, by omega, by omega⟩
  · rintro ⟨n, rfl, h⟩; omega

theorem take_no (h : NetAt c t u w b s) (i : Int) (hi : inl s i = false) (k : ∀ c' w', Step nobody c w c' w' → K (.tuple #[pval pzero, .bool false]) w') :
    upK Try.prog (sCall F_net_Net_take #[ptr b, .int .i64 i]) w K := by
  refine net_Net_take.up (net_Net_take.call ?_)
  unfold net_Net_take.pt
  obtain ⟨j, hj, hfr⟩ := exists_fresh c w.heap.size (t + u)
  refine alloc_p j c fun c1 b1 w1 st1 hv => ?_
  have fin : upK Try.prog (sStore T_api_Packet (ptr b1) (pval pzero)) w1 fun tu w2 => readV Try.prog (do loadVar T_api_Packet (← asAddr (ptr b1))) w2 fun t4_1 => K (.tuple #[t4_1, .bool false]) w2 := by
    refine store_p hv pzero fun w2 st2 hv2 => ?_
    rw [res_p hv2]
    exact k c1 w2 ((st1.none.trans st2).hide fun k hk e => Nat.ne_of_lt (hfr k hk) e)
  simp only [bin_lss, ifB_dec, build_pkt0]
  refine ⟨fun _ => fin, fun h0 => ?_⟩
  obtain ⟨v, hb, hr, hl⟩ := h.frame st1 (fun h => h) (fun h => h)
  simp only [nil_ptr, field_addr TN0, ld_sc TSl (hb.cell (o := 0) (v := v) rfl), hr.read.len_eq TP, bin_geq, ifB_dec]
  refine ⟨fun _ => fin, fun h1 => ?_⟩
  simp [inl] at hi
  omega

theorem take_yes (h : NetAt c t u w b s) (htu : t ≠ u) (i : Nat) (hi : i < s.fl.length) (k : ∀ c' w', Step (two t u) c w c' w' → NetAt c' t u w' b (rm s i) → K (.tuple #[pval (at_ s i), .bool true]) w') :
    upK Try.prog (sCall F_net_Net_take #[ptr b, .int .i64 i]) w K := by
  refine net_Net_take.up (net_Net_take.call ?_)
  unfold net_Net_take.pt
  obtain ⟨j, hj, hfr⟩ := exists_fresh c w.heap.size (t + u)
  refine alloc_p j c fun c1 b1 w1 st1 hv => ?_
  have h0 : ¬ ((i : Int) < 0) := by omega
  simp only [bin_lss, ifB_dec, h0]
  refine ⟨fun h => h.elim, fun _ => ?_⟩
  obtain ⟨v, hb, hr, hl⟩ := h.frame st1 (fun h => h) (fun h => h)
  have h1 : ¬ ((s.fl.length : Int) ≤ i) := by omega
  obtain ⟨x, hx1, hx2⟩ := loadAt_p hr.read hi
  simp only [nil_ptr, field_addr TN0, ld_sc TSl (hb.cell (o := 0) (v := v) rfl), hr.read.len_eq TP, bin_geq, ifB_dec, h1]
  refine ⟨fun h => h.elim, fun _ => ?_⟩
  rw [hx1, hx2]
  refine alloc_p (j + 1) c1 fun c2 b2 w2 st2 hv2 => ?_
  have hvv := hv.frame st2 fun h => h
  refine store_p hv2 _ fun w3 st3 hv3 => ?_
  have hne1 : t ≠ j + 1 := by omega
  have hne2 : u ≠ j + 1 := by omega
  have hb3 := (hb.frame st2 fun h => h).frame st3 hne1
  have hr3 := (hr.frame st2 fun h => h).frame st3 hne2
  have hw : IntKind.wrap .i64 ((i : Int) + 1) = ((i + 1 : Nat) : Int) := by rw [IntWalk.i64_in _ (by omega)]; omega
  simp only [nil_ptr, field_addr TN0, ld_sc TSl (hb3.cell (o := 0) (v := v) rfl), bin_add, hw]
  refine delete_sp hr3 (by omega) (show i < i + 1 by omega) (by omega) fun c4 v4 w4 st4 hr4 => ?_
  have hb4 := hb3.frame st4 htu
  refine st_sc TSl hb4 (by simp) (row_slice hr4) fun hb5 st5 => ?_
  have hv5 := (hv3.frame st4 (Ne.symm hne2)).frame st5 (Ne.symm hne1)
  have hvv5 := ((hvv.frame st3 (by simp [only])).frame st4 (show ¬ j = u by omega)).frame st5 (show ¬ j = t by omega)
  rw [load_p hv5]
  refine store_p hvv5 _ fun w6 st6 hv6 => ?_
  rw [res_p hv6]
  have e1 : at_ s i = s.fl[i] := by simp [at_, List.getD, hi]
  have e2 : rm s i = { s with fl := s.fl.take i ++ s.fl.drop (i + 1) } := by simp [rm]
  rw [e1, e2] at k
  let T : Nat → Prop := fun x => x = t ∨ x = u ∨ j ≤ x
  have st : Step T c w c4 w6 := st1.none.trans (st2.none.trans ((st3.mono fun x (h : x = j + 1) => Or.inr (Or.inr (by omega))).trans ((st4.mono fun x h => Or.inr (Or.inl h)).trans
    ((st5.mono fun x h => Or.inl h).trans (st6.mono fun x (h : x = j) => Or.inr (Or.inr (by omega)))))))
  refine k c4 w6 (st.hide fun k hk e => ?_) ⟨v4, hb5.frame st6 (show ¬ t = j by omega), (hr4.frame st5 fun e => htu e.symm).frame st6 (show ¬ u = j by omega), ?_⟩
  · rcases e with e | e | e
    · exact .inl e
    · exact .inr e
    · have := hfr k hk; omega
  · simp; omega

theorem alloc_store_p (t : Nat) (c : Nat → Nat) (q : Pkt) {K' : Value → World → Prop} (k : ∀ c' b w', Step nobody c w c' w' → VarP c' t w' b q → K' (ptr b) w') :
    upK Try.prog (sAlloc T_api_Packet) w fun p w1 => upK Try.prog (sStore T_api_Packet p (pval q)) w1 fun _ w2 => K' p w2 := by
  obtain ⟨j, hj, hfr⟩ := exists_fresh c w.heap.size t
  refine alloc_p j c fun c1 b w1 st1 hv => ?_
  refine store_p hv q fun w2 st2 hv2 => ?_
  have st : Step nobody c w c1 w2 := (st1.none.trans st2).hide fun k hk e => Nat.ne_of_lt (hfr k hk) e
  exact k _ b w2 (st.repaint t) (Blk.retag hv2 (fun k hk => st.old k hk) hfr)

theorem drop_sp (h : NetAt c t u w b s) (htu : t ≠ u) (i : Int) (k : ∀ c' w', Step (two t u) c w c' w' → NetAt c' t u w' b (drop_ s i).2 → K (.int .i64 (drop_ s i).1) w') :
    upK Try.prog (sCall F_net_Net_Drop #[ptr b, .int .i64 i]) w K := by
  refine net_Net_Drop.up (net_Net_Drop.call ?_)
  unfold net_Net_Drop.pt
  cases hi : inl s i with
  | false =>
    have e : drop_ s i = (4, s) := by simp [drop_, hi]
    rw [e] at k
    refine take_no h i hi fun c1 w1 st1 => ?_
    simp only [ext_2_0, ext_2_1, un_not]
    refine alloc_store_p 0 c1 pzero fun c2 b2 w2 st2 hv2 => ?_
    simp only [Bool.not_false, ifB_true]
    have st := st1.trans st2
    exact k c2 w2 st.none (h.frame st (fun h => h) (fun h => h))
  | true =>
    obtain ⟨n, rfl, hn⟩ := inl_iff.1 hi
    have e : drop_ s n = (0, rm s n) := by simp [drop_, hi]
    rw [e] at k
    refine take_yes h htu n hn fun c1 w1 st1 hn1 => ?_
    simp only [ext_2_0, ext_2_1, un_not]
    refine alloc_store_p 0 c1 _ fun c2 b2 w2 st2 hv2 => ?_
    simp only [Bool.not_true, ifB_false]
    exact k c2 w2 (st1.trans st2.none) (hn1.frame st2 (fun h => h) (fun h => h))

theorem deliver_sp (h : NetAt c t u w b s) (htu : t ≠ u) (i : Int) (k : ∀ c' w', Step (two t u) c w c' w' → NetAt c' t u w' b (deliver s i).2 → K (ofPkt (deliver s i).1.1 (deliver s i).1.2) w') :
    upK Try.prog (sCall F_net_Net_Deliver #[ptr b, .int .i64 i]) w K := by
  refine net_Net_Deliver.up (net_Net_Deliver.call ?_)
  unfold net_Net_Deliver.pt
  obtain ⟨j, hj, hfr⟩ := exists_fresh c w.heap.size (t + u)
  refine alloc_p j c fun c1 b1 w1 st1 hv => ?_
  have h1 := h.frame st1 (fun h => h) (fun h => h)
  let T : Nat → Prop := fun x => x = t ∨ x = u ∨ j ≤ x
  have hT : ∀ k, k < w.heap.size → T (c k) → two t u (c k) := fun k hk e => by
    rcases e with e | e | e
    · exact .inl e
    · exact .inr e
    · have := hfr k hk; omega
  have h2T : ∀ x, two t u x → T x := fun x e => e.elim .inl fun e => .inr (.inl e)
  have hjT : ∀ x, only j x → T x := fun x (e : x = j) => .inr (.inr (by omega))
  have fin : ∀ (q : Pkt) (e : Int) (c2 : Nat → Nat) (w2 : World) (s' : NetS), Step T c1 w1 c2 w2 → VarP c2 j w2 b1 pzero → NetAt c2 t u w2 b s' → deliver s i = ((q, e), s') →
      upK Try.prog (sStore T_api_Packet (ptr b1) (pval q)) w2 fun _ w3 => readV Try.prog (do loadVar T_api_Packet (← asAddr (ptr b1))) w3 fun x => K (.tuple #[x, .int .i64 e]) w3 := by
    intro q e c2 w2 s' st hv2 hn2 he
    rw [he] at k
    refine store_p hv2 q fun w3 st3 hv3 => ?_
    rw [res_p hv3]
    exact k c2 w3 ((st1.none.trans (st.trans (st3.mono hjT))).hide hT) (hn2.frame st3 (show ¬ t = j by omega) (show ¬ u = j by omega))
  have hjn : ¬ two t u j := fun e => by rcases e with e | e <;> omega
  cases hi : inl s i with
  | false =>
    refine take_no h1 i hi fun c2 w2 st2 => ?_
    simp only [ext_2_0, ext_2_1]
    refine alloc_store_p (j + 1) c2 pzero fun c3 b3 w3 st3 hv3 => ?_
    simp only [un_not, Bool.not_false, ifB_true, build_pkt0]
    have st := st2.trans st3
    exact fin pzero 4 c3 w3 s st.none (hv.frame st fun h => h) (h1.frame st (fun h => h) (fun h => h)) (by simp [deliver, hi])
  | true =>
    obtain ⟨n, rfl, hn⟩ := inl_iff.1 hi
    refine take_yes h1 htu n hn fun c2 w2 st2 hn2 => ?_
    simp only [ext_2_0, ext_2_1]
    refine alloc_store_p (j + 1) c2 _ fun c3 b3 w3 st3 hv3 => ?_
    have st := (st2.mono h2T).trans st3.none
    have hn3 := hn2.frame st3 (fun h => h) (fun h => h)
    simp only [un_not, Bool.not_true, ifB_false, field_addr TK0, field_addr TK1, ld_sc TI (Blk.cell hv3 (o := 0) (v := .int .i64 (at_ s n).frm) rfl), ld_sc TI (Blk.cell hv3 (o := 1) (v := .int .i64 (at_ s n).to) rfl)]
    refine hear_sp hn3 _ _ ?_
    have hh : hear (rm s n) (at_ s n).frm (at_ s n).to = hear s (at_ s n).frm (at_ s n).to := rfl
    have stt := Step.tick T c3 w3
    have hv4 := (((hv.frame st2 hjn).frame st3 fun h => h).frame (Step.tick nobody c3 w3) fun h => h)
    simp only [un_not, ifB_not, build_pkt0]
    rw [ifB_bool, hh]
    refine ⟨fun e => ?_, fun e => ?_⟩
    · rw [load_p (hv3.frame (Step.tick nobody c3 w3) fun h => h)]
      exact fin _ 0 c3 _ _ (st.trans stt) hv4 hn3.tick (by simp [deliver, hi, e])
    · exact fin _ 10 c3 _ _ (st.trans stt) hv4 hn3.tick (by simp [deliver, hi, e])

theorem double_sp (h : NetAt c t u w b s) (htu : t ≠ u) (i : Int) (k : ∀ c' w', Step (two t u) c w c' w' → NetAt c' t u w' b (double s i).2 → K (.int .i64 (double s i).1) w') :
    upK Try.prog (sCall F_net_Net_Double #[ptr b, .int .i64 i]) w K := by
  refine net_Net_Double.up (net_Net_Double.call ?_)
  unfold net_Net_Double.pt
  have same : ∀ e, double s i = (e, s) → K (.int .i64 e) w := by
    intro e he
    rw [he] at k
    exact k c w (Step.refl _ c w) h
  simp only [bin_lss, ifB_dec]
  refine ⟨fun h0 => same 4 (by have : inl s i = false := by simp [inl]; omega
                               simp [double, this]), fun h0 => ?_⟩
  obtain ⟨v, hb, hr, hl⟩ := h
  simp only [nil_ptr, field_addr TN0, ld_sc TSl (hb.cell (o := 0) (v := v) rfl), ld_sc TSl (hb.tick.cell (o := 0) (v := v) rfl), hr.read.len_eq TP, bin_geq, ifB_dec]
  refine ⟨fun h1 => same 4 (by have : inl s i = false := by simp [inl]; omega
                               simp [double, this]), fun h1 => ?_⟩
  have hi : inl s i = true := by simp [inl]; omega
  obtain ⟨n, rfl, hn⟩ := inl_iff.1 hi
  refine ⟨fun h2 => same 6 (by simp [double, hi]; omega), fun h2 => ?_⟩
  obtain ⟨x, hx1, hx2⟩ := loadAt_p hr.read.tick hn
  rw [hx1, hx2]
  refine build1p (c := c) _ (t + u + 1) fun c1 v1 w1 st1 hr1 => ?_
  have stt := Step.tick nobody c w
  have hb1 := (hb.frame stt fun h => h).frame st1 fun h => h
  have hrr := (hr.frame stt fun h => h).frame st1 fun h => h
  refine ⟨run_load_sc TSl (hb1.cell (o := 0) (v := v) rfl), ?_⟩
  refine append_own TP hrr hr1.read (by simp; omega) (by simp; omega) fun c2 v2 w2 st2 hr2 => ?_
  have hb2 := hb1.frame st2 htu
  have hs : double s n = (0, { s with fl := s.fl ++ [at_ s n] }) := by simp [double, hi]; omega
  have e1 : at_ s n = s.fl[n] := by simp [at_, List.getD, hn]
  rw [hs, e1] at k
  refine st_sc TSl hb2 (by simp) (row_slice hr2) fun hb3 st3 => ?_
  exact k c2 _ (stt.none.trans (st1.none.trans ((st2.mono fun x h => .inr h).trans (st3.mono fun x h => .inl h)))) ⟨v2, hb3, hr2.frame st3 fun e => htu e.symm, by simp; omega⟩

theorem list_sp (h : NetAt c t u w b s) (x : Nat) (k : ∀ c' v w', Step nobody c w c' w' → RowO c' x w' T_api_Packet v s.fl → K v w') : upK Try.prog (sCall F_net_Net_List #[ptr b]) w K := by
  refine net_Net_List.up (net_Net_List.call ?_)
  unfold net_Net_List.pt
  obtain ⟨v, hb, hr, hl⟩ := h
  simp only [nil_ptr, field_addr TN0, ld_sc TSl (hb.cell (o := 0) (v := v) rfl)]
  exact clone_sp x hr.read (by omega) k

theorem copy_sp (h : NetAt c t u w b s) (t' u' : Nat) (k : ∀ c' b' w', Step nobody c w c' w' → NetAt c' t' u' w' b' s → K (ptr b') w') : upK Try.prog (sCall F_net_Net_Copy #[ptr b]) w K := by
  refine net_Net_Copy.up (net_Net_Copy.call ?_)
  unfold net_Net_Copy.pt
  obtain ⟨v, hb, hr, hl⟩ := h.tick
  simp only [nil_ptr, field_addr TN0, field_addr TN1, ld_sc TSl (hb.cell (o := 0) (v := v) rfl), ld_sc TI (hb.cell (o := 1) (v := .int .i64 s.sp) rfl)]
  refine clone_sp u' hr.read (by omega) fun c1 v1 w1 st1 hr1 => ?_
  have hb1 := hb.frame st1 fun h => h
  refine ⟨run_load_sc TI (hb1.cell (o := 1) (v := .int .i64 s.sp) rfl), ?_⟩
  obtain ⟨a, cap, hv1, _⟩ := hr1.slice
  subst hv1
  simp only [build_net]
  refine box_of (t := t') (c := c1) fun c2 w2 _ hb2 st2 => ?_
  exact k c2 _ w2 ((Step.tick _ c w).trans (st1.trans st2)) ⟨_, hb2, hr1.frame st2 fun h => h, hl⟩

end
end Go.Proofs.Ytollnmlnpngmfaa
