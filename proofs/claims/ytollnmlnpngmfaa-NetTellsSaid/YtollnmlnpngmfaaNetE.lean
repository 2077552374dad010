/-
  The laws' own helpers for the network: do, count. No condition.
-/
import Derived.Test.YtollnmlnpngmfaaNetOrders
namespace Go.Proofs.Ytollnmlnpngmfaa
open Go.RowKit

def oval (x : OpD) : Value := .agg #[.int .i64 x.do_, .int .i64 x.n, .int .i64 x.to, .string x.s]
theorem ocells (x : OpD) : (oval x).cells = #[.int .i64 x.do_, .int .i64 x.n, .int .i64 x.to, .string x.s] := rfl
theorem TOz : (Try.prog.info? T_erratalaw07_Op).bind (·.zero) = some (.agg #[.int .i64 0, .int .i64 0, .int .i64 0, .string ⟨#[]⟩]) := by kernel_rfl

def VarO (c : Nat → Nat) (t : Nat) (w : World) (b : Nat) (x : OpD) : Prop := Blk c t w b T_erratalaw07_Op (oval x).cells

def step (s : NetS) (x : OpD) : (Pkt × Int) × NetS :=
  if x.do_ % 8 = 3 then deliver s x.n
  else if x.do_ % 8 = 4 then ((pzero, (drop_ s x.n).1), (drop_ s x.n).2)
  else if x.do_ % 8 = 5 then ((pzero, (double s x.n).1), (double s x.n).2)
  else if x.do_ % 8 = 6 then ((pzero, 0), split_ s x.n)
  else if x.do_ % 8 = 7 then ((pzero, 0), { s with sp := 0 })
  else ((pzero, (send s ⟨x.n, x.to, x.s⟩).1), (send s ⟨x.n, x.to, x.s⟩).2)

def cntP (l : List Pkt) (p : Pkt) : Nat := l.countP fun q => decide (q = p)

section
variable {K : Value → World → Prop} {Kp : Value → Prop} {w : World} {c : Nat → Nat} {t u b : Nat} {s : NetS} {p : Pkt}

theorem VarO.frame {T : Nat → Prop} {c' : Nat → Nat} {w' : World} {x : OpD} (h : VarO c t w b x) (st : Step T c w c' w') (ht : ¬ T t) : VarO c' t w' b x := Blk.frame h st ht
theorem box_o (t : Nat) (c : Nat → Nat) (x : OpD) (k : ∀ c' b w', Step nobody c w c' w' → VarO c' t w' b x → K (ptr b) w') : upK Try.prog (sBox T_erratalaw07_Op (oval x)) w K :=
  box_of (t := t) (c := c) fun c' w' _ hb st => k c' _ w' st hb
theorem load_o {x : OpD} (h : VarO c t w b x) : readK Try.prog (sLoad T_erratalaw07_Op (ptr b)) w Kp = Kp (oval x) :=
  ld_ag (vs := [.int .i64 x.do_, .int .i64 x.n, .int .i64 x.to, .string x.s]) TOag rfl fun j v hv => by rw [Nat.zero_add]; exact h.cell (by simpa [ocells] using hv)
theorem VarO.f0 {x : OpD} (h : VarO c t w b x) : readK Try.prog (sLoad T_int (.pointer (some ⟨b, 0 + 0, none⟩))) w Kp = Kp (.int .i64 x.do_) := ld_sc TI (Blk.cell h (o := 0) rfl)
theorem VarO.f1 {x : OpD} (h : VarO c t w b x) : readK Try.prog (sLoad T_int (.pointer (some ⟨b, 0 + 1, none⟩))) w Kp = Kp (.int .i64 x.n) := ld_sc TI (Blk.cell h (o := 1) rfl)
theorem VarO.f2 {x : OpD} (h : VarO c t w b x) : readK Try.prog (sLoad T_int (.pointer (some ⟨b, 0 + 2, none⟩))) w Kp = Kp (.int .i64 x.to) := ld_sc TI (Blk.cell h (o := 2) rfl)
theorem VarO.f3 {x : OpD} (h : VarO c t w b x) : readK Try.prog (sLoad T_string (.pointer (some ⟨b, 0 + 3, none⟩))) w Kp = Kp (.string x.s) := ld_sc TStr (Blk.cell h (o := 3) rfl)

theorem alloc_store_o (t : Nat) (c : Nat → Nat) (x : OpD) {K' : Value → World → Prop} (k : ∀ c' b w', Step nobody c w c' w' → VarO c' t w' b x → K' (ptr b) w') :
    upK Try.prog (sAlloc T_erratalaw07_Op) w fun p w1 => upK Try.prog (sStore T_erratalaw07_Op p (oval x)) w1 fun _ w2 => K' p w2 := by
  obtain ⟨j, hj, hfr⟩ := exists_fresh c w.heap.size t
  refine alloc_of (t := j) (c := c) TOz fun c1 w1 _ hb st1 => ?_
  refine st_ag (n := 4) TOag hb rfl (by simp [Value.cells]) ?_ fun w2 hb2 st2 => ?_
  · intro v hv
    simp only [List.mem_toArray, List.mem_cons, List.not_mem_nil, or_false] at hv
    rcases hv with rfl | rfl | rfl | rfl <;> rfl
  have st : Step nobody c w c1 w2 := (st1.none.trans st2).hide fun k hk e => Nat.ne_of_lt (hfr k hk) e
  exact k _ _ w2 (st.repaint t) (Blk.retag (by simpa [oval, Value.cells] using hb2) (fun k hk => st.old k hk) hfr)

theorem do_sp (h : NetAt c t u w b s) (htu : t ≠ u) (x : OpD) (k : ∀ c' w', Step (two t u) c w c' w' → NetAt c' t u w' b (step s x).2 → K (ofPkt (step s x).1.1 (step s x).1.2) w') :
    upK Try.prog (sCall F_erratalaw07_do #[ptr b, oval x]) w K := by
  refine erratalaw07_do.up (erratalaw07_do.call ?_)
  unfold erratalaw07_do.pt
  obtain ⟨j, hj, hfr⟩ := exists_fresh c w.heap.size (t + u)
  refine box_o j c x fun c1 b1 w1 st1 ho => ?_
  refine alloc_p (j + 1) c1 fun c2 b2 w2 st2 hv => ?_
  have ho := ho.frame st2 fun h => h
  have st := st1.trans st2
  have hn := h.frame st (fun h => h) (fun h => h)
  let T : Nat → Prop := fun x => x = t ∨ x = u ∨ j ≤ x
  have hT : ∀ k, k < w.heap.size → T (c k) → two t u (c k) := fun k hk e => by
    rcases e with e | e | e
    · exact .inl e
    · exact .inr e
    · have := hfr k hk; omega
  have h2T : ∀ x, two t u x → T x := fun x e => e.elim .inl fun e => .inr (.inl e)
  have hjn : ¬ two t u (j + 1) := fun e => by rcases e with e | e <;> omega
  have fin : ∀ (q : Pkt) (e : Int) (c3 : Nat → Nat) (w3 : World) (s' : NetS), Step T c2 w2 c3 w3 → VarP c3 (j + 1) w3 b2 pzero → NetAt c3 t u w3 b s' → step s x = ((q, e), s') →
      upK Try.prog (sStore T_api_Packet (ptr b2) (pval q)) w3 fun _ w4 => readV Try.prog (do loadVar T_api_Packet (← asAddr (ptr b2))) w4 fun z => K (.tuple #[z, .int .i64 e]) w4 := by
    intro q e c3 w3 s' st3 hv3 hn3 he
    rw [he] at k
    refine store_p hv3 q fun w4 st4 hv4 => ?_
    rw [res_p hv4]
    exact k c3 w4 ((st.none.trans (st3.trans (st4.mono fun x (e : x = j + 1) => .inr (.inr (by omega))))).hide hT) (hn3.frame st4 (show ¬ t = j + 1 by omega) (show ¬ u = j + 1 by omega))
  simp -zeta only [field_addr TO0, field_addr TO1, field_addr TO2, field_addr TO3, ho.f0, ho.f1, ho.f2, ho.f3, bin_and, and7, bin_eql, ifB_dec, build_pkt0]
  refine ⟨fun e3 => ?_, fun e3 => ⟨fun e4 => ?_, fun e4 => ⟨fun e5 => ?_, fun e5 => ⟨fun e6 => ?_, fun e6 => ⟨fun e7 => ?_, fun e7 => ?_⟩⟩⟩⟩⟩
  · refine deliver_sp hn htu x.n fun c3 w3 st3 hn3 => ?_
    simp only [ofPkt, ext_2_0, ext_2_1]
    exact fin _ _ c3 w3 _ (st3.mono h2T) (hv.frame st3 hjn) hn3 (by simp [step, e3])
  · refine drop_sp hn htu x.n fun c3 w3 st3 hn3 => ?_
    exact fin _ _ c3 w3 _ (st3.mono h2T) (hv.frame st3 hjn) hn3 (by simp [step, e4])
  · refine double_sp hn htu x.n fun c3 w3 st3 hn3 => ?_
    exact fin _ _ c3 w3 _ (st3.mono h2T) (hv.frame st3 hjn) hn3 (by simp [step, e5])
  · refine split_sp hn htu x.n fun w3 st3 hn3 => ?_
    exact fin _ _ c2 w3 _ (st3.mono fun x e => .inl e) (hv.frame st3 (show ¬ j + 1 = t by omega)) hn3 (by simp [step, e6])
  · refine heal_sp hn htu fun w3 st3 hn3 => ?_
    exact fin _ _ c2 w3 _ (st3.mono fun x e => .inl e) (hv.frame st3 (show ¬ j + 1 = t by omega)) hn3 (by simp [step, e7])
  · refine send_sp hn htu _ _ _ fun c3 w3 st3 hn3 => ?_
    exact fin _ _ c3 w3 _ (st3.mono h2T) (hv.frame st3 hjn) hn3 (by simp [step, e3, e4, e5, e6, e7])

theorem cnt_sp {v : Value} {l : List Pkt} (h : RowR c t w v l) (hl : l.length ≤ 1000000) (p : Pkt) (k : ∀ c' w', Step nobody c w c' w' → K (.int .i64 (cntP l p : Nat)) w') : upK Try.prog (sCall F_erratalaw07_count #[v, pval p]) w K := by
  refine erratalaw07_count.up (erratalaw07_count.call ?_)
  unfold erratalaw07_count.pt
  obtain ⟨j, hj, hfr⟩ := exists_fresh c w.heap.size t
  refine box_p j c p fun c1 b1 w1 st1 hv => ?_
  refine LOOP_intro (fun x w' => ∃ i : Nat, i ≤ l.length ∧ x = (.int .i64 (cntP (l.take i) p : Nat), .int .i64 i, ()) ∧ Step nobody c1 w1 c1 w') (fun x _ => l.length - (match x.2.1 with | .int _ n => n.toNat | _ => 0)) ⟨0, Nat.zero_le _, rfl, Step.refl _ _ _⟩ ?_
  rintro x w2 ⟨i, hi, rfl, st2⟩ next hnext
  have st := st1.trans st2
  have hr := h.frame st fun h => h
  simp -zeta only [hr.len_eq TP, bin_lss, ifB_dec]
  refine ⟨fun hlt => ?_, fun hge => ?_⟩
  · intro J1
    have hil : i < l.length := by omega
    have hcle : cntP (l.take i) p ≤ i := by
      have := List.countP_le_length (p := fun q => decide (q = p)) (l := l.take i)
      have h2 : (l.take i).length ≤ i := List.length_take_le i l
      unfold cntP; omega
    have hsucc : cntP (l.take (i + 1)) p = cntP (l.take i) p + if l[i] = p then 1 else 0 := by
      unfold cntP
      rw [List.take_succ_eq_append_getElem hil, List.countP_append, List.countP_singleton]
      simp
    have hJ : ∀ (m : Nat) w', m = cntP (l.take (i + 1)) p → Step nobody c1 w1 c1 w' → J1 (.int .i64 m) w' := by
      intro m w' hm st'
      show pureK _ _ _
      rw [bin_add, wrap_id (by omega) (by omega)]
      refine hnext _ _ ⟨i + 1, by omega, by rw [hm]; rfl, st'⟩ ?_
      simp only
      omega
    clear_value J1
    obtain ⟨x, q1, q2⟩ := loadAt_p hr.tick hil
    have hv2 := (hv.frame st2 fun h => h).frame (Step.tick nobody c1 w2) fun h => h
    simp -zeta only [q1, q2, load_p hv2, eq_pkt, ifB_dec, bin_add]
    have ew : IntKind.i64.wrap ((cntP (l.take i) p : Nat) + 1 : Int) = ((cntP (l.take i) p + 1 : Nat) : Int) := by rw [wrap_id (by omega) (by omega)]; omega
    refine ⟨fun e => ?_, fun e => ?_⟩
    · rw [ew]
      exact hJ _ _ (by rw [hsucc, if_pos e]) st2.ticked
    · exact hJ _ _ (by rw [hsucc, if_neg e, Nat.add_zero]) st2.ticked
  · have : i = l.length := by omega
    subst this
    rw [List.take_length]
    exact k c1 w2 st
end
end Go.Proofs.Ytollnmlnpngmfaa
