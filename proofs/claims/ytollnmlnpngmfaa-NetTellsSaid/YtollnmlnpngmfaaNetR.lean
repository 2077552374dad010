/-
  The reference's network: its functions do what package net's do. No condition.
-/
import Derived.Test.YtollnmlnpngmfaaNetHonest
import Derived.Test.YtollnmlnpngmfaaNetSides
namespace Go.Proofs.Ytollnmlnpngmfaa
open Go.RowKit

theorem TR0 : fieldB Try.prog T_errataref07_Net 0 0 = true := by kernel_rfl
theorem TR1 : fieldB Try.prog T_errataref07_Net 1 1 = true := by kernel_rfl
theorem build_ref0 {K : Value → Prop} : pureK Try.prog (sBuild T_errataref07_Net #[]) K = K (.agg #[.slice none 0 0, .int .i64 0]) := pureK_eq fun w => by
  kernel_rfl
theorem build_ref {K : Value → Prop} {a : Option Addr} {n c : Nat} {k : Int} : pureK Try.prog (sBuild T_errataref07_Net #[(0, .slice a n c), (1, .int .i64 k)]) K = K (.agg #[.slice a n c, .int .i64 k]) := pureK_eq fun w => by
  kernel_rfl

def RefAt (c : Nat → Nat) (t u : Nat) (w : World) (b : Nat) (s : NetS) : Prop :=
  ∃ v, Blk c t w b T_errataref07_Net #[v, .int .i64 s.sp] ∧ RowO c u w T_api_Packet v s.fl ∧ s.fl.length ≤ 500

theorem RefAt.frame {T : Nat → Prop} {c c' : Nat → Nat} {t u : Nat} {w w' : World} {b : Nat} {s : NetS} (h : RefAt c t u w b s) (st : Step T c w c' w') (ht : ¬ T t) (hu : ¬ T u) : RefAt c' t u w' b s := by
  obtain ⟨v, h1, h2, h3⟩ := h
  exact ⟨v, h1.frame st ht, h2.frame st hu, h3⟩
theorem RefAt.tick {c : Nat → Nat} {t u : Nat} {w : World} {b : Nat} {s : NetS} (h : RefAt c t u w b s) : RefAt c t u (Go.Proofs.Ytollnmlnpngmfaa.tick w) b s :=
  h.frame (Step.tick nobody c w) (fun h => h) (fun h => h)

section
variable {K : Value → World → Prop} {w : World} {c : Nat → Nat} {t u b : Nat} {s : NetS}

theorem rside_sp (h : RefAt c t u w b s) (x : Int) (h0 : 0 ≤ x) (h1 : x < 16) (k : K (.int .i64 (sbit s.sp x)) w) : upK Try.prog (sCall F_errataref07_Net_side #[ptr b, .int .i64 x]) w K := by
  refine errataref07_Net_side.up (errataref07_Net_side.call ?_)
  unfold errataref07_Net_side.pt
  obtain ⟨v, hb, -, -⟩ := h
  simp only [nil_ptr, field_addr TR1, ld_sc TI (hb.cell (o := 1) (v := .int .i64 s.sp) rfl), conv_int UInt' UUint, wrap_u x h0 h1, bin_shr h0, bin_and]
  exact k

theorem rhear_sp (h : RefAt c t u w b s) (x y : Int) (k : K (.bool (hear s x y)) w) : upK Try.prog (sCall F_errataref07_Net_Hear #[ptr b, .int .i64 x, .int .i64 y]) w K := by
  refine errataref07_Net_Hear.up (errataref07_Net_Hear.call ?_)
  unfold errataref07_Net_Hear.pt
  simp only [bin_lss, bin_gtr, ifB_dec]
  have no : (isEnd x && isEnd y) = false → K (.bool false) w := fun e => by
    have : hear s x y = false := by
      unfold hear
      rw [← Bool.and_assoc, e, Bool.false_and]
    rw [this] at k; exact k
  refine ⟨fun e => no (by have : isEnd x = false := by simp [isEnd]; omega
                          simp [this]), fun e1 => ⟨fun e => no (by have : isEnd x = false := by simp [isEnd]; omega
                                                                   simp [this]), fun e2 => ⟨fun e => no (by have : isEnd y = false := by simp [isEnd]; omega
                                                                                                            simp [this]), fun e3 => ⟨fun e => no (by have : isEnd y = false := by simp [isEnd]; omega
                                                                                                                                                     simp [this]), fun e4 => ?_⟩⟩⟩⟩
  refine rside_sp h x (by omega) (by omega) ?_
  refine rside_sp h y (by omega) (by omega) ?_
  have hx : isEnd x = true := by simp [isEnd]; omega
  have hy : isEnd y = true := by simp [isEnd]; omega
  have : hear s x y = decide (sbit s.sp x = sbit s.sp y) := by simp [hear, hx, hy]
  rw [this] at k
  simp only [bin_eql]
  exact k

theorem rsend_sp (h : RefAt c t u w b s) (htu : t ≠ u) (f g : Int) (m : ByteArray) (k : ∀ c' w', Step (two t u) c w c' w' → RefAt c' t u w' b (send s ⟨f, g, m⟩).2 → K (.int .i64 (send s ⟨f, g, m⟩).1) w') :
    upK Try.prog (sCall F_errataref07_Net_Send #[ptr b, .int .i64 f, .int .i64 g, .string m]) w K := by
  refine errataref07_Net_Send.up (errataref07_Net_Send.call ?_)
  unfold errataref07_Net_Send.pt
  have same : ∀ e, send s ⟨f, g, m⟩ = (e, s) → K (.int .i64 e) w := by
    intro e he
    have := k c w
    rw [he] at this
    exact this (Step.refl _ c w) h
  simp only [bin_lss, bin_gtr, bin_eql, ifB_dec]
  have nf : isEnd f = false → K (.int .i64 1) w := fun e => same 1 (by simp [send, e])
  have ng : isEnd g = false → K (.int .i64 1) w := fun e => same 1 (by simp [send, e])
  refine ⟨fun e => nf (by simp [isEnd]; omega), fun e1 => ⟨fun e => nf (by simp [isEnd]; omega), fun e2 => ⟨fun e => ng (by simp [isEnd]; omega), fun e3 => ⟨fun e => ng (by simp [isEnd]; omega), fun e4 => ⟨fun e => same 1 (by simp [send, e]), fun hne => ?_⟩⟩⟩⟩⟩
  have hf : isEnd f = true := by simp [isEnd]; omega
  have hg : isEnd g = true := by simp [isEnd]; omega
  refine rhear_sp h f g ?_
  simp only [un_not, ifB_not]
  rw [ifB_bool]
  refine ⟨fun hh => ?_, fun hh => same 10 (by simp [send, hf, hg, hne, hh])⟩
  obtain ⟨v, hb, hr, hl⟩ := h
  simp only [nil_ptr, field_addr TR0, ld_sc TSl (hb.cell (o := 0) (v := v) rfl), hr.read.len_eq TP, bin_geq, ifB_dec]
  refine ⟨fun hfull => same 6 (by simp [send, hf, hg, hne, hh]; omega), fun hfull => ?_⟩
  simp only [build_pkt]
  refine build1p (c := c) ⟨f, g, m⟩ (t + u + 1) fun c1 v1 w1 st1 hr1 => ?_
  have hr' := hr.frame st1 fun h => h
  have hb' := hb.frame st1 fun h => h
  refine append_own TP hr' hr1.read (by simp; omega) (by simp; omega) fun c2 v2 w2 st2 hr2 => ?_
  have hb2 := hb'.frame st2 htu
  have hs : send s ⟨f, g, m⟩ = (0, { s with fl := s.fl ++ [⟨f, g, m⟩] }) := by
    simp [send, hf, hg, hne, hh]; omega
  refine st_sc TSl hb2 (by simp) (row_slice hr2) fun hb3 st3 => ?_
  have := k c2 (w2.setCell ⟨b, 0, none⟩ v2)
  rw [hs] at this
  refine this (st1.none.trans ((st2.mono fun x h => .inr h).trans (st3.mono fun x h => .inl h))) ⟨v2, hb3, hr2.frame st3 fun e => htu e.symm, by simp; omega⟩

theorem rremove_sp (h : RefAt c t u w b s) (htu : t ≠ u) (n : Nat) (hn : n < s.fl.length) (k : ∀ c' w', Step (two t u) c w c' w' → RefAt c' t u w' b (rm s n) → K (.tuple #[]) w') :
    upK Try.prog (sCall F_errataref07_Net_remove #[ptr b, .int .i64 n]) w K := by
  refine errataref07_Net_remove.up (errataref07_Net_remove.call ?_)
  unfold errataref07_Net_remove.pt
  obtain ⟨v, hb, hr, hl⟩ := h.tick
  obtain ⟨j, hj, hfr⟩ := exists_fresh c w.heap.size (t + u)
  obtain ⟨va, ka, ra⟩ := hr.read.cut TP (lov := none) (hiv := some (.int .i64 n)) Bnd.none Bnd.some (Nat.zero_le _) (by omega)
  obtain ⟨vb, kb, rb⟩ := hr.read.cut TP (lov := some (.int .i64 ((n + 1 : Nat) : Int))) (hiv := none) Bnd.some Bnd.none (by omega) (Nat.le_refl _)
  have ew : IntKind.i64.wrap ((n : Int) + 1) = ((n + 1 : Nat) : Int) := by rw [wrap_id (by omega) (by omega)]; omega
  simp only [nil_ptr, field_addr TR0, ld_sc TSl (hb.cell (o := 0) (v := v) rfl), ka, bin_add, ew, kb]
  refine build0 (α := Pkt) (c := c) (t := j) TP fun c1 v1 w1 st1 hr1 _ => ?_
  have hb1 := hb.frame st1 fun h => h
  have i1 := run_load_sc (P := Try.prog) TSl (hb1.cell (o := 0) (v := v) rfl)
  refine ⟨i1, i1, ?_⟩
  refine append_own TP hr1 (ra.frame st1 fun h => h) (by simp; omega) (by simp; omega) fun c2 v2 w2 st2 hr2 => ?_
  have hb2 := hb1.frame st2 (show ¬ t = j by omega)
  refine ⟨run_load_sc (P := Try.prog) TSl (hb2.cell (o := 0) (v := v) rfl), ?_⟩
  refine append_own TP hr2 ((rb.frame st1 fun h => h).frame st2 (show ¬ u = j by omega)) (by simp; omega) (by simp; omega) fun c3 v3 w3 st3 hr3 => ?_
  have hst : Step nobody c w c3 w3 := ((Step.tick _ c w).trans (st1.none.trans (st2.trans st3))).hide fun k hk (e : c k = j) => by have := hfr k hk; omega
  have hst' := hst.repaint u
  have hb3 : Blk (paint c w.heap.size u) t w3 b T_errataref07_Net #[v, .int .i64 s.sp] := Blk.frame (w := w) hb hst' fun h => h
  have hr4 := hr3.retag (x := u) (fun k hk => hst.old k hk) hfr
  refine st_sc TSl hb3 (by simp) (row_slice hr4) fun hb5 st5 => ?_
  have hrm : (rm s n).fl = ([] ++ List.drop 0 (List.take n s.fl)) ++ List.drop (n + 1) (List.take s.fl.length s.fl) := by simp [rm]
  refine k _ _ (hst'.none.trans (st5.mono fun x h => .inl h)) ⟨v3, hb5, ?_, ?_⟩
  · rw [hrm]; exact hr4.frame st5 fun e => htu e.symm
  · simp [rm]; omega
end
end Go.Proofs.Ytollnmlnpngmfaa
