/-
  CellApart. No condition.
-/
import Derived.Test.YtmkigdkhpdeaeaaDoorCellT
namespace Go.Proofs.YtmkigdkhpdeaeaaDoor
open Go.RowKit

theorem QI.lost {f : Int} {X : ByteArray} {s : DS} (h : QI f X s) (l : Int) : QI f X { s with lost := l } := ⟨h.fs, h.q⟩
theorem QI.syncT {f g : Int} {X : ByteArray} {s : DS} (h : QI f X s) (hg : g ≠ f) : QI f X (syncT s g).1 := by
  unfold Go.Proofs.YtmkigdkhpdeaeaaDoor.syncT
  have hc := QI.come h
  split
  · exact hc
  · split
    · exact QI.lost hc _
    · exact QI.settle hc hg
theorem QI.writeT {f g : Int} {X : ByteArray} {s : DS} (h : QI f X s) (hg : g ≠ f) (a : Int) (t : ByteArray) : QI f X (writeT s g a t).1 := by
  unfold Go.Proofs.YtmkigdkhpdeaeaaDoor.writeT
  have hc := QI.write (QI.ends h) hg a t
  split
  · exact QI.crash hc _
  · exact hc
theorem QI.set3 {f g : Int} {X : ByteArray} {s : DS} (h : QI f X s) (hg : g ≠ f) (st : CS) (v : ByteArray) : QI f X (set3 s st g v).1.1 := by
  unfold Go.Proofs.YtmkigdkhpdeaeaaDoor.set3
  split
  · exact QI.writeT h hg _ _
  · exact QI.syncT (QI.writeT h hg _ _) hg
theorem QI.set2 {f g : Int} {X : ByteArray} {s : DS} (h : QI f X s) (hg : g ≠ f) (st : CS) (v : ByteArray) : QI f X (set2 s st g v).1.1 := by
  unfold Go.Proofs.YtmkigdkhpdeaeaaDoor.set2
  split
  · exact QI.syncT h hg
  · exact QI.set3 (QI.syncT h hg) hg st v
theorem QI.set1 {f g : Int} {X : ByteArray} {s : DS} (h : QI f X s) (hg : g ≠ f) (st : CS) (v : ByteArray) : QI f X (set1 s st g v).1.1 := by
  unfold Go.Proofs.YtmkigdkhpdeaeaaDoor.set1
  split
  · exact QI.writeT h hg _ _
  · exact QI.set2 (QI.writeT h hg _ _) hg st v
theorem QI.setS {f g : Int} {X : ByteArray} {s : DS} (h : QI f X s) (hg : g ≠ f) (st : CS) (v : ByteArray) : QI f X (setS s st g v).1.1 := by
  unfold Go.Proofs.YtmkigdkhpdeaeaaDoor.setS
  have h1 : QI f X (sure1 s st g).1 := by
    unfold sure1
    split
    · exact QI.syncT h hg
    · exact h
  split
  · exact h
  · split
    · exact h1
    · exact QI.set1 h1 hg _ _

set_option maxRecDepth 10000 in
theorem cellApart_pt {W : World} (hT : offD (lawB W)) {v5 : Value} {sv t : ByteArray} {f g n : Int} {keep : List Int} (_ : sv.size ≤ maxLen) (_ : t.size ≤ maxLen) (hn : -9223372036854775808 ≤ n ∧ n ≤ 9223372036854775807) (rk : rowR v5 keep (lawB W))
    {K : Value → World → Prop} (fin : ∀ w' σ, Rel (lawB W) w' σ → K (.bool true) w') : erratalaw05_CellApart.pt (.string sv) (.string t) (.int .i64 f) (.int .i64 g) (.int .i64 n) v5 W K := by
  unfold erratalaw05_CellApart.pt
  refine small_r hT (lawB.start W) fun w1 h => ?_
  have hbs := bl_length sv
  have hbt := bl_length t
  simp -zeta only [str_len U_string, rowR.len rk sl_s_int, bin_gtr, bin_lss, bin_eql, ifB_dec]
  refine ⟨fun _ => fin _ _ h, fun hs => ⟨fun _ => fin _ _ h, fun ht => ⟨fun _ => fin _ _ h, fun f0 => ⟨fun _ => fin _ _ h, fun f1 => ⟨fun _ => fin _ _ h, fun g0 => ⟨fun _ => fin _ _ h, fun g1 => ⟨fun _ => fin _ _ h, fun hfg => ⟨fun _ => fin _ _ h, fun hkl => ?_⟩⟩⟩⟩⟩⟩⟩⟩
  have hf : 0 ≤ f ∧ f < 16 := by omega
  have hg : 0 ≤ g ∧ g < 16 := by omega
  have hgf : g ≠ f := fun e => hfg e.symm
  refine h.make (fun B2 own base2 => New_m) fun u τ w2 hp h => ?_
  obtain ⟨p, rfl, rfl⟩ := hp
  rw [nil_ne, ifB_false]
  refine h.make (fun B2 own base2 => open_m (base2 hT) (own (i := 0) rfl) f) fun u τ w3 hp h => ?_
  rcases hp with ⟨a, st, he, rfl, rfl⟩ | ⟨he, _⟩
  case inr => rw [openS_new f hf] at he; cases he
  rw [openS_new f hf] at he
  cases he
  simp -zeta only [ext_2_0, ext_2_1]
  have h : Rel (lawB W) w3 [diskD p newS (.slice none 0 0), cellD a T_cell_Cell (ccs p f c0S)] := h
  refine h.make (fun B2 own base2 => open_m (base2 hT) (own (i := 0) rfl) g) fun u τ w4 hp h => ?_
  rcases hp with ⟨b, st, he, rfl, rfl⟩ | ⟨he, _⟩
  case inr => rw [openS_new g hg] at he; cases he
  rw [openS_new g hg] at he
  cases he
  simp -zeta only [ext_2_0, ext_2_1, bin_neq, decide_true, Bool.not_true, ifB_false, cell_nil]
  have h := h.pick [2, 0, 1] (by decide)
  have h : Rel (lawB W) w4 ([cellD b T_cell_Cell (ccs p g c0S)] ++ [diskD p newS (.slice none 0 0), cellD a T_cell_Cell (ccs p f c0S)]) := h
  -- the first one is set
  obtain ⟨s1, e1, m1, x1, q1⟩ := setS_calm (s := newS) ⟨rfl, rfl, rfl⟩ hf (st := c0S) (v := sv) (by omega)
  obtain ⟨_, hz⟩ := set_inv (st := c0S) hf (res_new f) sv (by omega)
  obtain ⟨_, hd1, hres1⟩ := hz (by rw [e1])
  rw [e1] at hd1 hres1
  have hd1 : s1.down = false := hd1
  have hres1 : Res s1 f ⟨nextK c0S, sv, true⟩ (fun k w => k ≠ 0 ∧ w = sv) := hres1
  have k1 : s1.keep = [] := m1.keep
  have hX : Opens (s1.fs f).now (nextK c0S) sv := by
    obtain ⟨_, _, _, hc⟩ := hres1
    rcases hc with ⟨_, k0, v0, hU, _⟩ | ⟨hd, _⟩
    · exact hU.now
    · rw [hd1] at hd; cases hd
  have hQ : QI f (s1.fs f).now s1 := ⟨by rw [x1], q1⟩
  have hG : Res s1 g c0S (fun k v => k = 0 ∧ v = ⟨#[]⟩) := by
    have ho : Opens (⟨#[]⟩ : ByteArray) 0 ⟨#[]⟩ := ⟨⟨.inl rfl, fun _ => rfl, by decide⟩, ⟨fun _ => rfl, fun e => absurd rfl e⟩, fun e => absurd rfl e⟩
    have hfg2 : s1.fs g = F0 := m1.fs g hgf
    have hpd : ∀ n, ¬ Pd s1 g n := fun n hn => by
      have := (m1.q ⟨g, (n : Int)⟩ hgf).1 hn
      cases this
    refine ⟨hres1.1, hres1.2.1, .inl rfl, .inl ⟨hd1, 0, ⟨#[]⟩, ?_, ⟨rfl, rfl⟩, ⟨rfl, rfl⟩⟩⟩
    rw [hfg2]
    exact ⟨ho, ho, ho.dt, fun n hn => absurd hn (hpd n), fun _ => ⟨fun n hn => absurd hn (hpd n), rfl, rfl⟩⟩
  refine h.act2 (fun B2 own base2 => set_d (base2 hT) (nilrow _) (by decide)) fun u d1 d2 w5 hp h => ?_
  obtain ⟨rfl, rfl, rfl⟩ := hp
  rw [e1] at *
  have h : Rel (lawB W) w5 [cellD b T_cell_Cell (ccs p g c0S), diskD p s1 (.slice none 0 0), cellD a T_cell_Cell (ccs p f ⟨nextK c0S, sv, true⟩)] := h
  simp -zeta only [bin_neq, decide_true, Bool.not_true, ifB_false]
  clear hz hres1
  refine h.act 1 rfl (fun B2 own base2 => Arm_d (base2 rk) (by omega) hn.2) fun u e' τ w6 hp h => ?_
  obtain ⟨rfl, kd, rfl, rfl⟩ := hp
  obtain ⟨B1, hB1, h, hkd⟩ := h.frz1
  have hG := res_arm hG hn.2 keep
  have hQ : QI f (s1.fs f).now { s1 with armed := max n 0, keep := keep } := ⟨hQ.fs, hQ.q⟩
  have h := h.pick [1, 0] (by decide)
  have h : Rel B1 w6 ([] ++ [diskD p { s1 with armed := max n 0, keep := keep } kd, cellD b T_cell_Cell (ccs p g c0S)]) := h
  have hT1 : offD B1 := Dat.mono _ hB1.le hT
  have rk1 : rowR v5 keep B1 := Dat.mono _ hB1.le rk
  have hkd : rowR kd keep B1 := rowD.read hkd
  generalize (s1.fs f).now = X at hX hQ
  have hkp : ({ s1 with armed := max n 0, keep := keep } : DS).keep = keep := rfl
  generalize ({ s1 with armed := max n 0, keep := keep } : DS) = s2 at h hG hQ hkp
  rw [← hkp] at hkd hkl
  refine h.act2 (fun B2 own base2 => set_d (base2 hT1) (base2 hkd) (by omega)) fun u d1 d2 w7 hp h => ?_
  obtain ⟨rfl, rfl, rfl⟩ := hp
  have hQ := QI.setS hQ hgf c0S t
  obtain ⟨hA, hB⟩ := set_inv hg hG t (by omega)
  generalize setS s2 c0S g t = R at h hQ hA hB
  obtain ⟨⟨s3, st3⟩, e3⟩ := R
  have h : Rel B1 w7 [diskD p s3 kd, cellD b T_cell_Cell (ccs p g st3)] := h
  refine h.act 0 rfl (fun B2 own base2 => crash_d (base2 rk1) (by rw [hkp] at hkl; omega)) fun u e' τ w8 hp h => ?_
  obtain ⟨rfl, rfl, rfl⟩ := hp
  refine h.act 0 rfl (fun B2 own base2 => Start_d) fun u e' τ w9 hp h => ?_
  obtain ⟨rfl, rfl, rfl⟩ := hp
  have h : Rel B1 w9 [diskD p (againS s3 keep) kd] := h.take 1
  have hQ := QI.crash hQ keep
  have hof : openS (againS s3 keep) f = (some ⟨nextK c0S, sv, false⟩, 0) := open_of (mayS_zero.2 ⟨rfl, hf⟩) (by show Opens ((crashS s3 keep).fs f).now _ _; rw [hQ.fs]; exact hX)
  have hog : ∃ k v, openS (againS s3 keep) g = (some ⟨k, v, false⟩, 0) ∧ Cv k v ∧ ((k = 0 ∧ v = ⟨#[]⟩) ∨ (k ≠ 0 ∧ v = t)) ∧ (e3 = 0 → k ≠ 0 ∧ v = t) := by
    by_cases e : e3 = 0
    · obtain ⟨_, _, hB⟩ := hB e
      obtain ⟨k, v, ho, hok, hcv, _⟩ := again_inv hg hB keep
      exact ⟨k, v, ho, hcv, .inr hok, fun _ => hok⟩
    · obtain ⟨k, v, ho, hok, hcv, _⟩ := again_inv hg hA keep
      exact ⟨k, v, ho, hcv, hok, fun hh => absurd hh e⟩
  obtain ⟨k, v, hog, hcv, hor, hz⟩ := hog
  refine h.make (fun B2 own base2 => open_m (base2 hT1) (own (i := 0) rfl) f) fun u τ w10 hp h => ?_
  rcases hp with ⟨a2, st, he, rfl, rfl⟩ | ⟨he, _⟩
  case inr => rw [hof] at he; cases he
  rw [hof] at he
  cases he
  simp -zeta only [ext_2_0, ext_2_1]
  have h : Rel B1 w10 [diskD p (againS s3 keep) kd, cellD a2 T_cell_Cell (ccs p f ⟨nextK c0S, sv, false⟩)] := h
  refine h.make (fun B2 own base2 => open_m (base2 hT1) (own (i := 0) rfl) g) fun u τ w11 hp h => ?_
  rcases hp with ⟨b2, st, he, rfl, rfl⟩ | ⟨he, _⟩
  case inr => rw [hog] at he; cases he
  rw [hog] at he
  cases he
  have h : Rel B1 w11 [diskD p (againS s3 keep) kd, cellD a2 T_cell_Cell (ccs p f ⟨nextK c0S, sv, false⟩), cellD b2 T_cell_Cell (ccs p g ⟨k, v, false⟩)] := h
  simp -zeta only [ext_2_0, ext_2_1, bin_neq, decide_true, Bool.not_true, ifB_false, cell_nil]
  refine h.ask (fun B2 own base2 => Get_g (own (i := 1) rfl)) fun w12 h => ?_
  simp -zeta only [ext_2_0, ext_2_1]
  refine h.ask (fun B2 own base2 => Get_g (own (i := 2) rfl)) fun w13 h => ?_
  have hs1 : decide (0 < nextK c0S) = true := by decide
  simp -zeta only [ext_2_0, ext_2_1, ifB_true, eql_str, decide_true, hs1, ifB_not, ifB_dec, un_not]
  have hkr := hcv.kr
  have done := fin w13 _ (hB1.rel h)
  refine ⟨fun z => ?_, fun z => ?_⟩
  · obtain ⟨hk0, hv⟩ := hz z
    subst hv
    refine ⟨fun _ => ⟨fun _ => ⟨fun _ => ?_, fun hh => absurd (by omega) hh⟩, fun hh => absurd (by omega) hh⟩, fun hh => absurd rfl hh⟩
    rw [decide_eq_true rfl]
    exact done
  · refine ⟨fun hk => ?_, fun _ => done⟩
    rcases hor with ⟨h1, _⟩ | ⟨_, h2⟩
    · omega
    · rw [decide_eq_true h2]
      exact done
end Go.Proofs.YtmkigdkhpdeaeaaDoor
