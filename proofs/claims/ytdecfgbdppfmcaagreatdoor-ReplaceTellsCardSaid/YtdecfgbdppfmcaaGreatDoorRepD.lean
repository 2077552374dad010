/-
  Replacements: what stays true, the laws' examples, ReplaceAsks. No condition.
-/
import Derived.Test.YtdecfgbdppfmcaaGreatDoorRepC
namespace Go.Proofs.YtdecfgbdppfmcaaGreatDoor
open Go.RowKit
set_option maxRecDepth 100000

/-! ### What stays true -/
structure WInv (l : List Rpl) (t : List Seg) (i : Nat) : Prop where
  ll : l.length ≤ i
  tl : t.length ≤ i + 1
  sorted : Sorted t
  some_ : t ≠ []
  each : ∀ r ∈ l, (0 ≤ r.from_ ∧ r.from_ ≤ 1099511627776) ∧ (1 ≤ r.version ∧ r.version ≤ 50) ∧ 0 ≤ r.cut ∧ r.cut ≤ i

theorem replT_ok {t : List Seg} {fr ver : Int} (hf : 0 ≤ fr ∧ fr ≤ 1099511627776) (hv : 1 ≤ ver ∧ ver ≤ 50) (hs : Sorted t) : (replT t fr ver).2 = 0 ∧ Sorted (replT t fr ver).1 ∧ (replT t fr ver).1 ≠ [] ∧ (replT t fr ver).1.length ≤ t.length + 1 := by
  have hb := behindS_le t (fr - 1)
  have hsT : Sorted (t.take (behindS t (fr - 1))) := hs.sublist (List.take_sublist _ _)
  unfold replT
  rw [if_neg (by omega), if_neg (by omega), if_neg (by omega), if_neg (by omega)]
  refine ⟨rfl, ?_⟩
  dsimp only
  split
  · refine ⟨?_, by simp, by simp; omega⟩
    unfold Sorted
    rw [List.pairwise_append]
    refine ⟨hsT, List.pairwise_singleton _ _, fun a ha b hb => ?_⟩
    simp only [List.mem_cons, List.not_mem_nil, or_false] at hb
    subst hb
    obtain ⟨j, hj, rfl⟩ := List.getElem_of_mem ha
    simp only [List.length_take] at hj
    obtain ⟨h1, h2⟩ := behindS_lt (t := t) (time := fr - 1) (i := j) (by omega)
    simp only [List.getElem_take]
    show t[j].from_ < fr
    omega
  · rename_i hno
    refine ⟨hsT, fun e => hno (.inl e), by simp; omega⟩

theorem stepS_cases (l : List Rpl) (t : List Seg) (o : OpR) : ((stepS l t o).1.2 ≠ 0 ∧ (stepS l t o).2 = (l, t)) ∨
    ((stepS l t o).1.2 = 0 ∧ (o.do_ % 8 = 0 ∨ o.do_ % 8 = 1) ∧ (askS l o.from_ o.version o.back o.horizon o.raise).2.2 = 0 ∧ (stepS l t o).2 = ((askS l o.from_ o.version o.back o.horizon o.raise).1, t)) ∨
    ((stepS l t o).1.2 = 0 ∧ (o.do_ % 8 = 2 ∨ o.do_ % 8 = 3) ∧ ∃ st, (st = 0 ∨ st = 1 ∨ st = 4) ∧ (setS l o.no st).2 = 0 ∧ (stepS l t o).2 = ((setS l o.no st).1, t)) ∨
    ((stepS l t o).1.2 = 0 ∧ 4 ≤ o.do_ % 8 ∧ (cutS l t o.no).2.2 = 0 ∧ (stepS l t o).2 = ((cutS l t o.no).1, (cutS l t o.no).2.1)) := by
  unfold stepS
  split
  · rename_i hd
    split
    · rename_i h0; exact .inr (.inl ⟨h0, hd, h0, rfl⟩)
    · rename_i h0; exact .inl ⟨h0, rfl⟩
  · split
    · rename_i hd
      split
      · rename_i h0; exact .inr (.inr (.inl ⟨h0, .inl hd, 4, .inr (.inr rfl), h0, rfl⟩))
      · rename_i h0; exact .inl ⟨h0, rfl⟩
    · obtain ⟨st, hst, h01⟩ : ∃ st : Int, (if o.raise = true then (1 : Int) else 0) = st ∧ (st = 0 ∨ st = 1) := ⟨_, rfl, by cases o.raise <;> simp⟩
      rw [hst]
      split
      · rename_i hd
        split
        · rename_i h0
          exact .inr (.inr (.inl ⟨h0, .inr hd, st, by omega, h0, rfl⟩))
        · rename_i h0; exact .inl ⟨h0, rfl⟩
      · split
        · rename_i h0; exact .inr (.inr (.inr ⟨h0, by omega, h0, rfl⟩))
        · rename_i h0; exact .inl ⟨h0, rfl⟩

theorem setS_ok {l : List Rpl} {no st : Int} (h : (setS l no st).2 = 0) : ∃ (n : Nat) (hn : n < l.length), no = (n : Int) + 1 ∧ (l[n].state = 0 ∨ l[n].state = 1) ∧ (setS l no st).1 = l.set n { l[n] with state := st } := by
  unfold setS at h ⊢
  split at h
  · rename_i hw
    obtain ⟨q1, q2⟩ := within_iff.1 hw
    obtain ⟨n, hn, hnl⟩ : ∃ n : Nat, no - 1 = n ∧ n < l.length := ⟨(no - 1).toNat, by omega, by omega⟩
    have hg : l.getD n zeroR = l[n] := by rw [List.getD_eq_getElem?_getD, List.getElem?_eq_getElem hnl]; rfl
    simp only [hn, Int.toNat_natCast, hg] at h ⊢
    split at h
    · rename_i hst
      refine ⟨n, hnl, by omega, hst, ?_⟩
      rw [if_pos hw, if_pos hst]
    · cases h
  · cases h
theorem cutS_ok {l : List Rpl} {t : List Seg} {no : Int} (h : (cutS l t no).2.2 = 0) : ∃ (n : Nat) (hn : n < l.length), no = (n : Int) + 1 ∧ (l[n].state = 1 ∨ l[n].state = 2) ∧ (firstR l).1.no = no ∧ (cutS l t no).1 = l.set n (cutR l[n]) ∧ (cutS l t no).2.1 = if l[n].cut + 1 = 16 then (replT t l[n].from_ l[n].version).1 else t := by
  unfold cutS at h ⊢
  split at h
  · rename_i hw
    obtain ⟨q1, q2⟩ := within_iff.1 hw
    obtain ⟨n, hn, hnl⟩ : ∃ n : Nat, no - 1 = n ∧ n < l.length := ⟨(no - 1).toNat, by omega, by omega⟩
    have hg : l.getD n zeroR = l[n] := by rw [List.getD_eq_getElem?_getD, List.getElem?_eq_getElem hnl]; rfl
    simp only [hn, Int.toNat_natCast, hg] at h ⊢
    split at h
    · rename_i hst
      split at h
      · rename_i hno
        refine ⟨n, hnl, by omega, hst, hno, ?_, ?_⟩
        · rw [if_pos hw, if_pos hst, if_pos hno]
        · rw [if_pos hw, if_pos hst, if_pos hno]
      · cases h
    · cases h
  · cases h
theorem askS_ok {l : List Rpl} {fr ver back hor : Int} {raise : Bool} (h : (askS l fr ver back hor raise).2.2 = 0) : ∃ f, (0 ≤ f ∧ f ≤ 1099511627776) ∧ (1 ≤ ver ∧ ver ≤ 50) ∧ (0 ≤ back ∧ back ≤ 1099511627776) ∧ (0 ≤ hor ∧ hor ≤ 1099511627776) ∧ ¬ ((firstR l).2 = true ∧ (firstR l).1.state = 2) ∧
    ((f = fr ∧ ¬ (0 < hor ∧ fr < hor + back)) ∨ (raise = true ∧ f = hor + back ∧ fr < f)) ∧ ((supersede l f).filter openR).length < 3 ∧ askS l fr ver back hor raise = (supersede l f ++ [⟨l.length + 1, f, ver, max 0 (f - back), 0, 0⟩], f, 0) := by
  unfold askS at h ⊢
  split at h
  · rename_i c1
    split at h
    · rename_i c2
      split at h
      · rename_i c3
        split at h
        · rename_i c4
          split at h
          · cases h
          · rename_i hno
            rw [if_pos c1, if_pos c2, if_pos c3, if_pos c4, if_neg hno]
            have d1 := within_iff.1 c1
            have on : ∀ f, (askOn l f ver back).2.2 = 0 → ((supersede l f).filter openR).length < 3 ∧ askOn l f ver back = (supersede l f ++ [⟨l.length + 1, f, ver, max 0 (f - back), 0, 0⟩], f, 0) := by
              intro f hf
              unfold askOn at hf ⊢
              split at hf
              · cases hf
              · rename_i hl; exact ⟨by omega, by rw [if_neg hl]⟩
            split at h
            · rename_i hh
              split at h
              · rename_i hr
                obtain ⟨o1, o2⟩ := on _ h
                refine ⟨hor + back, ⟨by omega, hr.2⟩, within_iff.1 c2, within_iff.1 c3, within_iff.1 c4, hno, .inr ⟨hr.1, rfl, hh.2⟩, o1, ?_⟩
                rw [if_pos hh, if_pos hr]
                exact o2
              · cases h
            · rename_i hh
              obtain ⟨o1, o2⟩ := on _ h
              refine ⟨fr, d1, within_iff.1 c2, within_iff.1 c3, within_iff.1 c4, hno, .inl ⟨rfl, hh⟩, o1, ?_⟩
              rw [if_neg hh]
              exact o2
        · cases h
      · cases h
    · cases h
  · cases h

theorem supersede_mem {l : List Rpl} {f : Int} {r : Rpl} (h : r ∈ supersede l f) : ∃ q ∈ l, r.from_ = q.from_ ∧ r.version = q.version ∧ r.cut = q.cut := by
  obtain ⟨q, hq, rfl⟩ := List.mem_map.1 h
  refine ⟨q, hq, ?_⟩
  split <;> exact ⟨rfl, rfl, rfl⟩

theorem WInv.step {l : List Rpl} {t : List Seg} {i : Nat} (h : WInv l t i) (o : OpR) : WInv (stepS l t o).2.1 (stepS l t o).2.2 (i + 1) := by
  obtain ⟨h1, h2, h3, h4, h5⟩ := h
  have h5' : ∀ r ∈ l, (0 ≤ r.from_ ∧ r.from_ ≤ 1099511627776) ∧ (1 ≤ r.version ∧ r.version ≤ 50) ∧ 0 ≤ r.cut ∧ r.cut ≤ ((i + 1 : Nat) : Int) := fun r hr => by have := h5 r hr; omega
  rcases stepS_cases l t o with ⟨_, e⟩ | ⟨_, _, ha, e⟩ | ⟨_, _, st, _, ha, e⟩ | ⟨_, _, ha, e⟩
  · rw [e]
    exact ⟨by show l.length ≤ _; omega, by show t.length ≤ _; omega, h3, h4, h5'⟩
  · rw [e]
    obtain ⟨f, hf, hv, hb, hh, _, _, _, e2⟩ := askS_ok ha
    rw [e2]
    refine ⟨by simp [supersede]; omega, by show t.length ≤ _; omega, h3, h4, fun r hr => ?_⟩
    rcases List.mem_append.1 hr with hr | hr
    · obtain ⟨q, hq, q1, q2, q3⟩ := supersede_mem hr
      rw [q1, q2, q3]
      exact h5' q hq
    · simp only [List.mem_cons, List.not_mem_nil, or_false] at hr
      subst hr
      exact ⟨hf, hv, Int.le_refl 0, by show (0 : Int) ≤ _; omega⟩
  · rw [e]
    obtain ⟨n, hn, _, _, e2⟩ := setS_ok ha
    rw [e2]
    refine ⟨by simp; omega, by show t.length ≤ _; omega, h3, h4, fun r hr => ?_⟩
    rcases List.mem_or_eq_of_mem_set hr with hr | rfl
    · exact h5' r hr
    · exact h5' l[n] (List.getElem_mem hn)
  · rw [e]
    obtain ⟨n, hn, _, _, _, e2, e3⟩ := cutS_ok ha
    have hr := h5 l[n] (List.getElem_mem hn)
    obtain ⟨r1, r2, r3, r4⟩ := replT_ok (t := t) hr.1 hr.2.1 h3
    rw [e2, e3]
    refine ⟨by simp; omega, ?_, ?_, ?_, fun r hr' => ?_⟩
    · show (if _ then _ else t).length ≤ _
      split <;> omega
    · show Sorted (if _ then _ else t)
      split
      · exact r2
      · exact h3
    · show (if _ then _ else t) ≠ []
      split
      · exact r3
      · exact h4
    · rcases List.mem_or_eq_of_mem_set hr' with hr' | rfl
      · exact h5' r hr'
      · refine ⟨hr.1, hr.2.1, ?_⟩
        show 0 ≤ l[n].cut + 1 ∧ l[n].cut + 1 ≤ _
        omega

/-! ### The examples -/
theorem nilR (B : Base) : rowR (.slice none 0 0) ([] : List Rpl) B := ⟨none, 0, rfl, Nat.le_refl _, .inl rfl⟩
def seg0 : List Seg := [⟨0, 1⟩]
def sA : List Rpl := [⟨1, 100, 2, 90, 0, 0⟩]
def sB : List Rpl := [⟨1, 100, 2, 90, 0, 0⟩, ⟨2, 200, 3, 200, 0, 0⟩]
def sC : List Rpl := [⟨1, 100, 2, 90, 0, 0⟩, ⟨2, 200, 3, 200, 1, 0⟩]
def sD : List Rpl := [⟨1, 100, 2, 90, 5, 0⟩, ⟨2, 200, 3, 200, 5, 0⟩, ⟨3, 50, 4, 50, 0, 0⟩]
theorem sorted0 : Sorted seg0 := List.pairwise_singleton _ _

theorem small_r {B : Base} {w : World} {σ : List Dat} {K : Value → World → Prop} (h : Rel B w σ) (k : ∀ w', Rel B w' σ → K (.bool true) w') : upK Tryz.prog (sCall F_erratalaw47_small #[]) w K := by
  obtain ⟨B', h', back, _, _⟩ := h.frz
  replace k : ∀ w' τ, Rel B' w' τ → K (.bool true) w' := fun w' τ h => k w' (by have := back w' _ h; exact this.drop)
  clear back h
  have h := h'
  clear h'
  refine erratalaw47_small.up (erratalaw47_small.call ?_)
  unfold erratalaw47_small.pt
  simp -zeta only [bd_api_Seg_1]
  refine h.build1 (⟨0, 1⟩ : Seg) sl_s_api_Seg (by decide) fun vt w1 h => ?_
  refine h.make (fun B2 own base2 => ask_m (nilR B2) (Nat.zero_le _) 100 2 10 0 false) fun u τ w2 hp h => ?_
  obtain ⟨va, rfl, rfl⟩ := hp
  have e1 : askS [] 100 2 10 0 false = (sA, 100, 0) := by decide +kernel
  rw [e1] at h ⊢
  simp -zeta only [ext_3_0, ext_3_1, ext_3_2]
  refine h.make (fun B2 own base2 => ask_m (l := sA) (rowD.read (own (i := 1) rfl)) (by decide) 200 3 0 0 false) fun u τ w3 hp h => ?_
  obtain ⟨vb, rfl, rfl⟩ := hp
  have e2 : askS sA 200 3 0 0 false = (sB, 200, 0) := by decide +kernel
  rw [e2] at h ⊢
  have ra := rowD.read (h.here (i := 1) rfl)
  have rb := rowD.read (h.here (i := 2) rfl)
  have n1 : decide (((sA.length : Nat) : Int) = 1) = true := by decide
  have n2 : decide (((sB.length : Nat) : Int) = 2) = true := by decide
  simp -zeta only [ext_3_0, ext_3_1, ext_3_2, bin_neq, decide_true, Bool.not_true, ifB_false, rowR.len ra sl_s_api_Replacement, rowR.len rb sl_s_api_Replacement, n1, n2]
  refine h.make (fun B2 own base2 => caught_m (l := sB) (rowD.read (own (i := 2) rfl)) (by decide) 2 true) fun u τ w4 hp h => ?_
  obtain ⟨vc, rfl, rfl⟩ := hp
  have e3 : setS sB 2 (if true = true then 1 else 0) = (sC, 0) := by decide +kernel
  rw [e3] at h ⊢
  simp -zeta only [ext_2_0, ext_2_1]
  refine h.make (fun B2 own base2 => cut_m (l := sC) (t := seg0) (rowD.read (own (i := 3) rfl)) (rowD.read (own (i := 0) rfl)) (by decide) sorted0 (by decide) (by decide) 2) fun u τ w5 hp h => ?_
  obtain ⟨v5, v6, rfl, rfl⟩ := hp
  have e4 : cutS sC seg0 2 = ([], [], 25) := by decide +kernel
  rw [e4] at h ⊢
  simp -zeta only [ext_3_0, ext_3_1, ext_3_2]
  refine h.make (fun B2 own base2 => ask_m (l := sB) (rowD.read (own (i := 2) rfl)) (by decide) 50 4 0 0 false) fun u τ w6 hp h => ?_
  obtain ⟨vd, rfl, rfl⟩ := hp
  have e5 : askS sB 50 4 0 0 false = (sD, 50, 0) := by decide +kernel
  rw [e5] at h ⊢
  simp -zeta only [ext_3_0, ext_3_1, ext_3_2]
  refine h.make (fun B2 own base2 => ask_m (nilR B2) (Nat.zero_le _) 50 4 10 45 false) fun u τ w7 hp h => ?_
  obtain ⟨ve, rfl, rfl⟩ := hp
  have e6 : askS [] 50 4 10 45 false = ([], 55, 23) := by decide +kernel
  rw [e6] at h ⊢
  have ra := rowD.read (h.here (i := 1) rfl)
  have rd := rowD.read (h.here (i := 6) rfl)
  have n3 : decide (((sD.length : Nat) : Int) = 3) = true := by decide
  obtain ⟨g0, o0, x0, c0⟩ := rowR.idx ra sl_s_api_Replacement (P := Tryz.prog) (i := 0) (by decide)
  obtain ⟨g1, o1, x1, c1⟩ := rowR.idx rd sl_s_api_Replacement (P := Tryz.prog) (i := 0) (by decide)
  obtain ⟨g2, o2, x2, c2⟩ := rowR.idx rd sl_s_api_Replacement (P := Tryz.prog) (i := 1) (by decide)
  obtain ⟨g3, o3, x3, c3⟩ := rowR.idx rd sl_s_api_Replacement (P := Tryz.prog) (i := 2) (by decide)
  have x0 : ∀ {Kp : Value → Prop}, pureK Tryz.prog (sIdxAddr T_s_api_Replacement va (.int .i64 0)) Kp = Kp _ := x0
  have x1 : ∀ {Kp : Value → Prop}, pureK Tryz.prog (sIdxAddr T_s_api_Replacement vd (.int .i64 0)) Kp = Kp _ := x1
  have x2 : ∀ {Kp : Value → Prop}, pureK Tryz.prog (sIdxAddr T_s_api_Replacement vd (.int .i64 1)) Kp = Kp _ := x2
  have x3 : ∀ {Kp : Value → Prop}, pureK Tryz.prog (sIdxAddr T_s_api_Replacement vd (.int .i64 2)) Kp = Kp _ := x3
  have c0 : cellsR g0 o0 (⟨1, 100, 2, 90, 0, 0⟩ : Rpl).cs ⟨w7, fun _ => True⟩ := c0
  have c1 : cellsR g1 o1 (⟨1, 100, 2, 90, 5, 0⟩ : Rpl).cs ⟨w7, fun _ => True⟩ := c1
  have c2 : cellsR g2 o2 (⟨2, 200, 3, 200, 5, 0⟩ : Rpl).cs ⟨w7, fun _ => True⟩ := c2
  have c3 : cellsR g3 o3 (⟨3, 50, 4, 50, 0, 0⟩ : Rpl).cs ⟨w7, fun _ => True⟩ := c3
  simp -zeta only [ext_3_0, ext_3_1, ext_3_2, rowR.len rd sl_s_api_Replacement, bin_neq, n3, Bool.not_true, ifB_false, bin_eql, decide_true, ifB_true, x0, x1, x2, x3, field_addr f_api_Replacement_3, field_addr f_api_Replacement_4,
    cellsR.ld c0 sc_int (j := 3) rfl, cellsR.ld c1 sc_int (j := 4) rfl, cellsR.ld c2 sc_int (j := 4) rfl, cellsR.ld c3 sc_int (j := 4) rfl]
  exact k _ _ h
end Go.Proofs.YtdecfgbdppfmcaaGreatDoor
