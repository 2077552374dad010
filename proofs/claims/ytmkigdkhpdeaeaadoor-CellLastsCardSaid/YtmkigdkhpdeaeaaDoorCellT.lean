/-
  Chapter 5's few, again; CellTells. No condition.
-/
import Derived.Test.YtmkigdkhpdeaeaaDoorCellP
import Derived.Test.YtmkigdkhpdeaeaaDoorCellR
import Derived.Test.YtmkigdkhpdeaeaaDoorPt2
namespace Go.Proofs.YtmkigdkhpdeaeaaDoor
open Go.RowKit
abbrev Op5 := D_errataref05_Op
abbrev OL := List (Op5 × List Int)
abbrev opsL (L : OL) : List Op5 := L.map (·.1)
def keepsO (L : OL) : Dat := Dat.all L fun x => rowR x.1.keep.1 x.2
theorem ops_of {W : World} (l : List Op5) (h : ∀ x ∈ l, ∃ k : List Int, rowR x.keep.1 k (lawB W)) : ∃ L : OL, opsL L = l ∧ keepsO L (lawB W) := by
  induction l with
  | nil => exact ⟨[], rfl, fun p hp => by cases hp⟩
  | cons x l ih =>
    obtain ⟨L, h1, h2⟩ := ih fun y hy => h y (List.mem_cons_of_mem _ hy)
    obtain ⟨r, hr⟩ := h x List.mem_cons_self
    refine ⟨(x, r) :: L, by show x :: opsL L = _; rw [h1], fun p hp => ?_⟩
    rcases List.mem_cons.1 hp with rfl | hp
    · exact hr
    · exact h2 p hp
structure fineO (x : Op5 × List Int) : Prop where
  s : x.1.s.size ≤ 400
  keep : x.2.length ≤ 100
structure FewO (L : OL) : Prop where
  each : ∀ x ∈ L, fineO x
  len : L.length ≤ 30
open Classical in
noncomputable def fewO (L : OL) : Bool := decide (FewO L)
theorem fewO_true {L : OL} : fewO L = true ↔ FewO L := by simp [fewO]
def inO (L : OL) : Prop := ∀ x ∈ L, x.1.n ≤ 9223372036854775807

section
variable {B : Base} {w : World}
theorem fewO_g {v : Value} {L : OL} (r : rowR v (opsL L) B) (q : keepsO L B) (hl : L.length ≤ 9223372036854775807) : Gives Tryd.prog B (sCall F_erratalaw05_few #[v]) (.bool (fewO L)) := by
  refine Gives.intro fun B' w K base h k => ?_
  replace r := base r
  replace q := base q
  refine erratalaw05_few.up (erratalaw05_few.call ?_)
  unfold erratalaw05_few.pt
  have hal : (opsL L).length = L.length := List.length_map ..
  have no : ∀ w', Rel B' w' [] → ¬ FewO L → K (.bool false) w' := fun w' h hn => by
    rw [Bool.eq_false_iff.2 fun e => hn (fewO_true.1 e)] at k
    exact k _ _ h
  refine LOOP_intro (fun x w' => ∃ i : Nat, i ≤ L.length ∧ x = (.int .i64 i, ()) ∧ (∀ j (hj : j < L.length), j < i → fineO L[j]) ∧ Rel B' w' []) (fun x _ => L.length - (match x.1 with | .int _ n => n.toNat | _ => 0))
    ⟨0, Nat.zero_le _, rfl, fun j _ hj => absurd hj (Nat.not_lt_zero j), h⟩ ?_
  clear h
  rintro x w1 ⟨i, hil, rfl, hin, h⟩ next hnext
  simp -zeta only [rowR.len r sl_s_errataref05_Op, bin_lss, ifB_dec]
  rw [hal]
  refine ⟨fun hlt => ?_, fun hge => ?_⟩
  · have hi : i < L.length := by omega
    have hno : ¬ fineO L[i] → K (.bool false) w1 := fun hf => no _ h fun hw => hf (hw.each _ (List.getElem_mem hi))
    obtain ⟨g, o, hx, hc⟩ := rowR.idx r sl_s_errataref05_Op (P := Tryd.prog) (i := i) (by omega)
    have e1 : (opsL L)[i]'(by omega) = L[i].1 := by simp
    rw [e1] at hc
    have hc : cellsR g o L[i].1.cs B' := hc
    have rk := q L[i] (List.getElem_mem hi)
    have hb := bl_length L[i].1.s
    simp -zeta only [hx, field_addr f_errataref05_Op_1, field_addr f_errataref05_Op_3, cellsR.ld (h.hereB hc) sc_string (j := 1) rfl, cellsR.ld (h.hereB hc) sc_s_int (j := 3) rfl, str_len U_string, rowR.len rk sl_s_int, bin_gtr, ifB_dec]
    refine ⟨fun e => hno fun hf => absurd hf.s (by omega), fun e1 => ⟨fun e => hno fun hf => absurd hf.keep (by omega), fun e2 => ?_⟩⟩
    rw [bin_add, wrap_id (by omega) (by omega)]
    refine hnext _ _ ⟨i + 1, hi, rfl, fun j hj hji => ?_, h⟩ (by simp only; omega)
    by_cases e : j = i
    · subst e; exact ⟨by omega, by omega⟩
    · exact hin j hj (by omega)
  · rw [bin_leq]
    have hall : ∀ x ∈ L, fineO x := fun x hx => by
      obtain ⟨j, hj, rfl⟩ := List.getElem_of_mem hx
      exact hin j hj (by omega)
    have e : fewO L = decide ((L.length : Int) ≤ 30) := by
      rw [Bool.eq_iff_iff, fewO_true, decide_eq_true_iff]
      exact ⟨fun h => by have := h.len; omega, fun h => ⟨hall, by omega⟩⟩
    rw [e] at k
    exact k _ _ h

abbrev againS (s : DS) (keep : List Int) : DS := { crashS s keep with down := false }
theorem again_d {p : Nat} {s : DS} {kv v : Value} {keep : List Int} (hT : offD B) (r : rowR v keep B) (hkl : keep.length ≤ 9223372036854775807) : Does Tryd.prog B (diskD p s kv) (sCall F_erratalaw05_again #[ptr p, v])
    fun u e' τ => e' = diskD p (againS s keep) kv ∧ ((∃ c st, openS (againS s keep) 3 = (some st, 0) ∧ u = .tuple #[ptr c, .int .i64 0] ∧ τ = [cellD c T_cell_Cell (ccs p 3 st)]) ∨ ((openS (againS s keep) 3).1 = none ∧ u = .tuple #[.pointer none, .int .i64 (openS (againS s keep) 3).2] ∧ τ = [])) := by
  refine Does.intro fun B' w K base h k => ?_
  replace hT := base hT
  replace r := base r
  refine erratalaw05_again.up (erratalaw05_again.call ?_)
  unfold erratalaw05_again.pt
  refine h.act 0 rfl (fun B2 own base2 => crash_d (base2 r) hkl) fun u e' τ w1 hp h => ?_
  obtain ⟨rfl, rfl, rfl⟩ := hp
  refine h.act 0 rfl (fun B2 own base2 => Start_d) fun u e' τ w2 hp h => ?_
  obtain ⟨rfl, rfl, rfl⟩ := hp
  have h : Rel B' w2 [diskD p (againS s keep) kv] := h
  refine h.make (fun B2 own base2 => open_m (base2 hT) (own (i := 0) rfl) 3) fun u τ w3 hp h => ?_
  rcases hp with ⟨c, st, he, rfl, rfl⟩ | ⟨he, rfl, rfl⟩
  · simp -zeta only [ext_2_0, ext_2_1]
    exact k _ _ _ _ ⟨rfl, .inl ⟨c, st, he, rfl, rfl⟩⟩ h
  · simp -zeta only [ext_2_0, ext_2_1]
    exact k _ _ _ _ ⟨rfl, .inr ⟨he, rfl, rfl⟩⟩ h
end

set_option maxRecDepth 10000 in
set_option maxHeartbeats 1000000 in
theorem cellTells_pt {W : World} (hT : offD (lawB W)) {v0 : Value} {l : List Op5} (r0 : rowR v0 l (lawB W)) (hm : l.length ≤ maxLen) (hq : ∀ x ∈ l, okInt W x.kind ∧ okStr W x.s ∧ okInt W x.n ∧ (∃ k : List Int, rowR x.keep.1 k (lawB W) ∧ k.length ≤ maxLen ∧ ∀ y ∈ k, okInt W y))
    {K : Value → World → Prop} (fin : ∀ w' σ, Rel (lawB W) w' σ → K (.bool true) w') : erratalaw05_CellTells.pt v0 W K := by
  obtain ⟨L, rfl, qd⟩ := ops_of l fun x hx => (hq x hx).2.2.2.imp fun _ h => h.1
  have r := r0
  clear r0
  have hr : inO L := fun x hx => (hq x.1 (List.mem_map_of_mem hx)).2.2.1.2
  clear hq
  have hal : (opsL L).length = L.length := List.length_map ..
  rw [hal] at hm
  unfold maxLen at hm
  unfold erratalaw05_CellTells.pt
  refine small_r hT (lawB.start W) fun w1 h => ?_
  refine h.ask (fun B2 own base2 => fewO_g (base2 r) (base2 qd) (by omega)) fun w2 h => ?_
  rw [un_not, ifB_not, ifB_bool]
  refine ⟨fun hf => ?_, fun _ => fin _ _ h⟩
  have hf := fewO_true.1 hf
  have hl := hf.len
  refine h.make (fun B2 own base2 => New_m) fun u τ w3 hp h => ?_
  obtain ⟨p, rfl, rfl⟩ := hp
  refine h.make (fun B2 own base2 => RNew_m) fun u τ w4 hp h => ?_
  obtain ⟨q, rfl, rfl⟩ := hp
  have h : Rel (lawB W) w4 [diskD p newS (.slice none 0 0), refD q newS (.slice none 0 0)] := h
  refine h.make (fun B2 own base2 => open_m (base2 hT) (own (i := 0) rfl) 3) fun u τ w5 hp h => ?_
  rcases hp with ⟨a, st, he, rfl, rfl⟩ | ⟨he, _⟩
  case inr => rw [openS_new 3 (by decide)] at he; cases he
  rw [openS_new 3 (by decide)] at he
  cases he
  have h : Rel (lawB W) w5 [diskD p newS (.slice none 0 0), refD q newS (.slice none 0 0), cellD a T_cell_Cell (ccs p 3 c0S)] := h
  simp -zeta only [ext_2_0, ext_2_1]
  refine h.make (fun B2 own base2 => Ropen_m (own (i := 1) rfl) 3) fun u τ w6 hp h => ?_
  rcases hp with ⟨b, st, he, rfl, rfl⟩ | ⟨he, _⟩
  case inr => rw [openS_new 3 (by decide)] at he; cases he
  rw [openS_new 3 (by decide)] at he
  cases he
  have h : Rel (lawB W) w6 [diskD p newS (.slice none 0 0), refD q newS (.slice none 0 0), cellD a T_cell_Cell (ccs p 3 c0S), cellD b T_errataref05_Cell (ccs q 3 c0S)] := h
  have h := h.pick [1, 3, 0, 2] (by decide)
  have h : Rel (lawB W) w6 [refD q newS (.slice none 0 0), cellD b T_errataref05_Cell (ccs q 3 c0S), diskD p newS (.slice none 0 0), cellD a T_cell_Cell (ccs p 3 c0S)] := h
  simp -zeta only [ext_2_0, ext_2_1, bin_neq, decide_true, Bool.not_true, ifB_false, nil_ne, cell_nil, rcell_nil]
  refine LOOP_intro (fun x w' => ∃ (i a b : Nat) (ev fv : Value) (B : Base) (s : DS) (st : CS) (kd kr : Value), i ≤ L.length ∧ x = (ptr a, ev, ptr b, fv, .int .i64 i, ()) ∧ (lawB W).ext B ∧ (rowR kd s.keep B ∧ rowR kr s.keep B ∧ s.keep.length ≤ 100) ∧ Res s 3 st (fun _ _ => True) ∧
      Rel B w' [refD q s kr, cellD b T_errataref05_Cell (ccs q 3 st), diskD p s kd, cellD a T_cell_Cell (ccs p 3 st)]) (fun x _ => L.length - (match x.2.2.2.2.1 with | .int _ n => n.toNat | _ => 0))
    ⟨0, a, b, _, _, lawB W, newS, c0S, _, _, Nat.zero_le _, rfl, Base.ext.refl _, ⟨nilrow _, nilrow _, Nat.zero_le _⟩, (res_new 3).mono fun _ _ _ => trivial, h⟩ ?_
  clear h
  rintro x w7 ⟨i, a, b, ev, fv, B, s, st, kd, kr, hil, rfl, hext, ⟨hkd, hkr, hkl⟩, hres, h⟩ next hnext
  have r' : rowR v0 (opsL L) B := Dat.mono _ hext.le r
  have qd' : keepsO L B := Dat.mono _ hext.le qd
  have hT' : offD B := Dat.mono _ hext.le hT
  simp -zeta only [rowR.len r' sl_s_errataref05_Op, bin_lss, ifB_dec]
  rw [hal]
  refine ⟨fun hlt => ?_, fun hge => ?_⟩
  · have hi : i < L.length := by omega
    obtain ⟨g, o, hx, hc⟩ := rowR.idx r' sl_s_errataref05_Op (P := Tryd.prog) (i := i) (by omega)
    have e1 : (opsL L)[i]'(by omega) = L[i].1 := by simp
    rw [e1] at hc
    have hfi := hf.each _ (List.getElem_mem hi)
    have hri := hr _ (List.getElem_mem hi)
    have hki := qd' L[i] (List.getElem_mem hi)
    generalize L[i] = x at hc hfi hri hki
    obtain ⟨op, kp⟩ := x
    have hc : cellsR g o op.cs B := hc
    have hs : op.s.size ≤ 400 := hfi.s
    have hkp : kp.length ≤ 100 := hfi.keep
    have hri : op.n ≤ 9223372036854775807 := hri
    have hki : rowR op.keep.1 kp B := hki
    simp -zeta only [hx, cellsR.ldAg (h.hereB hc) ag_errataref05_Op rfl]
    refine h.allocAg (ds := op.cs.toArray) z_errataref05_Op rfl ag_errataref05_Op rfl (fun v hv => Enc.one op v hv) fun oc w9 h => ?_
    have h := h.pick [4, 0, 1, 2, 3] (by decide)
    have h : Rel B w9 [cellD oc T_errataref05_Op op.cs.toArray, refD q s kr, cellD b T_errataref05_Cell (ccs q 3 st), diskD p s kd, cellD a T_cell_Cell (ccs p 3 st)] := h
    refine LETJ_intro fun J hJ => ?_
    replace hJ : ∀ (a b : Nat) (ev fv : Value) (B' : Base) (s : DS) (st : CS) (kd kr : Value) w', B.ext B' → (rowR kd s.keep B' ∧ rowR kr s.keep B' ∧ s.keep.length ≤ 100) → Res s 3 st (fun _ _ => True) →
        Rel B' w' [refD q s kr, cellD b T_errataref05_Cell (ccs q 3 st), diskD p s kd, cellD a T_cell_Cell (ccs p 3 st)] → J (ptr a, ev, ptr b, fv, ()) w' := by
      intro a b ev fv B' s st kd kr w' he hk hres h
      refine hJ _ _ ?_
      dsimp only
      refine h.ask (fun B2 own base2 => Get_g (own (i := 3) rfl)) fun w10 h => ?_
      simp -zeta only [ext_2_0, ext_2_1]
      refine h.ask (fun B2 own base2 => RGet_g (own (i := 1) rfl)) fun w11 h => ?_
      rw [slot_bool hres.2.2.1]
      simp -zeta only [ext_2_0, ext_2_1, neq_str, decide_true, Bool.not_true, ifB_false, bin_neq_bool U_bool, beq_self_eq_true]
      rw [bin_add, wrap_id (by omega) (by omega)]
      exact hnext _ _ ⟨i + 1, a, b, ev, fv, B', s, st, kd, kr, hi, rfl, hext.trans he, hk, hres, h⟩ (by simp only; omega)
    clear hnext
    simp -zeta only [field_addr f_errataref05_Op_0, field_addr f_errataref05_Op_1, field_addr f_errataref05_Op_2, field_addr f_errataref05_Op_3, Nat.add_zero, Nat.zero_add, h.ld 0 rfl sc_int (o := 0) rfl, h.ld 0 rfl sc_int (o := 2) rfl, h.ld 0 rfl sc_s_int (o := 3) rfl, bin_eql, ifB_dec]
    refine ⟨fun k0 => ?_, fun k0 => ⟨fun k1 => ?_, fun k1 => ⟨fun k2 => ?_, fun k2 => ⟨fun k3 => ?_, fun k3 => ?_⟩⟩⟩⟩
    · -- Set
      have h := h.tick
      simp -zeta only [h.ld 0 rfl sc_string (o := 1) rfl]
      have h : Rel B (tick w9) ([cellD oc T_errataref05_Op op.cs.toArray, refD q s kr, cellD b T_errataref05_Cell (ccs q 3 st)] ++ [diskD p s kd, cellD a T_cell_Cell (ccs p 3 st)]) := h
      refine h.act2 (fun B2 own base2 => set_d (base2 hT') (base2 hkd) (by omega)) fun u d1 d2 w13 hp h => ?_
      obtain ⟨rfl, rfl, rfl⟩ := hp
      refine ⟨h.is 0 rfl sc_string (o := 1) rfl, ?_⟩
      have h := h.pick [0, 3, 4, 1, 2] (by decide)
      have h : Rel B w13 ([cellD oc T_errataref05_Op op.cs.toArray, diskD p (setS s st 3 op.s).1.1 kd, cellD a T_cell_Cell (ccs p 3 (setS s st 3 op.s).1.2)] ++ [refD q s kr, cellD b T_errataref05_Cell (ccs q 3 st)]) := h
      refine h.act2 (fun B2 own base2 => RSet_d (base2 hkr) (by omega) hres.2.2.1) fun u d1 d2 w14 hp h => ?_
      obtain ⟨rfl, rfl, rfl⟩ := hp
      rw [bin_neq, decide_eq_true rfl, Bool.not_true, ifB_false]
      have h := h.pick [3, 4, 1, 2] (by decide)
      have hk := keep_setS s st 3 op.s
      exact hJ a b _ _ B (setS s st 3 op.s).1.1 (setS s st 3 op.s).1.2 kd kr _ (Base.ext.refl _) (by rw [hk]; exact ⟨hkd, hkr, hkl⟩) ((set_inv (by decide) hres op.s (by omega)).1.mono fun _ _ _ => trivial) h
    · -- Lose
      refine h.act 3 rfl (fun B2 own base2 => Lose_d hri) fun u e' τ w15 hp h => ?_
      obtain ⟨rfl, rfl, rfl⟩ := hp
      simp -zeta only [h.ld 0 rfl sc_int (o := 2) rfl]
      refine h.act 1 rfl (fun B2 own base2 => RLose_d hri) fun u e' τ w16 hp h => ?_
      obtain ⟨rfl, rfl, rfl⟩ := hp
      have h := h.pick [1, 2, 3, 4] (by decide)
      exact hJ a b _ _ B { s with lost := max op.n 0 } st kd kr _ (Base.ext.refl _) ⟨hkd, hkr, hkl⟩ (res_lose hres hri) h
    · -- Arm
      refine h.act 3 rfl (fun B2 own base2 => Arm_d (base2 hki) (by omega) hri) fun u e' τ w17 hp h => ?_
      obtain ⟨rfl, kd2, rfl, rfl⟩ := hp
      obtain ⟨B1, hB1, h, hkd2⟩ := h.frz1
      simp -zeta only [h.ld 0 rfl sc_int (o := 2) rfl, h.ld 0 rfl sc_s_int (o := 3) rfl]
      refine h.act 1 rfl (fun B2 own base2 => RArm_d (base2 (Dat.mono _ hB1.le hki)) (by omega) hri) fun u e' τ w18 hp h => ?_
      obtain ⟨rfl, kr2, rfl, rfl⟩ := hp
      obtain ⟨B2, hB2, h, hkr2⟩ := h.frz1
      have h := h.pick [1, 2, 3, 4] (by decide)
      exact hJ a b _ _ B2 { s with armed := max op.n 0, keep := kp } st kd2 kr2 _ (hB1.trans hB2) ⟨Dat.mono _ hB2.le (rowD.read hkd2), rowD.read hkr2, hkp⟩ (res_arm hres hri kp) h
    · -- again
      obtain ⟨k, v, hopen, _, hcv, hres'⟩ := again_inv (f := 3) (by decide) hres kp
      have hkeep : (againS s kp).keep = s.keep := keep_crash s kp
      refine h.act 3 rfl (fun B2 own base2 => again_d (base2 hT') (base2 hki) (by omega)) fun u e' τ w19 hp h => ?_
      obtain ⟨rfl, hp⟩ := hp
      rcases hp with ⟨a2, st2, he, rfl, rfl⟩ | ⟨he, _⟩
      case inr => rw [hopen] at he; cases he
      rw [hopen] at he
      cases he
      simp -zeta only [ext_2_0, ext_2_1, h.ld 0 rfl sc_s_int (o := 3) rfl]
      refine h.act 1 rfl (fun B2 own base2 => RCrash_d (base2 hki) (by omega)) fun u e' τ w20 hp h => ?_
      obtain ⟨rfl, rfl, rfl⟩ := hp
      refine h.act 1 rfl (fun B2 own base2 => RStart_d) fun u e' τ w21 hp h => ?_
      obtain ⟨rfl, rfl, rfl⟩ := hp
      have h := h.pick [1, 3, 5] (by decide)
      have h : Rel B w21 [refD q (againS s kp) kr, diskD p (againS s kp) kd, cellD a2 T_cell_Cell (ccs p 3 ⟨k, v, false⟩)] := h
      refine h.make (fun B2 own base2 => Ropen_m (own (i := 0) rfl) 3) fun u τ w22 hp h => ?_
      rcases hp with ⟨b2, st2, he, rfl, rfl⟩ | ⟨he, _⟩
      case inr => rw [hopen] at he; cases he
      rw [hopen] at he
      cases he
      simp -zeta only [ext_2_0, ext_2_1, bin_neq, decide_true, Bool.not_true, ifB_false, cell_nil, rcell_nil]
      have h := h.pick [0, 3, 1, 2] (by decide)
      exact hJ a2 b2 _ _ B (againS s kp) ⟨k, v, false⟩ kd kr _ (Base.ext.refl _) (by rw [hkeep]; exact ⟨hkd, hkr, hkl⟩) (hres'.mono fun _ _ _ => trivial) h
    · have h := h.pick [1, 2, 3, 4] (by decide)
      exact hJ a b _ _ B _ _ kd kr _ (Base.ext.refl _) ⟨hkd, hkr, hkl⟩ hres h
  · clear hnext
    refine h.act 2 rfl (fun B2 own base2 => crash_d (nilrow _) (by decide)) fun u e' τ w23 hp h => ?_
    obtain ⟨rfl, rfl, rfl⟩ := hp
    refine h.act 2 rfl (fun B2 own base2 => Start_d) fun u e' τ w24 hp h => ?_
    obtain ⟨rfl, rfl, rfl⟩ := hp
    refine h.act 0 rfl (fun B2 own base2 => RCrash_d (nilrow _) (by decide)) fun u e' τ w25 hp h => ?_
    obtain ⟨rfl, rfl, rfl⟩ := hp
    refine h.act 0 rfl (fun B2 own base2 => RStart_d) fun u e' τ w26 hp h => ?_
    obtain ⟨rfl, rfl, rfl⟩ := hp
    refine h.ask (fun B2 own base2 => Size_d (own (i := 2) rfl) 3) fun w27 h => ?_
    refine h.ask (fun B2 own base2 => Read_g (own (i := 2) rfl) 3 0 _) fun w28 h => ?_
    simp -zeta only [ext_2_0, ext_2_1]
    refine h.ask (fun B2 own base2 => RRead_g (own (i := 0) rfl) 3 0 _) fun w29 h => ?_
    simp -zeta only [ext_2_0, ext_2_1, ifB_true, eql_str, decide_true]
    refine h.ask (fun B2 own base2 => RSize_g (own (i := 0) rfl) 3) fun w30 h => ?_
    rw [bin_eql, decide_eq_true rfl]
    exact fin _ _ (hext.rel h)
end Go.Proofs.YtmkigdkhpdeaeaaDoor
