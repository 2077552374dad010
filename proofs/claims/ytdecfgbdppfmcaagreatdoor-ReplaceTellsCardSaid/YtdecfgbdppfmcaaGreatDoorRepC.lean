/-
  Replacements: Cut, Side, the laws' step. No condition.
-/
import Derived.Test.YtdecfgbdppfmcaaGreatDoorRepB
namespace Go.Proofs.YtdecfgbdppfmcaaGreatDoor
open Go.RowKit
set_option maxRecDepth 100000

def cutR (r : Rpl) : Rpl := { r with cut := r.cut + 1, state := if r.cut + 1 = 16 then 3 else 2 }
def cutS (l : List Rpl) (t : List Seg) (no : Int) : List Rpl × List Seg × Int :=
  if within no 1 l.length = true then
    if (l.getD (no - 1).toNat zeroR).state = 1 ∨ (l.getD (no - 1).toNat zeroR).state = 2 then
      if (firstR l).1.no = no then (l.set (no - 1).toNat (cutR (l.getD (no - 1).toNat zeroR)), if (l.getD (no - 1).toNat zeroR).cut + 1 = 16 then (replT t (l.getD (no - 1).toNat zeroR).from_ (l.getD (no - 1).toNat zeroR).version).1 else t, 0)
      else ([], [], 25)
    else ([], [], 7)
  else ([], [], 4)

section
variable {B : Base}
set_option maxRecDepth 100000 in
theorem cut_m {vl vt : Value} {l : List Rpl} {t : List Seg} (rl : rowR vl l B) (rt : rowR vt t B) (hl : l.length ≤ 100000) (hs : Sorted t) (htl : t.length ≤ 100000) (hc : ∀ r ∈ l, 0 ≤ r.cut ∧ r.cut ≤ 1000) (no : Int) :
    Makes Tryz.prog B (sCall F_replace_Cut #[vl, vt, .int .i64 no]) fun u τ => ∃ v1 v2, u = .tuple #[v1, v2, .int .i64 (cutS l t no).2.2] ∧ τ = [rowD T_api_Replacement v1 (cutS l t no).1, rowD T_api_Seg v2 (cutS l t no).2.1] := by
  refine Makes.intro fun B' w K base h k => ?_
  replace rl := base rl
  replace rt := base rt
  refine replace_Cut.up (replace_Cut.call ?_)
  unfold replace_Cut.pt
  simp -zeta only [rowR.len rl sl_s_api_Replacement]
  refine h.ask (fun _ _ _ => within_g no 1 l.length) fun w1 h => ?_
  rw [un_not, ifB_not, ifB_bool]
  have bad : ∀ w' τ c, cutS l t no = ([], [], c) → Rel B' w' τ → K (.tuple #[.slice none 0 0, .slice none 0 0, .int .i64 c]) w' := fun w' τ c e h => by
    rw [e] at k
    exact k _ _ _ ⟨_, _, rfl, rfl⟩ ((h.nil.addNil Rpl T_api_Replacement).addNil Seg T_api_Seg)
  refine ⟨fun e => ?_, fun e => bad _ _ _ (by unfold cutS; rw [if_neg (by rw [e]; decide)]) h⟩
  obtain ⟨q1, q2⟩ := within_iff.1 e
  obtain ⟨n, hn, hnl⟩ : ∃ n : Nat, no - 1 = n ∧ n < l.length := ⟨(no - 1).toNat, by omega, by omega⟩
  have hg : l.getD n zeroR = l[n] := by rw [List.getD_eq_getElem?_getD, List.getElem?_eq_getElem hnl]; rfl
  have hS : cutS l t no = if l[n].state = 1 ∨ l[n].state = 2 then if (firstR l).1.no = no then (l.set n (cutR l[n]), if l[n].cut + 1 = 16 then (replT t l[n].from_ l[n].version).1 else t, 0) else ([], [], 25) else ([], [], 7) := by
    unfold cutS
    rw [if_pos e, hn]
    simp only [Int.toNat_natCast, hg]
  have hw : IntKind.i64.wrap (no - 1) = n := by rw [wrap_id (by omega) (by omega), hn]
  have hcn := hc _ (List.getElem_mem hnl)
  obtain ⟨g, o, hx, hcx⟩ := rowR.idx rl sl_s_api_Replacement hnl
  simp -zeta only [bin_sub, hw, hx, cellsR.ldAg (h.hereB hcx) ag_api_Replacement rfl]
  refine h.allocAg (ds := l[n].cs.toArray) z_api_Replacement rfl ag_api_Replacement rfl (fun v hv => Enc.one l[n] v hv) fun b w2 h => ?_
  have h : Rel B' w2 [cellD b T_api_Replacement l[n].cs.toArray] := h
  refine LETJ_intro fun J hJ => ?_
  replace hJ : (l[n].state = 1 ∨ l[n].state = 2) → J () w2 := by
    intro hst
    refine hJ _ _ ?_
    clear hJ
    rw [if_pos hst] at hS
    refine h.ask (fun B2 own base2 => first_g (base2 rl) (by omega)) fun w3 h => ?_
    simp -zeta only [ext_2_0, ext_2_1]
    refine h.allocAg (ds := (firstR l).1.cs.toArray) z_api_Replacement rfl ag_api_Replacement rfl (fun v hv => Enc.one (firstR l).1 v hv) fun b2 w4 h => ?_
    simp -zeta only [field_addr f_api_Replacement_0, Nat.add_zero, h.ld 1 rfl sc_int (o := 0) rfl, bin_neq, ifB_not, ifB_dec]
    refine ⟨fun (hno : (firstR l).1.no = no) => ?_, fun (hno : ¬ (firstR l).1.no = no) => bad _ _ _ (by rw [hS, if_neg hno]) h⟩
    rw [if_pos hno] at hS
    rw [hS] at k
    refine h.make (fun B2 own base2 => gslices_Clone_s_api_Seg_api_Seg (base2 rt) (by omega) (by omega)) fun u τ w5 hp h => ?_
    subst hp
    have h : Rel B' w5 [cellD b T_api_Replacement l[n].cs.toArray, rowD T_api_Seg u t] := h.pick [0, 2] (by decide)
    simp -zeta only [field_addr f_api_Replacement_4, field_addr f_api_Replacement_5, Nat.zero_add, h.ld 0 rfl sc_int (o := 5) rfl, bin_add]
    rw [wrap_id (by omega) (by omega)]
    refine h.st 0 rfl sc_int (show 5 < 6 by omega) rfl fun w6 h => ?_
    refine h.st 0 rfl sc_int (show 4 < 6 by omega) rfl fun w7 h => ?_
    have h : Rel B' w7 [cellD b T_api_Replacement ({ l[n] with cut := l[n].cut + 1, state := 2 } : Rpl).cs.toArray, rowD T_api_Seg u t] := h
    refine LETJ_intro fun J2 hJ2 => ?_
    replace hJ2 : ∀ v' w' (segs : List Seg) (x : Rpl), (segs, x) = (if l[n].cut + 1 = 16 then (replT t l[n].from_ l[n].version).1 else t, cutR l[n]) → Rel B' w' [cellD b T_api_Replacement x.cs.toArray, rowD T_api_Seg v' segs] → J2 (v', ()) w' := by
      intro v' w' segs x hsx h
      refine hJ2 _ _ ?_
      clear hJ2
      injection hsx with hs1 hs2
      refine h.make (fun B2 own base2 => gslices_Clone_s_api_Replacement_api_Replacement (base2 rl) (by omega) (by omega)) fun u2 τ w8 hp h => ?_
      subst hp
      obtain ⟨g2, cap2, rfl⟩ := h.open_ (i := 2) rfl (by omega)
      simp -zeta only [bin_sub, hw, h.ldAg 0 rfl ag_api_Replacement rfl, idx_own (α := Rpl) sl_s_api_Replacement hnl]
      refine h.set_ag (α := Rpl) 2 rfl x hnl ag_api_Replacement rfl rfl fun w9 h => ?_
      have h : Rel B' w9 [rowD T_api_Replacement _ (l.set n x), rowD T_api_Seg v' segs] := h.pick [2, 1] (by decide)
      rw [hs1, hs2] at h
      exact k _ _ _ ⟨_, v', rfl, rfl⟩ h
    simp -zeta only [field_addr f_api_Replacement_1, field_addr f_api_Replacement_2, Nat.zero_add, h.ld 0 rfl sc_int (o := 5) rfl, bin_eql, ifB_dec]
    refine ⟨fun (h16 : l[n].cut + 1 = 16) => ?_, fun (h16 : ¬ l[n].cut + 1 = 16) => hJ2 u w7 t _ (by rw [if_neg h16]; unfold cutR; rw [if_neg h16]) h⟩
    refine h.st 0 rfl sc_int (show 4 < 6 by omega) rfl fun w8 h => ?_
    have h : Rel B' w8 [cellD b T_api_Replacement ({ l[n] with cut := l[n].cut + 1, state := 3 } : Rpl).cs.toArray, rowD T_api_Seg u t] := h
    simp -zeta only [h.ld 0 rfl sc_int (o := 1) rfl, h.ld 0 rfl sc_int (o := 2) rfl]
    refine h.make (fun B2 own base2 => Replace_m (base2 rt) hs (by omega) l[n].from_ l[n].version) fun u2 τ w9 hp h => ?_
    obtain ⟨v', rfl, rfl⟩ := hp
    simp -zeta only [ext_2_0, ext_2_1]
    exact hJ2 v' w9 _ _ (by rw [if_pos h16]; unfold cutR; rw [if_pos h16]) (h.pick [0, 2] (by decide))
  simp -zeta only [field_addr f_api_Replacement_4, Nat.zero_add, h.ld 0 rfl sc_int (o := 4) rfl, bin_neq, ifB_not, ifB_dec]
  refine ⟨fun e0 => hJ (.inl e0), fun e0 => ⟨fun e1 => hJ (.inr e1), fun e1 => bad _ _ _ ?_ h⟩⟩
  rw [hS, if_neg (by rintro (h | h); exact e0 h; exact e1 h)]

/-! ### The laws' state -/
abbrev OpR := D_erratalaw47_Op
def stepS (l : List Rpl) (t : List Seg) (o : OpR) : (Int × Int) × List Rpl × List Seg :=
  if o.do_ % 8 = 0 ∨ o.do_ % 8 = 1 then
    if (askS l o.from_ o.version o.back o.horizon o.raise).2.2 = 0 then ((askS l o.from_ o.version o.back o.horizon o.raise).2, (askS l o.from_ o.version o.back o.horizon o.raise).1, t) else ((askS l o.from_ o.version o.back o.horizon o.raise).2, l, t)
  else if o.do_ % 8 = 2 then if (setS l o.no 4).2 = 0 then ((0, (setS l o.no 4).2), (setS l o.no 4).1, t) else ((0, (setS l o.no 4).2), l, t)
  else if o.do_ % 8 = 3 then if (setS l o.no (if o.raise = true then 1 else 0)).2 = 0 then ((0, (setS l o.no (if o.raise = true then 1 else 0)).2), (setS l o.no (if o.raise = true then 1 else 0)).1, t) else ((0, (setS l o.no (if o.raise = true then 1 else 0)).2), l, t)
  else if (cutS l t o.no).2.2 = 0 then ((0, (cutS l t o.no).2.2), (cutS l t o.no).1, (cutS l t o.no).2.1) else ((0, (cutS l t o.no).2.2), l, t)

theorem and7 (a : Int) : IntKind.wrap .i64 (BitVec.ofInt IntKind.i64.bits a &&& BitVec.ofInt IntKind.i64.bits 7).toNat = a % 8 := and_low a 3 (by omega) 7 (by decide)
def stateD (b : Nat) (vl vt : Value) : Dat := cellD b T_erratalaw47_state #[vl, vt]

theorem step_r {w : World} {σ : List Dat} {K : Value → World → Prop} {b : Nat} {vl vt : Value} {l : List Rpl} {t : List Seg} (h : Rel B w σ) (i : Nat) (hi : σ[i]? = some (stateD b vl vt)) (rl : rowR vl l B) (rt : rowR vt t B)
    (hl : l.length ≤ 1000) (hs : Sorted t) (htl : t.length ≤ 1000) (hc : ∀ r ∈ l, 0 ≤ r.cut ∧ r.cut ≤ 1000) (op : OpR)
    (k : ∀ B' vl' vt' w', B.ext B' → rowR vl' (stepS l t op).2.1 B' → rowR vt' (stepS l t op).2.2 B' → Rel B' w' (σ.set i (stateD b vl' vt')) → K (.tuple #[.int .i64 (stepS l t op).1.1, .int .i64 (stepS l t op).1.2]) w') :
    upK Tryz.prog (sCall F_erratalaw47_state_step #[ptr b, op.v]) w K := by
  have hlt : i < σ.length := (List.getElem?_eq_some_iff.1 hi).1
  refine erratalaw47_state_step.up (erratalaw47_state_step.call ?_)
  unfold erratalaw47_state_step.pt
  refine h.box fun bo w1 h => ?_
  have e1 : (op.v : Value).cells = op.cs.toArray := Enc.cells_val op
  have h : Rel B w1 (σ ++ [cellD bo T_erratalaw47_Op op.v.cells]) := h
  rw [e1] at h
  have hi' : (σ ++ [cellD bo T_erratalaw47_Op op.cs.toArray])[i]? = some (cellD b T_erratalaw47_state #[vl, vt]) := by rw [List.getElem?_append_left hlt]; exact hi
  have hgl : (σ ++ [cellD bo T_erratalaw47_Op op.cs.toArray])[σ.length]? = some (cellD bo T_erratalaw47_Op op.cs.toArray) := get_last
  simp -zeta only [nil_ptr, field_addr f_erratalaw47_state_0, field_addr f_erratalaw47_state_1, Nat.zero_add, h.ld i hi' sc_s_api_Replacement (o := 0) rfl, h.ld i hi' sc_s_api_Seg (o := 1) rfl]
  refine LETJ_intro fun J1 hJ1 => ?_
  -- an operation that changes nothing, and one that gives new lists
  have same : ∀ n e w', e ≠ 0 → stepS l t op = ((n, e), l, t) → Rel B w' (σ ++ [cellD bo T_erratalaw47_Op op.cs.toArray]) → ∀ vl' vt', J1 (vl', .int .i64 n, .int .i64 e, vt', ()) w' := by
    intro n e w' hne hS h vl' vt'
    refine hJ1 _ _ ?_
    refine LETJ_intro fun J2 hJ2 => ?_
    simp -zeta only [bin_eql, ifB_dec]
    refine ⟨fun he => absurd he hne, fun _ => hJ2 _ _ ?_⟩
    rw [hS] at k
    refine k B vl vt w' (Base.ext.refl B) rl rt ?_
    rw [set_same hi]
    exact h.drop
  have new : ∀ n w' (B' : Base) vl' vt' l' t', B.ext B' → stepS l t op = ((n, 0), l', t') → rowR vl' l' B' → rowR vt' t' B' → Rel B' w' (σ ++ [cellD bo T_erratalaw47_Op op.cs.toArray]) → J1 (vl', .int .i64 n, .int .i64 0, vt', ()) w' := by
    intro n w' B' vl' vt' l' t' hext hS rl' rt' h
    refine hJ1 _ _ ?_
    refine LETJ_intro fun J2 hJ2 => ?_
    simp -zeta only [bin_eql, decide_true, ifB_true, nil_ptr, field_addr f_erratalaw47_state_0, field_addr f_erratalaw47_state_1, Nat.zero_add]
    refine h.st i hi' sc_s_api_Replacement (show 0 < 2 by omega) (rowR.oneCell rl') fun w2 h => ?_
    refine h.st (E := T_erratalaw47_state) (cs := #[vl', vt]) i (by rw [List.getElem?_set_self (by simp; omega)]; rfl) sc_s_api_Seg (show 1 < 2 by omega) (rowR.oneCell rt') fun w3 h => ?_
    refine hJ2 _ _ ?_
    rw [hS] at k
    refine k B' vl' vt' w3 hext rl' rt' ?_
    rw [List.set_set, List.set_append_left _ _ hlt] at h
    exact h.drop
  clear hJ1 k
  have hd : 0 ≤ op.do_ % 8 ∧ op.do_ % 8 < 8 := by omega
  simp -zeta only [field_addr f_erratalaw47_Op_0, Nat.add_zero, h.ld σ.length hgl sc_int (o := 0) rfl, bin_and, and7]
  refine LETJ_intro fun J3 hJ3 => ?_
  replace hJ3 : ∀ bb : Bool, (bb = true ↔ op.do_ % 8 = 0 ∨ op.do_ % 8 = 1) → J3 (.bool bb, ()) w1 := by
    intro bb hbb
    refine hJ3 _ _ ?_
    clear hJ3
    have h := h.tick
    show ifB (.bool bb) _ _
    rw [ifB_bool]
    refine ⟨fun e => ?_, fun e => ?_⟩
    · have hdo := hbb.1 e
      simp -zeta only [nil_ptr, field_addr f_erratalaw47_state_0, field_addr f_erratalaw47_Op_2, field_addr f_erratalaw47_Op_3, field_addr f_erratalaw47_Op_4, field_addr f_erratalaw47_Op_5, field_addr f_erratalaw47_Op_6, Nat.zero_add,
        h.ld i hi' sc_s_api_Replacement (o := 0) rfl, h.ld σ.length hgl sc_int (o := 2) rfl, h.ld σ.length hgl sc_int (o := 3) rfl, h.ld σ.length hgl sc_int (o := 4) rfl, h.ld σ.length hgl sc_int (o := 5) rfl, h.ld σ.length hgl sc_bool (o := 6) rfl]
      refine h.make (fun B2 own base2 => ask_m (base2 rl) (by omega) op.from_ op.version op.back op.horizon op.raise) fun u τ w2 hp h => ?_
      obtain ⟨v', rfl, rfl⟩ := hp
      simp -zeta only [ext_3_0, ext_3_1, ext_3_2]
      have hS : stepS l t op = if (askS l op.from_ op.version op.back op.horizon op.raise).2.2 = 0 then ((askS l op.from_ op.version op.back op.horizon op.raise).2, (askS l op.from_ op.version op.back op.horizon op.raise).1, t) else ((askS l op.from_ op.version op.back op.horizon op.raise).2, l, t) := by
        unfold stepS; rw [if_pos hdo]
      generalize askS l op.from_ op.version op.back op.horizon op.raise = z at hS h ⊢
      obtain ⟨l', n, e⟩ := z
      by_cases he : e = 0
      · subst he
        obtain ⟨B', hext, h, hrow⟩ := h.frz1
        exact new n w2 B' v' vt l' t hext (by rw [hS]; rfl) (rowD.read hrow) (Dat.mono _ hext.le rt) h
      · exact same n e w2 he (by rw [hS, if_neg he]) h.drop v' vt
    · have hdo : ¬ (op.do_ % 8 = 0 ∨ op.do_ % 8 = 1) := fun hh => by rw [hbb.2 hh] at e; cases e
      simp -zeta only [bin_eql, ifB_dec]
      refine ⟨fun h2 => ?_, fun h2 => ⟨fun h3 => ?_, fun h3 => ?_⟩⟩
      · simp -zeta only [nil_ptr, field_addr f_erratalaw47_state_0, field_addr f_erratalaw47_Op_1, Nat.zero_add, h.ld i hi' sc_s_api_Replacement (o := 0) rfl, h.ld σ.length hgl sc_int (o := 1) rfl]
        refine h.make (fun B2 own base2 => abandon_m (base2 rl) (by omega) op.no) fun u τ w2 hp h => ?_
        obtain ⟨v', rfl, rfl⟩ := hp
        simp -zeta only [ext_2_0, ext_2_1]
        have hS : stepS l t op = if (setS l op.no 4).2 = 0 then ((0, (setS l op.no 4).2), (setS l op.no 4).1, t) else ((0, (setS l op.no 4).2), l, t) := by unfold stepS; rw [if_neg hdo, if_pos h2]
        generalize setS l op.no 4 = z at hS h ⊢
        obtain ⟨l', e⟩ := z
        by_cases he : e = 0
        · subst he
          obtain ⟨B', hext, h, hrow⟩ := h.frz1
          exact new 0 w2 B' v' vt l' t hext (by rw [hS]; rfl) (rowD.read hrow) (Dat.mono _ hext.le rt) h
        · exact same 0 e w2 he (by rw [hS, if_neg he]) h.drop v' vt
      · simp -zeta only [nil_ptr, field_addr f_erratalaw47_state_0, field_addr f_erratalaw47_Op_1, field_addr f_erratalaw47_Op_6, Nat.zero_add, h.ld i hi' sc_s_api_Replacement (o := 0) rfl, h.ld σ.length hgl sc_int (o := 1) rfl, h.ld σ.length hgl sc_bool (o := 6) rfl]
        refine h.make (fun B2 own base2 => caught_m (base2 rl) (by omega) op.no op.raise) fun u τ w2 hp h => ?_
        obtain ⟨v', rfl, rfl⟩ := hp
        simp -zeta only [ext_2_0, ext_2_1]
        have hS : stepS l t op = if (setS l op.no (if op.raise = true then 1 else 0)).2 = 0 then ((0, (setS l op.no (if op.raise = true then 1 else 0)).2), (setS l op.no (if op.raise = true then 1 else 0)).1, t) else ((0, (setS l op.no (if op.raise = true then 1 else 0)).2), l, t) := by unfold stepS; rw [if_neg hdo, if_neg h2, if_pos h3]
        generalize setS l op.no (if op.raise = true then 1 else 0) = z at hS h ⊢
        obtain ⟨l', e⟩ := z
        by_cases he : e = 0
        · subst he
          obtain ⟨B', hext, h, hrow⟩ := h.frz1
          exact new 0 w2 B' v' vt l' t hext (by rw [hS]; rfl) (rowD.read hrow) (Dat.mono _ hext.le rt) h
        · exact same 0 e w2 he (by rw [hS, if_neg he]) h.drop v' vt
      · simp -zeta only [nil_ptr, field_addr f_erratalaw47_state_0, field_addr f_erratalaw47_state_1, field_addr f_erratalaw47_Op_1, Nat.zero_add, h.ld i hi' sc_s_api_Replacement (o := 0) rfl, h.ld i hi' sc_s_api_Seg (o := 1) rfl, h.ld σ.length hgl sc_int (o := 1) rfl]
        refine h.make (fun B2 own base2 => cut_m (base2 rl) (base2 rt) (by omega) hs (by omega) hc op.no) fun u τ w2 hp h => ?_
        obtain ⟨v1, v2, rfl, rfl⟩ := hp
        simp -zeta only [ext_3_0, ext_3_1, ext_3_2]
        have hS : stepS l t op = if (cutS l t op.no).2.2 = 0 then ((0, (cutS l t op.no).2.2), (cutS l t op.no).1, (cutS l t op.no).2.1) else ((0, (cutS l t op.no).2.2), l, t) := by unfold stepS; rw [if_neg hdo, if_neg h2, if_neg h3]
        generalize cutS l t op.no = z at hS h ⊢
        obtain ⟨l', t', e⟩ := z
        by_cases he : e = 0
        · subst he
          have h : Rel B w2 ((σ ++ [cellD bo T_erratalaw47_Op op.cs.toArray]) ++ [rowD T_api_Replacement v1 l'] ++ [rowD T_api_Seg v2 t']) := by simpa using h
          obtain ⟨B', hext, h, hrow2⟩ := h.frz1
          obtain ⟨B2, hext2, h, hrow1⟩ := h.frz1
          exact new 0 w2 B2 v1 v2 l' t' (hext.trans hext2) (by rw [hS]; rfl) (rowD.read hrow1) (Dat.mono _ hext2.le (rowD.read hrow2)) h
        · exact same 0 e w2 he (by rw [hS, if_neg he]) h.drop v1 v2
  simp -zeta only [bin_eql, ifB_dec]
  exact ⟨fun e0 => hJ3 _ ⟨fun _ => .inl e0, fun _ => by simp [e0]⟩, fun e0 => hJ3 _ (by simp [e0])⟩
end
end Go.Proofs.YtdecfgbdppfmcaaGreatDoor
