/-
  The reference's Cut, Side, the laws' model; Needed of both; Earn and Spend of both. No condition.
-/
import Derived.Test.YtdecfgbdppfmcaaGreatDoorRepM
import Derived.Test.YtdecfgbdppfmcaaGreatDoorSort1
namespace Go.Proofs.YtdecfgbdppfmcaaGreatDoor
open Go.RowKit
set_option maxRecDepth 100000

section
variable {B : Base}
theorem fcut_m {vl vt : Value} {l : List Rpl} {t : List Seg} (rl : rowR vl l B) (rt : rowR vt t B) (hl : l.length ≤ 100000) (hs : Sorted t) (htl : t.length ≤ 100000) (hc : ∀ r ∈ l, 0 ≤ r.cut ∧ r.cut ≤ 1000) (no : Int) :
    Makes Tryz.prog B (sCall F_errataref47_Cut #[vl, vt, .int .i64 no]) fun u τ => ∃ v1 v2, u = .tuple #[v1, v2, .int .i64 (cutS l t no).2.2] ∧ τ = [rowD T_api_Replacement v1 (cutS l t no).1, rowD T_api_Seg v2 (cutS l t no).2.1] := by
  refine Makes.intro fun B' w K base h k => ?_
  replace rl := base rl
  replace rt := base rt
  refine errataref47_Cut.up (errataref47_Cut.call ?_)
  unfold errataref47_Cut.pt
  have bad : ∀ w' τ c, cutS l t no = ([], [], c) → Rel B' w' τ → K (.tuple #[.slice none 0 0, .slice none 0 0, .int .i64 c]) w' := fun w' τ c e h => by
    rw [e] at k
    exact k _ _ _ ⟨_, _, rfl, rfl⟩ ((h.nil.addNil Rpl T_api_Replacement).addNil Seg T_api_Seg)
  simp -zeta only [rowR.len rl sl_s_api_Replacement, bin_lss, bin_gtr, ifB_dec]
  refine ⟨fun q1 => bad _ _ _ (by unfold cutS; rw [if_neg fun e => by have := within_iff.1 e; omega]) h, fun q1 => ⟨fun q2 => bad _ _ _ (by unfold cutS; rw [if_neg fun e => by have := within_iff.1 e; omega]) h, fun q2 => ?_⟩⟩
  have e : within no 1 l.length = true := within_iff.2 ⟨by omega, by omega⟩
  obtain ⟨n, hn, hnl⟩ : ∃ n : Nat, no - 1 = n ∧ n < l.length := ⟨(no - 1).toNat, by omega, by omega⟩
  have hg : l.getD n zeroR = l[n] := by rw [List.getD_eq_getElem?_getD, List.getElem?_eq_getElem hnl]; rfl
  have hS : cutS l t no = if l[n].state = 1 ∨ l[n].state = 2 then if (firstR l).1.no = no then (l.set n (cutR l[n]), if l[n].cut + 1 = 16 then (replT t l[n].from_ l[n].version).1 else t, 0) else ([], [], 25) else ([], [], 7) := by
    unfold cutS
    rw [if_pos e, hn]
    simp only [Int.toNat_natCast, hg]
  have hw : IntKind.i64.wrap (no - 1) = n := by rw [wrap_id (by omega) (by omega), hn]
  have hcn := hc _ (List.getElem_mem hnl)
  obtain ⟨g, o, hx, hcx⟩ := rowR.idx rl sl_s_api_Replacement hnl
  simp -zeta only [bin_sub, hw, hx, cellsR.ldAg (h.hereB hcx) ag_api_Replacement rfl]
  refine h.allocAg (ds := l[n].cs.toArray) z_api_Replacement rfl ag_api_Replacement rfl (fun v hv => Enc.one l[n] v hv) fun b w2 h => ?_
  have h : Rel B' w2 [cellD b T_api_Replacement l[n].cs.toArray] := h
  refine LETJ_intro fun J hJ => ?_
  replace hJ : (l[n].state = 1 ∨ l[n].state = 2) → J () w2 := by
    intro hst
    refine hJ _ _ ?_
    clear hJ
    rw [if_pos hst] at hS
    refine h.make (fun B2 own base2 => fOpen_m (base2 rl) (by omega)) fun u0 τ w3 hp h => ?_
    subst hp
    have h : Rel B' w3 [cellD b T_api_Replacement l[n].cs.toArray, rowD T_api_Replacement u0 (l.filter openR)] := h
    have hrd := rowD.read (h.here (i := 1) rfl)
    have hff := firstR_filter l
    have hFl : (l.filter openR).length ≤ l.length := List.length_filter_le _ _
    obtain ⟨F, hF⟩ : ∃ F, F = l.filter openR := ⟨_, rfl⟩
    rw [← hF] at hrd hff hFl h
    clear hF
    simp -zeta only [rowR.len hrd sl_s_api_Replacement, bin_eql, ifB_dec]
    cases F with
    | nil =>
      have hff : firstR l = (zeroR, false) := hff
      refine ⟨fun _ => bad _ _ _ ?_ h, fun hh => absurd rfl hh⟩
      rw [hS, if_neg]
      rw [hff]
      show ¬ (0 : Int) = no
      omega
    | cons a F =>
      have hff : firstR l = (a, true) := hff
      rw [hff] at hS
      refine ⟨fun hh => absurd hh (show ¬ (((a :: F).length : Nat) : Int) = 0 by rw [List.length_cons]; omega), fun _ => ?_⟩
      obtain ⟨g1, o1, hx1, hc1⟩ := rowR.idx hrd sl_s_api_Replacement (P := Tryz.prog) (i := 0) (by rw [List.length_cons]; omega)
      have hx1 : ∀ {Kp : Value → Prop}, pureK Tryz.prog (sIdxAddr T_s_api_Replacement u0 (.int .i64 0)) Kp = Kp _ := hx1
      have hc1 : (cellsR g1 o1 a.cs).here w3 := hc1
      simp -zeta only [hx1, field_addr f_api_Replacement_0, Nat.add_zero, cellsR.ld0 hc1 sc_int rfl, bin_neq, ifB_not, ifB_dec]
      refine ⟨fun (hno : a.no = no) => ?_, fun (hno : ¬ a.no = no) => bad _ _ _ (by rw [hS, if_neg hno]) h⟩
      rw [if_pos hno] at hS
      rw [hS] at k
      have h : Rel B' w3 [cellD b T_api_Replacement l[n].cs.toArray] := h.take 1
      refine copyR h rl (by omega) fun u2 w4 h => ?_
      refine copySg h rt (by omega) fun u w5 h => ?_
      have h : Rel B' w5 [cellD b T_api_Replacement l[n].cs.toArray, rowD T_api_Replacement u2 l, rowD T_api_Seg u t] := h
      simp -zeta only [field_addr f_api_Replacement_4, field_addr f_api_Replacement_5, Nat.zero_add, h.ld 0 rfl sc_int (o := 5) rfl, bin_add]
      rw [wrap_id (by omega) (by omega)]
      refine h.st 0 rfl sc_int (show 5 < 6 by omega) rfl fun w6 h => ?_
      refine h.st 0 rfl sc_int (show 4 < 6 by omega) rfl fun w7 h => ?_
      have h : Rel B' w7 [cellD b T_api_Replacement ({ l[n] with cut := l[n].cut + 1, state := 2 } : Rpl).cs.toArray, rowD T_api_Replacement u2 l, rowD T_api_Seg u t] := h
      refine LETJ_intro fun J2 hJ2 => ?_
      replace hJ2 : ∀ v' w' (segs : List Seg) (x : Rpl), (segs, x) = (if l[n].cut + 1 = 16 then (replT t l[n].from_ l[n].version).1 else t, cutR l[n]) → Rel B' w' [cellD b T_api_Replacement x.cs.toArray, rowD T_api_Replacement u2 l, rowD T_api_Seg v' segs] → J2 (v', ()) w' := by
        intro v' w' segs x hsx h
        refine hJ2 _ _ ?_
        clear hJ2
        injection hsx with hs1 hs2
        obtain ⟨g2, cap2, rfl⟩ := h.open_ (i := 1) rfl (by omega)
        simp -zeta only [bin_sub, hw, h.ldAg 0 rfl ag_api_Replacement rfl, idx_own (α := Rpl) sl_s_api_Replacement hnl]
        refine h.set_ag (α := Rpl) 1 rfl x hnl ag_api_Replacement rfl rfl fun w9 h => ?_
        have h : Rel B' w9 [rowD T_api_Replacement _ (l.set n x), rowD T_api_Seg v' segs] := h.pick [1, 2] (by decide)
        rw [hs1, hs2] at h
        exact k _ _ _ ⟨_, v', rfl, rfl⟩ h
      simp -zeta only [field_addr f_api_Replacement_1, field_addr f_api_Replacement_2, Nat.zero_add, h.ld 0 rfl sc_int (o := 5) rfl, bin_eql, ifB_dec]
      refine ⟨fun (h16 : l[n].cut + 1 = 16) => ?_, fun (h16 : ¬ l[n].cut + 1 = 16) => hJ2 u w7 t _ (by rw [if_neg h16]; unfold cutR; rw [if_neg h16]) h⟩
      refine h.st 0 rfl sc_int (show 4 < 6 by omega) rfl fun w8 h => ?_
      have h : Rel B' w8 [cellD b T_api_Replacement ({ l[n] with cut := l[n].cut + 1, state := 3 } : Rpl).cs.toArray, rowD T_api_Replacement u2 l, rowD T_api_Seg u t] := h
      simp -zeta only [h.ld 0 rfl sc_int (o := 1) rfl, h.ld 0 rfl sc_int (o := 2) rfl]
      refine h.make (fun B2 own base2 => RReplace_m (base2 rt) hs (by omega) l[n].from_ l[n].version) fun u3 τ w9 hp h => ?_
      obtain ⟨v', rfl, rfl⟩ := hp
      simp -zeta only [ext_2_0, ext_2_1]
      exact hJ2 v' w9 _ _ (by rw [if_pos h16]; unfold cutR; rw [if_pos h16]) (h.pick [0, 1, 3] (by decide))
  simp -zeta only [field_addr f_api_Replacement_4, Nat.zero_add, h.ld 0 rfl sc_int (o := 4) rfl, bin_neq, ifB_not, ifB_dec]
  refine ⟨fun e0 => hJ (.inl e0), fun e0 => ⟨fun e1 => hJ (.inr e1), fun e1 => bad _ _ _ ?_ h⟩⟩
  rw [hS, if_neg (by rintro (h | h); exact e0 h; exact e1 h)]

theorem fSide_g {vl vt : Value} {l : List Rpl} {t : List Seg} (rl : rowR vl l B) (rt : rowR vt t B) (hl : l.length ≤ 100000) (ht : TInv t) (htl : t.length ≤ 100000) (time bucket : Int) :
    Gives Tryz.prog B (sCall F_errataref47_Side #[vl, vt, .int .i64 time, .int .i64 bucket]) (.int .i64 (sideS l t time bucket)) := by
  refine Gives.intro fun B' w K base h k => ?_
  replace rl := base rl
  replace rt := base rt
  refine errataref47_Side.up (errataref47_Side.call ?_)
  unfold errataref47_Side.pt
  refine h.make (fun B2 own base2 => fOpen_m (base2 rl) (by omega)) fun u0 τ w3 hp h => ?_
  subst hp
  have h : Rel B' w3 [rowD T_api_Replacement u0 (l.filter openR)] := h
  refine LETJ_intro fun J hJ => ?_
  replace hJ : ∀ w' τ, Rel B' w' τ → sideS l t time bucket = atS t time → J () w' := by
    intro w' τ h e
    refine hJ _ _ ?_
    rw [e] at k
    refine h.ask (fun B2 own base2 => RAt_g (base2 rt) ht (by omega) time) fun w2 h => ?_
    exact k _ _ h.nil
  have hrd := rowD.read (h.here (i := 0) rfl)
  have hff := firstR_filter l
  obtain ⟨F, hF⟩ : ∃ F, F = l.filter openR := ⟨_, rfl⟩
  rw [← hF] at hrd hff h
  clear hF
  simp -zeta only [rowR.len hrd sl_s_api_Replacement, bin_gtr, ifB_dec]
  have no : ¬ ((firstR l).2 = true ∧ (firstR l).1.state = 2 ∧ (firstR l).1.from_ ≤ time ∧ bucket < (firstR l).1.cut) → J () w3 := fun hh => hJ _ _ h (by unfold sideS; rw [if_neg hh])
  cases F with
  | nil => exact ⟨fun hh => absurd hh (by decide), fun _ => no fun hh => by rw [hff] at hh; cases hh.1⟩
  | cons a F =>
    have hff : firstR l = (a, true) := hff
    rw [hff] at no
    refine ⟨fun _ => ?_, fun hh => absurd (show (0 : Int) < ((a :: F).length : Nat) by rw [List.length_cons]; omega) hh⟩
    obtain ⟨g, o, hx, hc⟩ := rowR.idx hrd sl_s_api_Replacement (P := Tryz.prog) (i := 0) (by rw [List.length_cons]; omega)
    have hx : ∀ {Kp : Value → Prop}, pureK Tryz.prog (sIdxAddr T_s_api_Replacement u0 (.int .i64 0)) Kp = Kp _ := hx
    have hc : (cellsR g o a.cs).here w3 := hc
    simp -zeta only [hx, field_addr f_api_Replacement_1, field_addr f_api_Replacement_2, field_addr f_api_Replacement_4, field_addr f_api_Replacement_5, cellsR.ld hc sc_int (j := 1) rfl, cellsR.ld hc sc_int (j := 2) rfl, cellsR.ld hc sc_int (j := 4) rfl, cellsR.ld hc sc_int (j := 5) rfl, bin_eql, bin_geq, bin_lss, ifB_dec]
    refine ⟨fun e2 => ⟨fun e3 => ⟨fun e4 => ?_, fun e4 => no fun hh => e4 hh.2.2.2⟩, fun e3 => no fun hh => e3 hh.2.2.1⟩, fun e2 => no fun hh => e2 hh.2.1⟩
    have e : sideS l t time bucket = a.version := by
      unfold sideS
      rw [hff, if_pos ⟨rfl, e2, e3, e4⟩]
    rw [e] at k
    exact k _ _ h.nil

/-! ### Needed -/
def needS (l : List Rpl) (t : List Seg) (closed : Int) : List Int := Lib.compact (sortI (openS t closed ++ (l.filter openR).map (·.version)))
theorem Needed_m {vl vt : Value} {l : List Rpl} {t : List Seg} (rl : rowR vl l B) (rt : rowR vt t B) (hl : l.length ≤ 100000) (hs : Sorted t) (htl : t.length ≤ 100000) {closed : Int} (hc : -9223372036854775808 ≤ closed) :
    Makes Tryz.prog B (sCall F_replace_Needed #[vl, vt, .int .i64 closed]) fun u τ => τ = [rowD T_int u (needS l t closed)] := by
  refine Makes.intro fun B' w K base h k => ?_
  replace rl := base rl
  replace rt := base rt
  refine replace_Needed.up (replace_Needed.call ?_)
  unfold replace_Needed.pt
  refine h.make (fun B2 own base2 => tOpen_m (base2 rt) hs (by omega) hc) fun u0 τ w1 hp h => ?_
  subst hp
  have h : Rel B' w1 [rowD T_int u0 (openS t closed)] := h
  refine h.make (fun B2 own base2 => Open_m (base2 rl) (by omega)) fun u1 τ w2 hp h => ?_
  subst hp
  have h : Rel B' w2 ([rowD T_int u0 (openS t closed)] ++ [rowD T_api_Replacement u1 (l.filter openR)]) := h
  obtain ⟨B2, hext, h, hrow⟩ := h.frz1
  have hr := rowD.read hrow
  have hfl : (l.filter openR).length ≤ l.length := List.length_filter_le _ _
  have hol : (openS t closed).length ≤ t.length := by
    refine Nat.le_trans (Lib.compact_length_le _) ?_
    rw [sortI_length]; simp
  unfold needS at k
  generalize openS t closed = L0 at h hol k
  generalize l.filter openR = F at hr hfl k
  clear hrow
  simp -zeta only [rowR.len hr sl_s_api_Replacement]
  refine LOOP_intro (fun x w' => ∃ (i : Nat) (v : Value), i ≤ F.length ∧ x = (v, .int .i64 i, ()) ∧ Rel B2 w' [rowD T_int v (L0 ++ (F.take i).map (·.version))]) (fun x _ => F.length - (match x.2.1 with | .int _ n => n.toNat | _ => 0))
    ⟨0, _, Nat.zero_le _, rfl, by rw [List.take_zero, List.map_nil, List.append_nil]; exact h⟩ ?_
  clear h
  rintro x w3 ⟨i, vv, hil, rfl, h⟩ next hnext
  have hln : (L0 ++ (F.take i).map (·.version)).length = L0.length + i := by simp; omega
  simp -zeta only [bin_lss, ifB_dec]
  refine ⟨fun hlt => ?_, fun hge => ?_⟩
  · have hi' : i < F.length := by omega
    obtain ⟨g, o, hx, hc⟩ := rowR.idx hr sl_s_api_Replacement hi'
    simp -zeta only [hx, cellsR.ldAg (h.hereB hc) ag_api_Replacement rfl]
    refine h.allocAg (ds := F[i].cs.toArray) z_api_Replacement rfl ag_api_Replacement rfl (fun v hv => Enc.one F[i] v hv) fun b w4 h => ?_
    simp -zeta only [field_addr f_api_Replacement_2, Nat.zero_add, h.ld 1 rfl sc_int (o := 2) rfl]
    refine h.push1 (α := Int) 0 rfl F[i].version sl_s_int (by decide) (by omega) (by omega) fun v2 w5 h => ?_
    rw [bin_add, wrap_id (by omega) (by omega)]
    have h : Rel B2 w5 [rowD T_int v2 ((L0 ++ (F.take i).map (·.version)) ++ [F[i].version])] := h.take 1
    refine hnext _ _ ⟨i + 1, v2, by omega, rfl, ?_⟩ (by simp only; omega)
    rw [List.take_succ_eq_append_getElem hi', List.map_append, ← List.append_assoc]
    exact h
  · clear hnext
    have hie : i = F.length := by omega
    subst hie
    rw [List.take_length] at h hln
    refine h.act 0 rfl (fun B2 own base2 => SortInt_d (by omega)) fun u e' τ w4 hp h => ?_
    obtain ⟨rfl, rfl, rfl⟩ := hp
    have h : Rel B2 w4 [rowD T_int vv (sortI (L0 ++ F.map (·.version)))] := h
    have hsl := sortI_length (L0 ++ F.map (·.version))
    refine h.act 0 rfl (fun B2 own base2 => CompactInt_d (by omega)) fun u e' τ w5 hp h => ?_
    obtain ⟨rfl, rfl⟩ := hp
    exact k _ _ _ rfl (hext.rel h)

def inTo (l : List Rpl) (t : List Seg) (closed : Int) (v : Int) : Bool := (refVers t closed).any (fun x => decide (x = v)) || (l.filter openR).any fun r => decide (r.version = v)
def needTo (l : List Rpl) (t : List Seg) (closed : Int) (n : Nat) : List Int := ((List.range n).map fun k : Nat => (k : Int) + 1).filter (inTo l t closed)
theorem needTo_succ (l : List Rpl) (t : List Seg) (closed : Int) (n : Nat) : needTo l t closed (n + 1) = if inTo l t closed ((n : Int) + 1) = true then needTo l t closed n ++ [(n : Int) + 1] else needTo l t closed n := by
  unfold needTo
  rw [List.range_succ, List.map_append, List.filter_append, List.map_cons, List.map_nil, List.filter_cons]
  by_cases h : inTo l t closed ((n : Int) + 1) = true
  · rw [if_pos h, if_pos h, List.filter_nil]
  · rw [if_neg h, if_neg h, List.filter_nil, List.append_nil]
theorem needTo_le (l : List Rpl) (t : List Seg) (closed : Int) (n : Nat) : (needTo l t closed n).length ≤ n := by
  refine Nat.le_trans (List.length_filter_le _ _) ?_
  simp
theorem sortI_asc (l : List Int) : (sortI l).Pairwise (· ≤ ·) := by
  have := List.pairwise_mergeSort (le := fun x y : Int => decide (x ≤ y)) (fun a b c h1 h2 => by simp at h1 h2 ⊢; omega) (fun a b => by simp; omega) l
  simpa using this
theorem need_eq {l : List Rpl} {t : List Seg} (ht : TInv t) (hv : ∀ r ∈ l, 1 ≤ r.version ∧ r.version ≤ 50) (closed : Int) : needS l t closed = needTo l t closed 50 := by
  refine strict_ext (compact_strict (sortI_asc _)) ?_ fun v => ?_
  · refine List.Pairwise.filter _ ?_
    rw [List.pairwise_map]
    refine List.pairwise_lt_range.imp fun h => ?_
    omega
  · unfold needS needTo inTo
    rw [compact_mem', sortI_mem, List.mem_append, openS_ref ht, List.mem_filter, Bool.or_eq_true, List.any_eq_true, List.any_eq_true, List.mem_map, List.mem_map]
    constructor
    · rintro (h | ⟨r, hr, rfl⟩)
      · have := (refVers_mem.1 h).1
        exact ⟨⟨(v - 1).toNat, List.mem_range.2 (by omega), by omega⟩, .inl ⟨v, h, decide_eq_true rfl⟩⟩
      · have := hv r (List.mem_filter.1 hr).1
        exact ⟨⟨(r.version - 1).toNat, List.mem_range.2 (by omega), by omega⟩, .inr ⟨r, hr, decide_eq_true rfl⟩⟩
    · rintro ⟨_, ⟨x, hx, e⟩ | ⟨r, hr, e⟩⟩
      · rw [← of_decide_eq_true e]; exact .inl hx
      · exact .inr ⟨r, hr, of_decide_eq_true e⟩
theorem any_take {α : Type} (p : α → Bool) {L : List α} {i : Nat} (hi : i < L.length) : (L.take (i + 1)).any p = ((L.take i).any p || p L[i]) := by
  rw [List.take_succ_eq_append_getElem hi, List.any_append, List.any_cons, List.any_nil, Bool.or_false]

theorem fNeeded_m {vl vt : Value} {l : List Rpl} {t : List Seg} (rl : rowR vl l B) (rt : rowR vt t B) (hl : l.length ≤ 100000) (ht : TInv t) (htl : t.length ≤ 100000) (closed : Int) :
    Makes Tryz.prog B (sCall F_errataref47_Needed #[vl, vt, .int .i64 closed]) fun u τ => τ = [rowD T_int u (needTo l t closed 50)] := by
  refine Makes.intro fun B' w K base h k => ?_
  replace rl := base rl
  replace rt := base rt
  refine errataref47_Needed.up (errataref47_Needed.call ?_)
  unfold errataref47_Needed.pt
  refine h.make (fun B2 own base2 => RVersions_m (base2 rt) ht (by omega) closed) fun u0 τ w1 hp h => ?_
  subst hp
  refine h.make (fun B2 own base2 => fOpen_m (base2 rl) (by omega)) fun u1 τ w2 hp h => ?_
  subst hp
  have h : Rel B' w2 (([] ++ [rowD T_int u0 (refVers t closed)]) ++ [rowD T_api_Replacement u1 (l.filter openR)]) := h
  obtain ⟨B2, hext, h, hrow⟩ := h.frz1
  obtain ⟨B3, hext3, h, hrow3⟩ := h.frz1
  have hr := Dat.mono _ hext3.le (rowD.read hrow)
  have hr0 := rowD.read hrow3
  have hfl : (l.filter openR).length ≤ l.length := List.length_filter_le _ _
  have hvl : (refVers t closed).length ≤ 50 := refTo_le t closed 50
  have hin : ∀ v, inTo l t closed v = ((refVers t closed).any (fun x => decide (x = v)) || (l.filter openR).any fun r => decide (r.version = v)) := fun v => rfl
  obtain ⟨L0, hL0⟩ : ∃ L0, L0 = refVers t closed := ⟨_, rfl⟩
  obtain ⟨F, hF⟩ : ∃ F, F = l.filter openR := ⟨_, rfl⟩
  rw [← hL0] at hr0 hvl hin
  rw [← hF] at hr hfl hin
  clear hrow hrow3 hL0 hF
  replace k : ∀ v w', Rel B3 w' [rowD T_int v (needTo l t closed 50)] → K v w' := fun v w' h => k _ _ _ rfl (hext.rel (hext3.rel h))
  refine LOOP_intro (fun x w' => ∃ (n : Nat) (u : Value), n ≤ 50 ∧ x = (u, .int .i64 ((n : Int) + 1), ()) ∧ Rel B3 w' [rowD T_int u (needTo l t closed n)]) (fun x _ => 51 - (match x.2.1 with | .int _ n => n.toNat | _ => 0))
    ⟨0, _, Nat.zero_le _, rfl, h.addNil Int T_int⟩ ?_
  clear h
  rintro x w3 ⟨n, u, hn, rfl, h⟩ next hnext
  have hrl := needTo_le l t closed n
  simp -zeta only [bin_leq, ifB_dec]
  refine ⟨fun hle => ?_, fun hgt => ?_⟩
  · refine LETJ_intro fun J hJ => ?_
    replace hJ : ∀ u' w', Rel B3 w' [rowD T_int u' (needTo l t closed (n + 1))] → J (u', ()) w' := by
      intro u' w' h
      refine hJ _ _ ?_
      rw [bin_add, wrap_id (by omega) (by omega)]
      exact hnext _ _ ⟨n + 1, u', by omega, by rw [show (((n + 1 : Nat) : Int) + 1) = (n : Int) + 1 + 1 by omega], h⟩ (by simp only; omega)
    clear hnext
    refine LOOP_intro (fun x w' => ∃ i : Nat, i ≤ L0.length ∧ x = (.bool ((L0.take i).any fun x => decide (x = (n : Int) + 1)), .int .i64 i, ()) ∧ Rel B3 w' [rowD T_int u (needTo l t closed n)]) (fun x _ => L0.length - (match x.2.1 with | .int _ n => n.toNat | _ => 0))
      ⟨0, Nat.zero_le _, rfl, h⟩ ?_
    clear h
    rintro x w4 ⟨i, hil, rfl, h⟩ next hnext
    simp -zeta only [rowR.len hr0 sl_s_int, bin_lss, ifB_dec]
    refine ⟨fun hlt => ?_, fun hge => ?_⟩
    · have hi' : i < L0.length := by omega
      have e := any_take (fun x => decide (x = (n : Int) + 1)) hi'
      refine LETJ_intro fun J2 hJ2 => ?_
      replace hJ2 : ∀ b w', b = (L0.take (i + 1)).any (fun x => decide (x = (n : Int) + 1)) → Rel B3 w' [rowD T_int u (needTo l t closed n)] → J2 (.bool b, ()) w' := by
        rintro b w' rfl h
        refine hJ2 _ _ ?_
        rw [bin_add, wrap_id (by omega) (by omega)]
        exact hnext _ _ ⟨i + 1, by omega, rfl, h⟩ (by simp only; omega)
      clear hnext
      rw [ifB_bool]
      refine ⟨fun hb => hJ2 _ _ (by rw [e, hb]; rfl) h, fun hb => ?_⟩
      obtain ⟨g, o, hx, hc⟩ := rowR.idx hr0 sl_s_int (P := Tryz.prog) hi'
      have hc : cellsR g o [.int .i64 L0[i]] B3 := hc
      simp -zeta only [hx, cellsR.ld0 (h.hereB hc) sc_int rfl, bin_eql]
      exact hJ2 _ _ (by rw [e, hb, Bool.false_or]) h
    · have hie : i = L0.length := by omega
      subst hie
      clear hnext
      rw [List.take_length]
      refine LOOP_intro (fun x w' => ∃ i : Nat, i ≤ F.length ∧ x = (.bool ((L0.any fun x => decide (x = (n : Int) + 1)) || (F.take i).any fun r => decide (r.version = (n : Int) + 1)), .int .i64 i, ()) ∧ Rel B3 w' [rowD T_int u (needTo l t closed n)]) (fun x _ => F.length - (match x.2.1 with | .int _ n => n.toNat | _ => 0))
        ⟨0, Nat.zero_le _, by rw [List.take_zero, List.any_nil, Bool.or_false]; rfl, h⟩ ?_
      clear h
      rintro x w5 ⟨i, hil, rfl, h⟩ next hnext
      simp -zeta only [rowR.len hr sl_s_api_Replacement, bin_lss, ifB_dec]
      refine ⟨fun hlt => ?_, fun hge => ?_⟩
      · have hi' : i < F.length := by omega
        have e := any_take (fun r : Rpl => decide (r.version = (n : Int) + 1)) hi'
        refine LETJ_intro fun J2 hJ2 => ?_
        replace hJ2 : ∀ b w', b = ((L0.any fun x => decide (x = (n : Int) + 1)) || (F.take (i + 1)).any fun r => decide (r.version = (n : Int) + 1)) → Rel B3 w' [rowD T_int u (needTo l t closed n)] → J2 (.bool b, ()) w' := by
          rintro b w' rfl h
          refine hJ2 _ _ ?_
          rw [bin_add, wrap_id (by omega) (by omega)]
          exact hnext _ _ ⟨i + 1, by omega, rfl, h⟩ (by simp only; omega)
        clear hnext
        rw [ifB_bool]
        refine ⟨fun hb => hJ2 _ _ (by rw [e, ← Bool.or_assoc, hb]; rfl) h, fun hb => ?_⟩
        obtain ⟨g, o, hx, hc⟩ := rowR.idx hr sl_s_api_Replacement (P := Tryz.prog) hi'
        have hc : cellsR g o F[i].cs B3 := hc
        simp -zeta only [hx, field_addr f_api_Replacement_2, cellsR.ld (h.hereB hc) sc_int (j := 2) rfl, bin_eql]
        exact hJ2 _ _ (by rw [e, ← Bool.or_assoc, hb, Bool.false_or]) h
      · have hie : i = F.length := by omega
        subst hie
        rw [List.take_length]
        have e := needTo_succ l t closed n
        rw [hin] at e
        rw [ifB_bool]
        refine ⟨fun hb => ?_, fun hb => hJ _ _ (by rw [e, if_neg (by rw [hb]; decide)]; exact h)⟩
        refine h.push1 (α := Int) 0 rfl ((n : Int) + 1) sl_s_int (by decide) (by omega) (by omega) fun v2 w6 h => ?_
        refine hJ _ _ ?_
        rw [e, if_pos hb]
        exact h
  · have : n = 50 := by omega
    subst this
    exact k _ _ h

/-! ### Budgets -/
abbrev Bud := D_api_Budget
def earnS (b : Bud) : Bud := { b with saved := min (IntKind.i64.wrap (b.saved + b.rate)) b.most }
def spendS (b : Bud) (n : Int) : Bud × Bool := if 0 ≤ n ∧ n ≤ b.saved then ({ b with saved := IntKind.i64.wrap (b.saved - n) }, true) else (b, false)
theorem bud_box {w : World} {σ : List Dat} {B : Base} {b : Nat} {r : Bud} (h : Rel B w (σ ++ [cellD b T_api_Budget r.v.cells])) : Rel B w (σ ++ [cellD b T_api_Budget r.cs.toArray]) := by
  have e1 : (r.v : Value).cells = r.cs.toArray := Enc.cells_val r
  rw [e1] at h
  exact h
theorem Earn_g (b : Bud) : Gives Tryz.prog B (sCall F_replace_Earn #[b.v]) (earnS b).v := by
  refine Gives.intro fun B' w K base h k => ?_
  refine replace_Earn.up (replace_Earn.call ?_)
  unfold replace_Earn.pt
  refine h.box fun b1 w1 h => ?_
  replace h : Rel B' w1 ([] ++ [cellD b1 T_api_Budget b.cs.toArray]) := bud_box (σ := []) h
  refine h.alloc z_api_Budget fun t2 w2 h => ?_
  simp -zeta only [field_addr f_api_Budget_0, field_addr f_api_Budget_1, field_addr f_api_Budget_2, Nat.add_zero, Nat.zero_add, h.ld 0 rfl sc_int (o := 0) rfl, h.ld 0 rfl sc_int (o := 1) rfl, h.ld 0 rfl sc_int (o := 2) rfl, bin_add, blt_min]
  refine h.st 0 rfl sc_int (show 2 < 3 by omega) rfl fun w3 h => ?_
  have h : Rel B' w3 [cellD b1 T_api_Budget (earnS b).cs.toArray, _] := h
  rw [h.ldAg 0 rfl ag_api_Budget rfl]
  refine h.stAg (ds := (earnS b).cs.toArray) 1 rfl ag_api_Budget rfl (by decide) (fun v hv => Enc.one (earnS b) v hv) fun w4 h => ?_
  rw [rv_ag h 1 rfl ag_api_Budget rfl]
  exact k _ _ h.nil
theorem fEarn_g (b : Bud) : Gives Tryz.prog B (sCall F_errataref47_Earn #[b.v]) (earnS b).v := by
  refine Gives.intro fun B' w K base h k => ?_
  refine errataref47_Earn.up (errataref47_Earn.call ?_)
  unfold errataref47_Earn.pt
  refine h.box fun b1 w1 h => ?_
  replace h : Rel B' w1 ([] ++ [cellD b1 T_api_Budget b.cs.toArray]) := bud_box (σ := []) h
  refine h.alloc z_api_Budget fun t2 w2 h => ?_
  simp -zeta only [field_addr f_api_Budget_0, field_addr f_api_Budget_1, field_addr f_api_Budget_2, Nat.add_zero, Nat.zero_add, h.ld 0 rfl sc_int (o := 0) rfl, h.ld 0 rfl sc_int (o := 1) rfl, h.ld 0 rfl sc_int (o := 2) rfl, bin_add, blt_min]
  refine h.st 0 rfl sc_int (show 2 < 3 by omega) rfl fun w3 h => ?_
  have h : Rel B' w3 [cellD b1 T_api_Budget (earnS b).cs.toArray, _] := h
  rw [h.ldAg 0 rfl ag_api_Budget rfl]
  refine h.stAg (ds := (earnS b).cs.toArray) 1 rfl ag_api_Budget rfl (by decide) (fun v hv => Enc.one (earnS b) v hv) fun w4 h => ?_
  rw [rv_ag h 1 rfl ag_api_Budget rfl]
  exact k _ _ h.nil
theorem Spend_g (b : Bud) (n : Int) : Gives Tryz.prog B (sCall F_replace_Spend #[b.v, .int .i64 n]) (.tuple #[(spendS b n).1.v, .bool (spendS b n).2]) := by
  refine Gives.intro fun B' w K base h k => ?_
  refine replace_Spend.up (replace_Spend.call ?_)
  unfold replace_Spend.pt
  refine h.box fun b1 w1 h => ?_
  replace h : Rel B' w1 ([] ++ [cellD b1 T_api_Budget b.cs.toArray]) := bud_box (σ := []) h
  refine h.alloc z_api_Budget fun t2 w2 h => ?_
  have h : Rel B' w2 [cellD b1 T_api_Budget b.cs.toArray, cellD t2 T_api_Budget (⟨0, 0, 0⟩ : Bud).cs.toArray] := h
  have yes : 0 ≤ n ∧ n ≤ b.saved → ∀ w', Rel B' w' [cellD b1 T_api_Budget ({ b with saved := IntKind.i64.wrap (b.saved - n) } : Bud).cs.toArray, cellD t2 T_api_Budget (⟨0, 0, 0⟩ : Bud).cs.toArray] →
      readK Tryz.prog (sLoad T_api_Budget (ptr b1)) w' fun t17 => upK Tryz.prog (sStore T_api_Budget (ptr t2) t17) w' fun tu_2 w6 => readV Tryz.prog (do loadVar T_api_Budget (← asAddr (ptr t2))) w6 fun t4_2 => K (.tuple #[t4_2, (.bool true)]) w6 := fun hh w' h => by
    have e : spendS b n = ({ b with saved := IntKind.i64.wrap (b.saved - n) }, true) := by unfold spendS; rw [if_pos hh]
    rw [e] at k
    rw [h.ldAg 0 rfl ag_api_Budget rfl]
    refine h.stAg (ds := ({ b with saved := IntKind.i64.wrap (b.saved - n) } : Bud).cs.toArray) 1 rfl ag_api_Budget rfl (by decide) (fun v hv => Enc.one ({ b with saved := IntKind.i64.wrap (b.saved - n) } : Bud) v hv) fun w4 h => ?_
    rw [rv_ag h 1 rfl ag_api_Budget rfl]
    exact k _ _ h.nil
  have no : ¬ (0 ≤ n ∧ n ≤ b.saved) → ∀ w', Rel B' w' [cellD b1 T_api_Budget b.cs.toArray, cellD t2 T_api_Budget (⟨0, 0, 0⟩ : Bud).cs.toArray] →
      readK Tryz.prog (sLoad T_api_Budget (ptr b1)) w' fun t17 => upK Tryz.prog (sStore T_api_Budget (ptr t2) t17) w' fun tu_2 w6 => readV Tryz.prog (do loadVar T_api_Budget (← asAddr (ptr t2))) w6 fun t4_2 => K (.tuple #[t4_2, (.bool false)]) w6 := fun hh w' h => by
    have e : spendS b n = (b, false) := by unfold spendS; rw [if_neg hh]
    rw [e] at k
    rw [h.ldAg 0 rfl ag_api_Budget rfl]
    refine h.stAg (ds := b.cs.toArray) 1 rfl ag_api_Budget rfl (by decide) (fun v hv => Enc.one b v hv) fun w4 h => ?_
    rw [rv_ag h 1 rfl ag_api_Budget rfl]
    exact k _ _ h.nil
  clear k
  simp -zeta only [field_addr f_api_Budget_2, Nat.zero_add, h.ld 0 rfl sc_int (o := 2) rfl]
  refine h.ask (fun _ _ _ => within_g n 0 b.saved) fun w3 h => ?_
  rw [un_not, ifB_not, ifB_bool]
  refine ⟨fun c => ?_, fun c => no (fun hh => by rw [within_iff.2 hh] at c; cases c) _ h⟩
  have hyes := within_iff.1 c
  simp -zeta only [field_addr f_api_Budget_2, Nat.zero_add, h.ld 0 rfl sc_int (o := 2) rfl, bin_sub]
  refine h.st 0 rfl sc_int (show 2 < 3 by omega) rfl fun w5 h => ?_
  exact yes hyes _ h
theorem fSpend_g (b : Bud) (n : Int) : Gives Tryz.prog B (sCall F_errataref47_Spend #[b.v, .int .i64 n]) (.tuple #[(spendS b n).1.v, .bool (spendS b n).2]) := by
  refine Gives.intro fun B' w K base h k => ?_
  refine errataref47_Spend.up (errataref47_Spend.call ?_)
  unfold errataref47_Spend.pt
  refine h.box fun b1 w1 h => ?_
  replace h : Rel B' w1 ([] ++ [cellD b1 T_api_Budget b.cs.toArray]) := bud_box (σ := []) h
  refine h.alloc z_api_Budget fun t2 w2 h => ?_
  have h : Rel B' w2 [cellD b1 T_api_Budget b.cs.toArray, cellD t2 T_api_Budget (⟨0, 0, 0⟩ : Bud).cs.toArray] := h
  have yes : 0 ≤ n ∧ n ≤ b.saved → ∀ w', Rel B' w' [cellD b1 T_api_Budget ({ b with saved := IntKind.i64.wrap (b.saved - n) } : Bud).cs.toArray, cellD t2 T_api_Budget (⟨0, 0, 0⟩ : Bud).cs.toArray] →
      readK Tryz.prog (sLoad T_api_Budget (ptr b1)) w' fun t17 => upK Tryz.prog (sStore T_api_Budget (ptr t2) t17) w' fun tu_2 w6 => readV Tryz.prog (do loadVar T_api_Budget (← asAddr (ptr t2))) w6 fun t4_2 => K (.tuple #[t4_2, (.bool true)]) w6 := fun hh w' h => by
    have e : spendS b n = ({ b with saved := IntKind.i64.wrap (b.saved - n) }, true) := by unfold spendS; rw [if_pos hh]
    rw [e] at k
    rw [h.ldAg 0 rfl ag_api_Budget rfl]
    refine h.stAg (ds := ({ b with saved := IntKind.i64.wrap (b.saved - n) } : Bud).cs.toArray) 1 rfl ag_api_Budget rfl (by decide) (fun v hv => Enc.one ({ b with saved := IntKind.i64.wrap (b.saved - n) } : Bud) v hv) fun w4 h => ?_
    rw [rv_ag h 1 rfl ag_api_Budget rfl]
    exact k _ _ h.nil
  have no : ¬ (0 ≤ n ∧ n ≤ b.saved) → ∀ w', Rel B' w' [cellD b1 T_api_Budget b.cs.toArray, cellD t2 T_api_Budget (⟨0, 0, 0⟩ : Bud).cs.toArray] →
      readK Tryz.prog (sLoad T_api_Budget (ptr b1)) w' fun t17 => upK Tryz.prog (sStore T_api_Budget (ptr t2) t17) w' fun tu_2 w6 => readV Tryz.prog (do loadVar T_api_Budget (← asAddr (ptr t2))) w6 fun t4_2 => K (.tuple #[t4_2, (.bool false)]) w6 := fun hh w' h => by
    have e : spendS b n = (b, false) := by unfold spendS; rw [if_neg hh]
    rw [e] at k
    rw [h.ldAg 0 rfl ag_api_Budget rfl]
    refine h.stAg (ds := b.cs.toArray) 1 rfl ag_api_Budget rfl (by decide) (fun v hv => Enc.one b v hv) fun w4 h => ?_
    rw [rv_ag h 1 rfl ag_api_Budget rfl]
    exact k _ _ h.nil
  clear k
  simp -zeta only [field_addr f_api_Budget_2, Nat.zero_add, h.ld 0 rfl sc_int (o := 2) rfl, bin_lss, bin_gtr, bin_sub, ifB_dec]
  refine ⟨fun c => no (fun hh => by omega) _ h, fun c => ⟨fun (c2 : b.saved < n) => no (fun hh => by omega) _ h, fun (c2 : ¬ b.saved < n) => ?_⟩⟩
  have hyes : 0 ≤ n ∧ n ≤ b.saved := ⟨by omega, by omega⟩
  refine h.st 0 rfl sc_int (show 2 < 3 by omega) rfl fun w5 h => ?_
  exact yes hyes _ h

/-! ### The laws' model -/
theorem model_r {w : World} {σ : List Dat} {K : Value → World → Prop} {b : Nat} {vl vt : Value} {l : List Rpl} {t : List Seg} (h : Rel B w σ) (i : Nat) (hi : σ[i]? = some (stateD b vl vt)) (rl : rowR vl l B) (rt : rowR vt t B)
    (hl : l.length ≤ 1000) (hs : Sorted t) (htl : t.length ≤ 1000) (hc : ∀ r ∈ l, 0 ≤ r.cut ∧ r.cut ≤ 1000) (op : OpR)
    (k : ∀ B' vl' vt' w', B.ext B' → rowR vl' (stepS l t op).2.1 B' → rowR vt' (stepS l t op).2.2 B' → Rel B' w' (σ.set i (stateD b vl' vt')) → K (.tuple #[.int .i64 (stepS l t op).1.1, .int .i64 (stepS l t op).1.2]) w') :
    upK Tryz.prog (sCall F_erratalaw47_state_model #[ptr b, op.v]) w K := by
  have hlt : i < σ.length := (List.getElem?_eq_some_iff.1 hi).1
  refine erratalaw47_state_model.up (erratalaw47_state_model.call ?_)
  unfold erratalaw47_state_model.pt
  refine h.box fun bo w1 h => ?_
  have e1 : (op.v : Value).cells = op.cs.toArray := Enc.cells_val op
  have h : Rel B w1 (σ ++ [cellD bo T_erratalaw47_Op op.v.cells]) := h
  rw [e1] at h
  have hi' : (σ ++ [cellD bo T_erratalaw47_Op op.cs.toArray])[i]? = some (cellD b T_erratalaw47_state #[vl, vt]) := by rw [List.getElem?_append_left hlt]; exact hi
  have hgl : (σ ++ [cellD bo T_erratalaw47_Op op.cs.toArray])[σ.length]? = some (cellD bo T_erratalaw47_Op op.cs.toArray) := get_last
  simp -zeta only [nil_ptr, field_addr f_erratalaw47_state_0, field_addr f_erratalaw47_state_1, Nat.zero_add, h.ld i hi' sc_s_api_Replacement (o := 0) rfl, h.ld i hi' sc_s_api_Seg (o := 1) rfl]
  refine LETJ_intro fun J1 hJ1 => ?_
  -- an operation that changes nothing, and one that gives new lists
  have same : ∀ n e w', e ≠ 0 → stepS l t op = ((n, e), l, t) → Rel B w' (σ ++ [cellD bo T_erratalaw47_Op op.cs.toArray]) → ∀ vl' vt', J1 (vl', .int .i64 n, .int .i64 e, vt', ()) w' := by
    intro n e w' hne hS h vl' vt'
    refine hJ1 _ _ ?_
    refine LETJ_intro fun J2 hJ2 => ?_
    simp -zeta only [bin_eql, ifB_dec]
    refine ⟨fun he => absurd he hne, fun _ => hJ2 _ _ ?_⟩
    rw [hS] at k
    refine k B vl vt w' (Base.ext.refl B) rl rt ?_
    rw [set_same hi]
    exact h.drop
  have new : ∀ n w' (B' : Base) vl' vt' l' t', B.ext B' → stepS l t op = ((n, 0), l', t') → rowR vl' l' B' → rowR vt' t' B' → Rel B' w' (σ ++ [cellD bo T_erratalaw47_Op op.cs.toArray]) → J1 (vl', .int .i64 n, .int .i64 0, vt', ()) w' := by
    intro n w' B' vl' vt' l' t' hext hS rl' rt' h
    refine hJ1 _ _ ?_
    refine LETJ_intro fun J2 hJ2 => ?_
    simp -zeta only [bin_eql, decide_true, ifB_true, nil_ptr, field_addr f_erratalaw47_state_0, field_addr f_erratalaw47_state_1, Nat.zero_add]
    refine h.st i hi' sc_s_api_Replacement (show 0 < 2 by omega) (rowR.oneCell rl') fun w2 h => ?_
    refine h.st (E := T_erratalaw47_state) (cs := #[vl', vt]) i (by rw [List.getElem?_set_self (by simp; omega)]; rfl) sc_s_api_Seg (show 1 < 2 by omega) (rowR.oneCell rt') fun w3 h => ?_
    refine hJ2 _ _ ?_
    rw [hS] at k
    refine k B' vl' vt' w3 hext rl' rt' ?_
    rw [List.set_set, List.set_append_left _ _ hlt] at h
    exact h.drop
  clear hJ1 k
  have hd : 0 ≤ op.do_ % 8 ∧ op.do_ % 8 < 8 := by omega
  simp -zeta only [field_addr f_erratalaw47_Op_0, Nat.add_zero, h.ld σ.length hgl sc_int (o := 0) rfl, bin_and, and7]
  refine LETJ_intro fun J3 hJ3 => ?_
  replace hJ3 : ∀ bb : Bool, (bb = true ↔ op.do_ % 8 = 0 ∨ op.do_ % 8 = 1) → J3 (.bool bb, ()) w1 := by
    intro bb hbb
    refine hJ3 _ _ ?_
    clear hJ3
    have h := h.tick
    show ifB (.bool bb) _ _
    rw [ifB_bool]
    refine ⟨fun e => ?_, fun e => ?_⟩
    · have hdo := hbb.1 e
      simp -zeta only [nil_ptr, field_addr f_erratalaw47_state_0, field_addr f_erratalaw47_Op_2, field_addr f_erratalaw47_Op_3, field_addr f_erratalaw47_Op_4, field_addr f_erratalaw47_Op_5, field_addr f_erratalaw47_Op_6, Nat.zero_add,
        h.ld i hi' sc_s_api_Replacement (o := 0) rfl, h.ld σ.length hgl sc_int (o := 2) rfl, h.ld σ.length hgl sc_int (o := 3) rfl, h.ld σ.length hgl sc_int (o := 4) rfl, h.ld σ.length hgl sc_int (o := 5) rfl, h.ld σ.length hgl sc_bool (o := 6) rfl]
      refine h.make (fun B2 own base2 => fask_m (base2 rl) (by omega) op.from_ op.version op.back op.horizon op.raise) fun u τ w2 hp h => ?_
      obtain ⟨v', rfl, rfl⟩ := hp
      simp -zeta only [ext_3_0, ext_3_1, ext_3_2]
      have hS : stepS l t op = if (askS l op.from_ op.version op.back op.horizon op.raise).2.2 = 0 then ((askS l op.from_ op.version op.back op.horizon op.raise).2, (askS l op.from_ op.version op.back op.horizon op.raise).1, t) else ((askS l op.from_ op.version op.back op.horizon op.raise).2, l, t) := by
        unfold stepS; rw [if_pos hdo]
      generalize askS l op.from_ op.version op.back op.horizon op.raise = z at hS h ⊢
      obtain ⟨l', n, e⟩ := z
      by_cases he : e = 0
      · subst he
        obtain ⟨B', hext, h, hrow⟩ := h.frz1
        exact new n w2 B' v' vt l' t hext (by rw [hS]; rfl) (rowD.read hrow) (Dat.mono _ hext.le rt) h
      · exact same n e w2 he (by rw [hS, if_neg he]) h.drop v' vt
    · have hdo : ¬ (op.do_ % 8 = 0 ∨ op.do_ % 8 = 1) := fun hh => by rw [hbb.2 hh] at e; cases e
      simp -zeta only [bin_eql, ifB_dec]
      refine ⟨fun h2 => ?_, fun h2 => ⟨fun h3 => ?_, fun h3 => ?_⟩⟩
      · simp -zeta only [nil_ptr, field_addr f_erratalaw47_state_0, field_addr f_erratalaw47_Op_1, Nat.zero_add, h.ld i hi' sc_s_api_Replacement (o := 0) rfl, h.ld σ.length hgl sc_int (o := 1) rfl]
        refine h.make (fun B2 own base2 => fabandon_m (base2 rl) (by omega) op.no) fun u τ w2 hp h => ?_
        obtain ⟨v', rfl, rfl⟩ := hp
        simp -zeta only [ext_2_0, ext_2_1]
        have hS : stepS l t op = if (setS l op.no 4).2 = 0 then ((0, (setS l op.no 4).2), (setS l op.no 4).1, t) else ((0, (setS l op.no 4).2), l, t) := by unfold stepS; rw [if_neg hdo, if_pos h2]
        generalize setS l op.no 4 = z at hS h ⊢
        obtain ⟨l', e⟩ := z
        by_cases he : e = 0
        · subst he
          obtain ⟨B', hext, h, hrow⟩ := h.frz1
          exact new 0 w2 B' v' vt l' t hext (by rw [hS]; rfl) (rowD.read hrow) (Dat.mono _ hext.le rt) h
        · exact same 0 e w2 he (by rw [hS, if_neg he]) h.drop v' vt
      · simp -zeta only [nil_ptr, field_addr f_erratalaw47_state_0, field_addr f_erratalaw47_Op_1, field_addr f_erratalaw47_Op_6, Nat.zero_add, h.ld i hi' sc_s_api_Replacement (o := 0) rfl, h.ld σ.length hgl sc_int (o := 1) rfl, h.ld σ.length hgl sc_bool (o := 6) rfl]
        refine h.make (fun B2 own base2 => fcaught_m (base2 rl) (by omega) op.no op.raise) fun u τ w2 hp h => ?_
        obtain ⟨v', rfl, rfl⟩ := hp
        simp -zeta only [ext_2_0, ext_2_1]
        have hS : stepS l t op = if (setS l op.no (if op.raise = true then 1 else 0)).2 = 0 then ((0, (setS l op.no (if op.raise = true then 1 else 0)).2), (setS l op.no (if op.raise = true then 1 else 0)).1, t) else ((0, (setS l op.no (if op.raise = true then 1 else 0)).2), l, t) := by unfold stepS; rw [if_neg hdo, if_neg h2, if_pos h3]
        generalize setS l op.no (if op.raise = true then 1 else 0) = z at hS h ⊢
        obtain ⟨l', e⟩ := z
        by_cases he : e = 0
        · subst he
          obtain ⟨B', hext, h, hrow⟩ := h.frz1
          exact new 0 w2 B' v' vt l' t hext (by rw [hS]; rfl) (rowD.read hrow) (Dat.mono _ hext.le rt) h
        · exact same 0 e w2 he (by rw [hS, if_neg he]) h.drop v' vt
      · simp -zeta only [nil_ptr, field_addr f_erratalaw47_state_0, field_addr f_erratalaw47_state_1, field_addr f_erratalaw47_Op_1, Nat.zero_add, h.ld i hi' sc_s_api_Replacement (o := 0) rfl, h.ld i hi' sc_s_api_Seg (o := 1) rfl, h.ld σ.length hgl sc_int (o := 1) rfl]
        refine h.make (fun B2 own base2 => fcut_m (base2 rl) (base2 rt) (by omega) hs (by omega) hc op.no) fun u τ w2 hp h => ?_
        obtain ⟨v1, v2, rfl, rfl⟩ := hp
        simp -zeta only [ext_3_0, ext_3_1, ext_3_2]
        have hS : stepS l t op = if (cutS l t op.no).2.2 = 0 then ((0, (cutS l t op.no).2.2), (cutS l t op.no).1, (cutS l t op.no).2.1) else ((0, (cutS l t op.no).2.2), l, t) := by unfold stepS; rw [if_neg hdo, if_neg h2, if_neg h3]
        generalize cutS l t op.no = z at hS h ⊢
        obtain ⟨l', t', e⟩ := z
        by_cases he : e = 0
        · subst he
          have h : Rel B w2 ((σ ++ [cellD bo T_erratalaw47_Op op.cs.toArray]) ++ [rowD T_api_Replacement v1 l'] ++ [rowD T_api_Seg v2 t']) := by simpa using h
          obtain ⟨B', hext, h, hrow2⟩ := h.frz1
          obtain ⟨B2, hext2, h, hrow1⟩ := h.frz1
          exact new 0 w2 B2 v1 v2 l' t' (hext.trans hext2) (by rw [hS]; rfl) (rowD.read hrow1) (Dat.mono _ hext2.le (rowD.read hrow2)) h
        · exact same 0 e w2 he (by rw [hS, if_neg he]) h.drop v1 v2
  simp -zeta only [bin_eql, ifB_dec]
  exact ⟨fun e0 => hJ3 _ ⟨fun _ => .inl e0, fun _ => by simp [e0]⟩, fun e0 => hJ3 _ (by simp [e0])⟩
end
end Go.Proofs.YtdecfgbdppfmcaaGreatDoor
