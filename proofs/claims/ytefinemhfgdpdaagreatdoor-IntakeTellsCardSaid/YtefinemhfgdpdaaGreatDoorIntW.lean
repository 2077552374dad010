/-
  The reference of chapter 11: add, raise, Bytes. No condition.
-/
import Derived.Test.YtefinemhfgdpdaaGreatDoorIntU
namespace Go.Proofs.YtefinemhfgdpdaaGreatDoor
open Go.RowKit
set_option maxRecDepth 100000

theorem LOk.len {s : IS} {l : List CoD} (h : LOk s.cnt l) (hk : KeysOk s) (hc : RightC s.cfg) : l.length ≤ 10001 := by
  have := keysS_len (s := s) hc
  rw [← h.keys hk, List.length_map] at this
  exact this
section
variable {B : Base} {w : World} {p : Nat} {s : IS} {σ : List Dat} {kv pv lv : SV} {l : List CoD}
set_option maxHeartbeats 1000000 in
theorem fAdd_d {cnt : Int → Int} (hr : rowR lv.1 l B) (hk : LOk cnt l) (h0 : ∀ t, 0 ≤ cnt t ∧ cnt t ≤ 1000) (hll : l.length ≤ 100000) (t : Int) :
    Does Tryz.prog B (cellD p T_errataref11_Intake (rcs s kv pv lv)) (sCall F_errataref11_Intake_add #[ptrI p, .int .i64 t]) fun x e' τ => x = .tuple #[] ∧ ∃ (lv' : SV) (l' : List CoD), LOk (fun x => if x = t then cnt t + 1 else cnt x) l' ∧ l'.length ≤ l.length + 1 ∧ e' = cellD p T_errataref11_Intake (rcs s kv pv lv') ∧ τ = [rowD T_errataref11_Count lv'.1 l'] := by
  refine Does.intro fun B' w K base h k => ?_
  replace hr := base hr
  refine errataref11_Intake_add.up (errataref11_Intake_add.call ?_)
  unfold errataref11_Intake_add.pt
  refine LETJ_intro fun J hJ => ?_
  replace hJ : ∀ (i : Nat) w', i ≤ l.length → (∀ j (hj : j < l.length), j < i → l[j].time < t) → (∀ hi : i < l.length, t ≤ l[i].time) → Rel B' w' [cellD p T_errataref11_Intake (rcs s kv pv lv)] → J (.int .i64 i, ()) w' := by
    intro i w' hi h1 h2 h
    refine hJ _ _ ?_
    clear hJ
    have hfin := hk.add (fun t => (h0 t).1) h1 h2
    have hsp := fun hc => hk.split h1 h2 (t := t) hc
    have ht := h0 t
    refine h.ask (fun B2 own base2 => fCount_c (own (i := 0) rfl) (base2 hr) hk (by omega) t) fun w1 h => ?_
    rw [bin_add, wrap_id (by omega) (by omega)]
    refine h.build0 (α := CoD) sl_s_errataref11_Count fun v0 w2 h _ => ?_
    have h : Rel B' w2 [cellD p T_errataref11_Intake (rcs s kv pv lv), rowD T_errataref11_Count v0 ([] : List CoD)] := h
    simp -zeta only [nil_ptr, field_addr f_errataref11_Intake_7, Nat.zero_add, h.ld 0 rfl sc_s_errataref11_Count (o := 12) (v := lv.1) rfl]
    rw [rowR.cutE hr sl_s_errataref11_Count (lo := i) (hi := l.length) Bnd.some Bnd.none hi (Nat.le_refl _)]
    have hcut := rowR.cutR hr (lo := i) (hi := l.length) hi (Nat.le_refl _)
    rw [List.take_length] at hcut
    have hdl : (l.drop i).length = l.length - i := List.length_drop ..
    refine h.append 1 rfl sl_s_errataref11_Count (Rd.base hcut) (by simp only [List.length_nil]; omega) (by simp only [List.length_nil]; omega) fun v1 w3 h => ?_
    have h : Rel B' w3 ([cellD p T_errataref11_Intake (rcs s kv pv lv)] ++ [rowD T_errataref11_Count v1 (l.drop i)]) := h
    obtain ⟨B2, e2, h, hv1⟩ := h.frz1
    have hv1 := rowD.read hv1
    replace hr := (rowR lv.1 l).mono e2.le hr
    refine LETJ_intro fun J2 hJ2 => ?_
    replace hJ2 : ∀ (u' : Value), rowR u' (l.drop (if 1 < 1 + cnt t then i + 1 else i)) B2 → J2 (u', ()) w3 := by
      intro u' hu
      refine hJ2 _ _ ?_
      clear hJ2
      refine h.build0 (α := CoD) sl_s_errataref11_Count fun v2 w4 h _ => ?_
      have h : Rel B2 w4 [cellD p T_errataref11_Intake (rcs s kv pv lv), rowD T_errataref11_Count v2 ([] : List CoD)] := h
      simp -zeta only [h.ld 0 rfl sc_s_errataref11_Count (o := 12) (v := lv.1) rfl]
      rw [rowR.cutE hr sl_s_errataref11_Count (lo := 0) (hi := i) Bnd.none Bnd.some (Nat.zero_le _) hi]
      have hcut2 := rowR.cutR hr (lo := 0) (hi := i) (Nat.zero_le _) hi
      rw [List.drop_zero] at hcut2
      have htl : (l.take i).length = i := by rw [List.length_take]; omega
      refine h.append 1 rfl sl_s_errataref11_Count (Rd.base hcut2) (by simp only [List.length_nil]; omega) (by simp only [List.length_nil]; omega) fun v3 w5 h => ?_
      rw [bd_errataref11_Count_0_1]
      rw [List.nil_append] at h
      refine h.push1 (α := CoD) 1 rfl ⟨t, 1 + cnt t⟩ sl_s_errataref11_Count (by decide) (by omega) (by omega) fun v4 w6 h => ?_
      have hdl2 : (l.drop (if 1 < 1 + cnt t then i + 1 else i)).length ≤ l.length := by rw [List.length_drop]; omega
      have hll2 : (l.take i ++ [(⟨t, 1 + cnt t⟩ : CoD)]).length = i + 1 := by rw [List.length_append, htl, List.length_singleton]
      refine h.append 1 rfl sl_s_errataref11_Count (Rd.base hu) (by omega) (by omega) fun v5 w7 h => ?_
      have h1 : v5.oneCell' = true := h.oneCell (i := 1) rfl
      refine h.st 0 rfl sc_s_errataref11_Count (show 12 < 13 by omega) h1 fun w8 h => ?_
      rw [List.append_assoc, List.singleton_append] at h
      have h : Rel B2 w8 (cellD p T_errataref11_Intake (rcs s kv pv ⟨v5, h1⟩) :: [rowD T_errataref11_Count v5 (l.take i ++ (⟨t, 1 + cnt t⟩ : CoD) :: l.drop (if 1 < 1 + cnt t then i + 1 else i))]) := h
      refine k _ _ _ _ ⟨rfl, ⟨v5, h1⟩, _, hfin, ?_, rfl, rfl⟩ (e2.rel h)
      rw [List.length_append, htl, List.length_cons, List.length_drop]
      split
      · obtain ⟨hi2, _⟩ := hsp (by omega)
        omega
      · omega
    rw [bin_gtr, ifB_dec]
    refine ⟨fun c => ?_, fun c => ?_⟩
    · obtain ⟨hi2, _⟩ := hsp (by omega)
      rw [rowR.cutE hv1 sl_s_errataref11_Count (lo := 1) (hi := (l.drop i).length) (lov := some (.int .i64 1)) (.inr rfl) Bnd.none (by omega) (Nat.le_refl _)]
      refine hJ2 _ ?_
      have := rowR.cutR hv1 (lo := 1) (hi := (l.drop i).length) (by omega) (Nat.le_refl _)
      rw [List.take_length, List.drop_drop] at this
      rw [if_pos c]
      exact this
    · refine hJ2 _ ?_
      rw [if_neg c]
      exact hv1
  refine LOOP_intro (fun x w' => ∃ i : Nat, i ≤ l.length ∧ x = (.int .i64 i, ()) ∧ (∀ j (hj : j < l.length), j < i → l[j].time < t) ∧ Rel B' w' [cellD p T_errataref11_Intake (rcs s kv pv lv)]) (fun x _ => l.length - (match x.1 with | .int _ n => n.toNat | _ => 0))
    ⟨0, Nat.zero_le _, rfl, fun j _ hj => absurd hj (Nat.not_lt_zero j), h⟩ ?_
  clear h
  rintro x w1 ⟨i, hi, rfl, hin, h⟩ next hnext
  simp -zeta only [nil_ptr, field_addr f_errataref11_Intake_7, Nat.zero_add, h.ld 0 rfl sc_s_errataref11_Count (o := 12) (v := lv.1) rfl, rowR.len hr sl_s_errataref11_Count, bin_lss, ifB_dec]
  refine ⟨fun hlt => ?_, fun hge => hJ i _ hi hin (fun hh => by omega) h⟩
  have hil : i < l.length := by omega
  obtain ⟨g, o, hx, hcl⟩ := rowR.idx hr sl_s_errataref11_Count (P := Tryz.prog) hil
  have hcl : cellsR g o l[i].cs B' := hcl
  simp -zeta only [hx, field_addr f_errataref11_Count_0, Nat.add_zero, cellsR.ld0 (h.hereB hcl) sc_int (v := .int .i64 l[i].time) rfl, bin_lss, ifB_dec]
  refine ⟨fun c => ?_, fun c => hJ i _ hi hin (fun hh => by omega) h⟩
  rw [bin_add, wrap_id (by omega) (by omega)]
  refine hnext _ _ ⟨i + 1, hil, rfl, fun j hj hji => ?_, h⟩ (by simp only; omega)
  by_cases e : j = i
  · subst e; exact c
  · exact hin j hj (by omega)
set_option maxHeartbeats 1000000 in
theorem fRaise_d (hr : rowR lv.1 l B) (hg : RightC s.cfg) (ht0 : -1 ≤ s.top ∧ s.top ≤ 1099511627776) (hll : l.length ≤ 100001) {t : Int} (ht : timeOk t) :
    Does Tryz.prog B (cellD p T_errataref11_Intake (rcs s kv pv lv)) (sCall F_errataref11_Intake_raise #[ptrI p, .int .i64 t]) fun x e' τ => x = .tuple #[] ∧ ∃ lv' : SV, e' = cellD p T_errataref11_Intake (rcs (raiseS s t) kv pv lv') ∧ τ = [rowD T_errataref11_Count lv'.1 (l.filter fun x => decide (closedS { s with top := max s.top t } < x.time))] := by
  obtain ⟨ht1, ht2⟩ := ht
  refine Does.intro fun B' w K base h k => ?_
  replace hr := base hr
  refine errataref11_Intake_raise.up (errataref11_Intake_raise.call ?_)
  unfold errataref11_Intake_raise.pt
  simp -zeta only [nil_ptr, field_addr f_errataref11_Intake_3, Nat.zero_add, h.ld 0 rfl sc_int (o := 8) (v := .int .i64 s.top) rfl, blt_max]
  refine h.st 0 rfl sc_int (show 8 < 13 by omega) rfl fun w1 h => ?_
  have h : Rel B' w1 [cellD p T_errataref11_Intake (rcs { s with top := max s.top t } kv pv lv)] := h
  have htop : -1 ≤ ({ s with top := max s.top t } : IS).top ∧ ({ s with top := max s.top t } : IS).top ≤ 1099511627776 := by show -1 ≤ max s.top t ∧ max s.top t ≤ 1099511627776; omega
  have hk : ∀ lv' : SV, rcs { s with top := max s.top t } kv pv lv' = rcs (raiseS s t) kv pv lv' := fun _ => rfl
  replace k : ∀ (u : Value) (h1 : u.oneCell' = true) w', Rel B' w' [cellD p T_errataref11_Intake (rcs { s with top := max s.top t } kv pv ⟨u, h1⟩), rowD T_errataref11_Count u (l.filter fun x => decide (closedS { s with top := max s.top t } < x.time))] → K (.tuple #[]) w' := fun u h1 w' h => k _ _ _ _ ⟨rfl, ⟨u, h1⟩, rfl, rfl⟩ h
  have hg : RightC ({ s with top := max s.top t } : IS).cfg := hg
  generalize ({ s with top := max s.top t } : IS) = s2 at *
  have h := h.addNil CoD T_errataref11_Count
  refine LOOP_intro (fun x w' => ∃ (i : Nat) (u : Value), i ≤ l.length ∧ x = (u, .int .i64 i, ()) ∧ Rel B' w' [cellD p T_errataref11_Intake (rcs s2 kv pv lv), rowD T_errataref11_Count u ((l.take i).filter fun x => decide (closedS s2 < x.time))]) (fun x _ => l.length - (match x.2.1 with | .int _ n => n.toNat | _ => 0))
    ⟨0, _, Nat.zero_le _, rfl, h⟩ ?_
  clear h
  rintro x w2 ⟨i, u, hi, rfl, h⟩ next hnext
  simp -zeta only [nil_ptr, field_addr f_errataref11_Intake_7, Nat.zero_add, h.ld 0 rfl sc_s_errataref11_Count (o := 12) (v := lv.1) rfl, rowR.len hr sl_s_errataref11_Count, bin_lss, ifB_dec]
  refine ⟨fun hlt => ?_, fun hge => ?_⟩
  · have hil : i < l.length := by omega
    have htk : (l.take (i + 1)).filter (fun x => decide (closedS s2 < x.time)) = (l.take i).filter (fun x => decide (closedS s2 < x.time)) ++ (if closedS s2 < l[i].time then [l[i]] else []) := by
      rw [List.take_succ_eq_append_getElem hil, List.filter_append]
      congr 1
      by_cases c : closedS s2 < l[i].time
      · rw [if_pos c, List.filter_cons_of_pos (by simpa using c)]; rfl
      · rw [if_neg c, List.filter_cons_of_neg (by simpa using c)]; rfl
    refine LETJ_intro fun J hJ => ?_
    replace hJ : ∀ u' w', Rel B' w' [cellD p T_errataref11_Intake (rcs s2 kv pv lv), rowD T_errataref11_Count u' ((l.take (i + 1)).filter fun x => decide (closedS s2 < x.time))] → J (u', ()) w' := by
      intro u' w' h
      refine hJ _ _ ?_
      rw [bin_add, wrap_id (by omega) (by omega)]
      exact hnext _ _ ⟨i + 1, u', hil, rfl, h⟩ (by simp only; omega)
    clear hnext
    rw [htk] at hJ
    have hfl : ((l.take i).filter fun x => decide (closedS s2 < x.time)).length ≤ i := Nat.le_trans (List.length_filter_le _ _) (by rw [List.length_take]; omega)
    have h := h.tick
    obtain ⟨g, o, hx, hcl⟩ := rowR.idx hr sl_s_errataref11_Count (P := Tryz.prog) hil
    have hcl : cellsR g o l[i].cs B' := hcl
    simp -zeta only [h.ld 0 rfl sc_s_errataref11_Count (o := 12) (v := lv.1) rfl, hx, field_addr f_errataref11_Count_0, Nat.add_zero, cellsR.ld0 (h.hereB hcl) sc_int (v := .int .i64 l[i].time) rfl]
    refine h.ask (fun B2 own base2 => fClosed_c (own (i := 0) rfl) hg htop) fun w4 h => ?_
    refine ⟨(by have := cellsR.is (h.hereB hcl) (P := Tryz.prog) sc_int (j := 0) (v := .int .i64 l[i].time) rfl; rw [Nat.add_zero] at this; exact this), h.is 0 rfl sc_s_errataref11_Count (o := 12) rfl, ?_⟩
    rw [bin_gtr, ifB_dec]
    refine ⟨fun c => ?_, fun c => ?_⟩
    · rw [if_pos c] at hJ
      simp -zeta only [h.ld 0 rfl sc_s_errataref11_Count (o := 12) (v := lv.1) rfl, hx, cellsR.ldAg (h.hereB hcl) ag_errataref11_Count rfl]
      refine h.push1 (α := CoD) 1 rfl l[i] sl_s_errataref11_Count (by decide) (by omega) (by omega) fun u3 w7 h => ?_
      exact hJ _ _ h
    · rw [if_neg c, List.append_nil] at hJ
      exact hJ _ _ h
  · have hie : i = l.length := by omega
    subst hie
    rw [List.take_length] at h
    have h1 : u.oneCell' = true := h.oneCell (i := 1) rfl
    refine h.st 0 rfl sc_s_errataref11_Count (show 12 < 13 by omega) h1 fun w8 h => ?_
    exact k u h1 _ h
set_option maxHeartbeats 1000000 in
theorem fBytes11_c (hk : LOk s.cnt l) (hc : cellD p T_errataref11_Intake (rcs s kv pv lv) B) (hlr : rowR lv.1 l B) (htab : tabD pv.1 s.prods B) (hf : FitIS s) : Gives Tryz.prog B (sCall F_errataref11_Intake_Bytes #[ptrI p]) (.string (ofL (encIS s))) := by
  refine Gives.intro fun B' w K base h k => ?_
  replace hc := base hc
  replace hlr := base hlr
  obtain ⟨L, hL, rt, qt⟩ := base htab
  refine errataref11_Intake_Bytes.up (errataref11_Intake_Bytes.call ?_)
  unfold errataref11_Intake_Bytes.pt
  have hR : RightT (prs L) := by rw [hL]; exact hf.prods
  have hll := hk.len hf.keys hf.cfg
  obtain ⟨he1, he2⟩ := hk.enc hf.keys
  have htop := hf.top
  have ti : inI s.top := ⟨by omega, by omega⟩
  have ni : inI (l.length : Int) := ⟨by omega, by omega⟩
  have l1 := encI_len hf.now
  have l2 := encI_len ti
  have l3 := encI_len hf.next
  have l4 := encI_len hf.refused
  have l5 := encTab_len hf.prods
  have l6 := encT_len (encTab s.prods) (by omega)
  have l7 := encI_len ni
  have lall := flat_len encCo l 42 fun x hx => by
    have hs := hk.sub x hx
    have hx' : x.time ∈ keysS s := by rw [← hk.keys hf.keys]; exact List.mem_map_of_mem hx
    have h1 := encI_len (hf.key hx').1
    have h2 := encI_len (hf.key hx').2
    unfold encCo
    rw [List.length_append, hs.1]
    omega
  have en : encN (l.length : Int) = encI l.length := by unfold encN; rw [if_neg (by omega)]
  have h := h.tick
  have hcl := fun {w : World} {τ : List Dat} (h : Rel B' w τ) => h.hereB hc
  have lenIs : ∀ {w : World} {τ : List Dat}, Rel B' w τ → Is Tryz.prog (sBlt .len #[T_s_errataref11_Count] T_int #[false] #[lv.1]) (.int .i64 l.length) w := fun h => is_of fun {K} => by rw [rowR.len hlr sl_s_errataref11_Count]
  simp -zeta only [nil_ptr, field_addr f_errataref11_Intake_2, field_addr f_errataref11_Intake_3, field_addr f_errataref11_Intake_4, field_addr f_errataref11_Intake_5, field_addr f_errataref11_Intake_6, field_addr f_errataref11_Intake_7, Nat.zero_add, cellD.ld (hcl h) sc_int (o := 7) (v := .int .i64 s.now) rfl, cellD.ld (hcl h) sc_int (o := 8) (v := .int .i64 s.top) rfl, cellD.ld (hcl h) sc_int (o := 9) (v := .int .i64 s.next) rfl, cellD.ld (hcl h) sc_int (o := 10) (v := .int .i64 s.refused) rfl, cellD.ld (hcl h) sc_s_api_Producer (o := 11) (v := pv.1) rfl, cellD.ld (hcl h) sc_s_errataref11_Count (o := 12) (v := lv.1) rfl, rowR.len hlr sl_s_errataref11_Count]
  have i8 := fun {w : World} {τ : List Dat} (h : Rel B' w τ) => cellD.is (P := Tryz.prog) (hcl h) sc_int (o := 8) (v := .int .i64 s.top) rfl
  have i9 := fun {w : World} {τ : List Dat} (h : Rel B' w τ) => cellD.is (P := Tryz.prog) (hcl h) sc_int (o := 9) (v := .int .i64 s.next) rfl
  have i10 := fun {w : World} {τ : List Dat} (h : Rel B' w τ) => cellD.is (P := Tryz.prog) (hcl h) sc_int (o := 10) (v := .int .i64 s.refused) rfl
  have i11 := fun {w : World} {τ : List Dat} (h : Rel B' w τ) => cellD.is (P := Tryz.prog) (hcl h) sc_s_api_Producer (o := 11) (v := pv.1) rfl
  have i12 := fun {w : World} {τ : List Dat} (h : Rel B' w τ) => cellD.is (P := Tryz.prog) (hcl h) sc_s_errataref11_Count (o := 12) (v := lv.1) rfl
  refine h.ask (fun B2 own base2 => fInt_g hf.now) fun w1 h => ?_
  refine ⟨lenIs h, i12 h, i11 h, i10 h, i9 h, i8 h, ?_⟩
  refine h.ask (fun B2 own base2 => fInt_g ti) fun w2 h => ?_
  refine ⟨lenIs h, i12 h, i11 h, i10 h, i9 h, ?_⟩
  rw [strL_add (by omega)]
  refine h.ask (fun B2 own base2 => fInt_g hf.next) fun w3 h => ?_
  refine ⟨lenIs h, i12 h, i11 h, i10 h, ?_⟩
  rw [strL_add (by simp only [List.length_append]; omega)]
  refine h.ask (fun B2 own base2 => fInt_g hf.refused) fun w4 h => ?_
  refine ⟨lenIs h, i12 h, i11 h, ?_⟩
  rw [strL_add (by simp only [List.length_append]; omega)]
  refine h.ask (fun B2 own base2 => fTabBytes_g (base2 rt) (base2 qt) hR) fun w5 h => ?_
  rw [hL]
  refine ⟨lenIs h, i12 h, ?_⟩
  refine h.ask (fun B2 own base2 => fText_g (by omega)) fun w6 h => ?_
  refine ⟨lenIs h, i12 h, ?_⟩
  rw [strL_add (by simp only [List.length_append]; omega)]
  refine h.ask (fun B2 own base2 => fNum_g ni) fun w7 h => ?_
  refine ⟨cellD.is (hcl h) sc_int (o := 7) rfl, ?_⟩
  rw [en, strL_add (by simp only [List.length_append]; omega)]
  unfold encIS encH at k
  rw [← he1, ← he2] at k
  generalize hhd : ((((encI s.now ++ encI s.top) ++ encI s.next) ++ encI s.refused) ++ encT (encTab s.prods)) ++ encI (l.length : Int) = hd at *
  have hhl : hd.length ≤ 200000 := by rw [← hhd]; simp only [List.length_append]; omega
  refine LOOP_intro (fun x w' => ∃ i : Nat, i ≤ l.length ∧ x = (.string (ofL (hd ++ (l.take i).flatMap encCo)), .int .i64 i, ()) ∧ Rel B' w' []) (fun x _ => l.length - (match x.2.1 with | .int _ n => n.toNat | _ => 0))
    ⟨0, Nat.zero_le _, by rw [List.take_zero, List.flatMap_nil, List.append_nil]; rfl, h⟩ ?_
  clear h
  rintro x w8 ⟨i, hi, rfl, h⟩ next hnext
  simp -zeta only [cellD.ld (hcl h) sc_s_errataref11_Count (o := 12) (v := lv.1) rfl, rowR.len hlr sl_s_errataref11_Count, bin_lss, ifB_dec]
  refine ⟨fun hlt => ?_, fun hge => ?_⟩
  · have hil : i < l.length := by omega
    have h := h.tick
    obtain ⟨g, o, hx, hcc⟩ := rowR.idx hlr sl_s_errataref11_Count (P := Tryz.prog) hil
    have hcc : cellsR g o l[i].cs B' := hcc
    have hs := hk.sub l[i] (List.getElem_mem hil)
    have hx' : l[i].time ∈ keysS s := by rw [← hk.keys hf.keys]; exact List.mem_map_of_mem (List.getElem_mem hil)
    have g1 := (hf.key hx').1
    have g2 := (hf.key hx').2
    rw [← hs.1] at g2
    have a1 := encI_len g1
    have a2 := encI_len g2
    have hstep := flat_take_succ encCo (l := l) (i := i) hil
    have hle := flat_take_le encCo l (i + 1)
    rw [hstep, List.length_append] at hle
    simp -zeta only [cellD.ld (hcl h) sc_s_errataref11_Count (o := 12) (v := lv.1) rfl, hx, field_addr f_errataref11_Count_0, field_addr f_errataref11_Count_1, Nat.add_zero, cellsR.ld0 (h.hereB hcc) sc_int (v := .int .i64 l[i].time) rfl, cellsR.ld (h.hereB hcc) sc_int (j := 1) (v := .int .i64 l[i].n) rfl]
    refine h.ask (fun B2 own base2 => fInt_g g1) fun w9 h => ?_
    refine ⟨cellsR.is (h.hereB hcc) sc_int (j := 1) rfl, i12 h, ?_⟩
    rw [strL_add (by simp only [List.length_append]; omega)]
    refine h.ask (fun B2 own base2 => fInt_g g2) fun w10 h => ?_
    rw [strL_add (by simp only [List.length_append]; omega), bin_add, wrap_id (by omega) (by omega)]
    refine hnext _ _ ⟨i + 1, hil, ?_, h⟩ (by simp only; omega)
    rw [hstep]
    unfold encCo
    simp only [List.append_assoc]
    rfl
  · have hie : i = l.length := by omega
    subst hie
    rw [List.take_length]
    exact k _ _ h
end
end Go.Proofs.YtefinemhfgdpdaaGreatDoor
