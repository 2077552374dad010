/-
  MarksTells: the walk. No condition.
-/
import Derived.Test.YtncgdihcplhcoaaDoorMkG
namespace Go.Proofs.YtncgdihcplhcoaaDoor
open Go.RowKit
set_option maxRecDepth 100000

set_option maxHeartbeats 2000000 in
theorem marksTells_pt {W : World} (hB : wireD (lawB W)) {n at_ time now ahead : Int} {v : Value} {l : List MOp} {text : ByteArray} (r : rowR v l (lawB W)) (_ : text.size ≤ maxLen) (htime : okInt W time) (hnow : okInt W now) (hahead : okInt W ahead)
    {K : Value → World → Prop} (fin : ∀ w' σ, Rel (lawB W) w' σ → K (.bool true) w') : erratalaw35_MarksTells.pt (.int .i64 n) v (.int .i64 at_) (.string text) (.int .i64 time) (.int .i64 now) (.int .i64 ahead) W K := by
  unfold erratalaw35_MarksTells.pt
  have h := lawB.start W
  refine small_r h fun w1 h => ?_
  refine h.make (fun B2 own base2 => new_m n) fun u τ w2 hp h => ?_
  obtain ⟨p, rfl, rfl⟩ := hp
  refine h.make (fun B2 own base2 => rnew_m n) fun u τ w3 hp h => ?_
  obtain ⟨q, rfl, rfl⟩ := hp
  have h : Rel (lawB W) w3 [marksD p (fresh n), refMD q (fresh n)] := h
  simp -zeta only [marks_nil, marks_nn, ifB_false, ifB_true, rowR.len r sl_s_erratalaw35_Op, len_string U_string, bin_gtr, ifB_dec]
  refine ⟨fun _ => fin _ _ h, fun hl => ⟨fun _ => fin _ _ h, fun ht => ?_⟩⟩
  obtain ⟨t, rfl⟩ : ∃ t : Bs, text = ofL t := ⟨bl text, (ofL_bl text).symm⟩
  rw [ofL_size] at ht
  refine h.make (fun B2 own base2 => copy_m (own (i := 0) rfl) (fresh_fine n).len) fun u τ w4 hp h => ?_
  obtain ⟨c, rfl, rfl⟩ := hp
  refine h.make (fun B2 own base2 => rcopy_m (own (i := 1) rfl) (fresh_fine n).len) fun u τ w5 hp h => ?_
  obtain ⟨d, rfl, rfl⟩ := hp
  have h : Rel (lawB W) w5 [marksD p (fresh n), refMD q (fresh n), marksD c (fresh n), refMD d (fresh n)] := h
  refine LOOP_intro (fun x w' => ∃ (i c d : Nat) (s s2 : MarkS), i ≤ l.length ∧ x = (ptr1 c, ptr1 d, .int .i64 i, ()) ∧ FineM s ∧ FineM s2 ∧ Rel (lawB W) w' [marksD p s, refMD q s, marksD c s2, refMD d s2]) (fun x _ => l.length - (match x.2.2.1 with | .int _ n => n.toNat | _ => 0))
    ⟨0, c, d, fresh n, fresh n, Nat.zero_le _, rfl, fresh_fine n, fresh_fine n, h⟩ ?_
  clear h
  rintro x w6 ⟨i, c, d, s, s2, hi, rfl, hf, hf2, h⟩ next hnext
  simp -zeta only [bin_lss, ifB_dec]
  refine ⟨fun hlt => ?_, fun hge => ?_⟩
  · have hil : i < l.length := by omega
    refine LETJ_intro fun J1 hJ1 => ?_
    replace hJ1 : ∀ (c d : Nat) (s s2 : MarkS), FineM s → FineM s2 → ∀ w', Rel (lawB W) w' [marksD p s, refMD q s, marksD c s2, refMD d s2] → J1 (ptr1 c, ptr1 d, ()) w' := by
      intro c d s s2 hf hf2 w' h
      refine hJ1 _ _ ?_
      rw [bin_add, wrap_id (by omega) (by omega)]
      exact hnext _ _ ⟨i + 1, c, d, s, s2, hil, rfl, hf, hf2, h⟩ (by simp only; omega)
    clear hnext
    refine LETJ_intro fun J2 hJ2 => ?_
    replace hJ2 : ∀ (c d : Nat) (s2 : MarkS), FineM s2 → ∀ w', Rel (lawB W) w' [marksD p s, refMD q s, marksD c s2, refMD d s2] → J2 (ptr1 c, ptr1 d, ()) w' := by
      intro c d s2 hf2 w' h
      refine hJ2 _ _ ?_
      clear hJ2
      obtain ⟨g, o, hx, hc⟩ := rowR.idx r sl_s_erratalaw35_Op (P := Tryd.prog) hil
      have hc : cellsR g o l[i].cs (lawB W) := hc
      have h := h.tick
      simp -zeta only [hx, cellsR.ldAg (h.hereB hc) ag_erratalaw35_Op rfl]
      refine h.act 0 rfl (fun B2 own base2 => do_d hf.len l[i]) fun v e' τ w9 hp h => ?_
      obtain ⟨rfl, rfl, rfl⟩ := hp
      refine ⟨cellsR.isAg (h.hereB hc) ag_erratalaw35_Op rfl, ?_⟩
      refine h.act 1 rfl (fun B2 own base2 => tell_d hf.len l[i]) fun v e' τ w10 hp h => ?_
      obtain ⟨rfl, rfl, rfl⟩ := hp
      have hf := doM_fine hf l[i]
      rw [bin_neq, decide_eq_true rfl, Bool.not_true, ifB_false]
      generalize hs' : (doM s l[i]).2 = s' at h hf
      have h : Rel (lawB W) w10 [marksD p s', refMD q s', marksD c s2, refMD d s2] := h
      have common : ∀ {w' : World}, Rel (lawB W) w' [marksD p s', refMD q s', marksD c s2, refMD d s2] → ∃ u v : SV, (cellD q T_errataref35_Marks (rcs u v s')).here w' ∧ (rowR u.1 (lM s')).here w' ∧ (rowR v.1 (lO s')).here w' := fun h => refMD.peek (h.here (i := 1) rfl)
      obtain ⟨u1, v1, hq, _, _⟩ := common h
      simp -zeta only [nil_ptr, field_addr f_errataref35_Marks_2, Nat.zero_add, cellD.ld hq sc_int (o := 2) rfl]
      refine h.ask (fun B2 own base2 => mMark_g (own (i := 0) rfl)) fun w11 h => ?_
      obtain ⟨u2, v2, hq2, _, _⟩ := common h
      refine ⟨cellD.is hq2 sc_int (o := 2) rfl, ?_⟩
      rw [bin_neq, decide_eq_true rfl, Bool.not_true, ifB_false]
      refine h.ask (fun B2 own base2 => bytes_g (base2 hB) (own (i := 0) rfl) hf) fun w12 h => ?_
      refine h.ask (fun B2 own base2 => rbytes_g (own (i := 1) rfl) hf) fun w13 h => ?_
      rw [neq_str, decide_eq_true rfl, Bool.not_true, ifB_false]
      simp -zeta only [hx, field_addr f_erratalaw35_Op_1, cellsR.ld (h.hereB hc) sc_int (j := 1) rfl]
      refine h.ask (fun B2 own base2 => of_g (own (i := 0) rfl) l[i].i) fun w14 h => ?_
      have done : ∀ w', Rel (lawB W) w' [marksD p s', refMD q s', marksD c s2, refMD d s2] → J1 (ptr1 c, ptr1 d, ()) w' := fun w' h => hJ1 c d s' s2 hf hf2 w' h
      clear hJ1
      simp -zeta only [ext_2_0, ext_2_1]
      have none : has s' l[i].i = false → ∀ w', Rel (lawB W) w' [marksD p s', refMD q s', marksD c s2, refMD d s2] → ofS s' l[i].i = (-1, false) := fun hn w' h => by unfold ofS; rw [if_pos hn]
      have h := h.tick
      simp -zeta only [cellsR.ld (h.hereB hc) sc_int (j := 1) rfl]
      rw [bin_lss, ifB_dec]
      refine ⟨fun c1 => ?_, fun c1 => ?_⟩
      · rw [none (has_false (.inl c1)) _ h, bin_neq, decide_eq_true (Eq.refl (-1 : Int)), Bool.not_true, ifB_false, ifB_false]
        exact done _ h
      obtain ⟨u3, v3, hq3, ru3, rv3⟩ := common h
      simp -zeta only [nil_ptr, field_addr f_errataref35_Marks_0, Nat.add_zero, cellD.ld hq3 sc_s_int (o := 0) rfl, rowR.len ru3 sl_s_int, bin_geq]
      rw [lM_len, ifB_dec]
      refine ⟨fun c2 => ?_, fun c2 => ?_⟩
      · rw [none (has_false (.inr c2)) _ h, bin_neq, decide_eq_true (Eq.refl (-1 : Int)), Bool.not_true, ifB_false, ifB_false]
        exact done _ h
      obtain ⟨j, hj⟩ : ∃ j : Nat, l[i].i = j := ⟨l[i].i.toNat, by omega⟩
      rw [hj] at c1 c2 none
      have hjl : j < s'.l.length := by omega
      have hh : has s' j = true := has_iff.2 ⟨j, rfl, hjl⟩
      have ho : ofS s' l[i].i = (s'.l[j].mark, s'.l[j].idle) := by
        unfold ofS
        rw [hj, if_neg (by rw [hh]; decide), inp_at hjl]
      have h := h.tick
      obtain ⟨u4, v4, hq4, ru4, rv4⟩ := common h
      obtain ⟨gu, ou, hxu, hcu⟩ := rowR.idx ru4 sl_s_int (P := Tryd.prog) (i := j) (by rw [lM_len]; exact hjl)
      obtain ⟨gv, ov, hxv, hcv⟩ := rowR.idx rv4 nil_bool (P := Tryd.prog) (i := j) (by rw [lO_len]; exact hjl)
      have hcu : (cellsR gu ou [.int .i64 s'.l[j].mark]).here (tick (tick w14)) := by
        show (cellsR gu ou [.int .i64 s'.l[j].mark]).p ⟨tick (tick w14), fun _ => True⟩
        simpa [lM, Enc.cells] using hcu
      have hcv : (cellsR gv ov [.bool s'.l[j].idle]).here (tick (tick w14)) := by
        show (cellsR gv ov [.bool s'.l[j].idle]).p ⟨tick (tick w14), fun _ => True⟩
        simpa [lO, Enc.cells] using hcv
      simp -zeta only [field_addr f_errataref35_Marks_0, field_addr f_errataref35_Marks_1, Nat.add_zero, Nat.zero_add, cellD.ld hq4 sc_s_int (o := 0) rfl, cellD.ld hq4 sc_s_bool (o := 1) rfl, cellsR.ld (h.hereB hc) sc_int (j := 1) rfl]
      rw [hj] at ho ⊢
      rw [hxu, cellsR.ld0 hcu sc_int rfl, ho, bin_neq, decide_eq_true rfl, Bool.not_true, ifB_false, hxv, cellsR.ld0 hcv sc_bool rfl, bin_neq_bool U_bool, beq_self_eq_true, Bool.not_true, ifB_false]
      exact done _ h
    rw [bin_eql, ifB_dec]
    refine ⟨fun _ => ?_, fun _ => hJ2 c d s2 hf2 _ h⟩
    refine h.make (fun B2 own base2 => copy_m (own (i := 0) rfl) hf.len) fun u τ w15 hp h => ?_
    obtain ⟨c', rfl, rfl⟩ := hp
    refine h.make (fun B2 own base2 => rcopy_m (own (i := 1) rfl) hf.len) fun u τ w16 hp h => ?_
    obtain ⟨d', rfl, rfl⟩ := hp
    have h := h.pick [0, 1, 4, 5] (by decide)
    exact hJ2 c' d' s hf _ h
  clear hnext
  have h := h.tick
  rw [marks_nil, ifB_false]
  refine h.ask (fun B2 own base2 => bytes_g (base2 hB) (own (i := 2) rfl) hf2) fun w17 h => ?_
  refine h.ask (fun B2 own base2 => rbytes_g (own (i := 3) rfl) hf2) fun w18 h => ?_
  rw [neq_str, decide_eq_true rfl, Bool.not_true, ifB_false]
  have common : ∀ {w' : World}, Rel (lawB W) w' [marksD p s, refMD q s, marksD c s2, refMD d s2] → ∃ u v : SV, (cellD q T_errataref35_Marks (rcs u v s)).here w' ∧ (rowR u.1 (lM s)).here w' ∧ (rowR v.1 (lO s)).here w' := fun h => refMD.peek (h.here (i := 1) rfl)
  obtain ⟨B', h', back, own', base'⟩ := h.frz
  replace fin : ∀ w' σ, Rel B' w' σ → K (.bool true) w' := fun w' σ h => fin w' _ (back w' _ h)
  have hms : marksD p s B' := own' (i := 0) rfl
  have hrs : refMD q s B' := own' (i := 1) rfl
  have hB' : wireD B' := base' hB
  clear h back own' common
  have h := h'
  clear h'
  obtain ⟨u1, v1, hq, ru, rv⟩ := refMD.peek hrs
  simp -zeta only [nil_ptr, field_addr f_errataref35_Marks_0, Nat.add_zero, cellD.ld (h.hereB hq) sc_s_int (o := 0) rfl, rowR.len ru sl_s_int]
  refine h.ask (fun B2 own base2 => count_g (base2 hms)) fun w19 h => ?_
  refine ⟨is_of (fun {K} => rowR.len ru sl_s_int), cellD.is (h.hereB hq) sc_s_int (o := 0) rfl, ?_⟩
  rw [lM_len, bin_neq, decide_eq_true rfl, Bool.not_true, ifB_false]
  refine h.make (fun B2 own base2 => read_m (base2 hB') (t := t) (by omega)) fun u τ w20 hp h => ?_
  have last : ∀ w' τ, Rel B' w' τ → upK Tryd.prog (sCall F_marks_Cut #[.int .i64 time, .int .i64 now, .int .i64 ahead]) w' fun t216 w23 => upK Tryd.prog (sCall F_errataref35_Cut #[.int .i64 time, .int .i64 now, .int .i64 ahead]) w23 fun t220 w24 => pureK Tryd.prog (sBin .eql T_int (.tmp 216) (.tmp 220) t216 t220) fun t221 => K t221 w24 := by
    intro w' τ h
    refine h.ask (fun B2 own base2 => cutM_g time now ahead) fun w23 h => ?_
    refine h.ask (fun B2 own base2 => rcut_g htime hnow hahead) fun w24 h => ?_
    rw [bin_eql, decide_eq_true rfl]
    exact fin _ _ h
  rcases hp with ⟨s', z, hs, rfl, rfl⟩ | ⟨hn, rfl, rfl⟩
  · simp -zeta only [ext_2_0, ext_2_1]
    refine h.make (fun B2 own base2 => rread_m (t := t) (by omega)) fun u τ w21 hp h => ?_
    rcases hp with ⟨s'', z2, hs2, rfl, rfl⟩ | ⟨hn2, _⟩
    case inr => rw [hs] at hn2; cases hn2
    rw [hs] at hs2
    injection hs2 with hs2
    subst hs2
    simp -zeta only [ext_2_0, ext_2_1]
    refine LETJ_intro fun J3 hJ3 => ?_
    replace hJ3 : ∀ w' τ, Rel B' w' τ → J3 () w' := fun w' τ h => hJ3 _ _ (last w' τ h)
    obtain ⟨hf3, _⟩ := readM_back hs
    have h : Rel B' w21 [marksD z s', refMD z2 s'] := h
    rw [bin_neq_bool U_bool, beq_self_eq_true, Bool.not_true, ifB_false, ifB_true, marks_nil, ifB_false]
    refine h.ask (fun B2 own base2 => bytes_g (base2 hB') (own (i := 0) rfl) hf3) fun w25 h => ?_
    refine h.ask (fun B2 own base2 => rbytes_g (own (i := 1) rfl) hf3) fun w26 h => ?_
    rw [neq_str, decide_eq_true rfl, Bool.not_true, ifB_false, un_not, Bool.not_true, ifB_false]
    exact hJ3 _ _ h
  · simp -zeta only [ext_2_0, ext_2_1]
    refine h.make (fun B2 own base2 => rread_m (t := t) (by omega)) fun u τ w21 hp h => ?_
    rcases hp with ⟨s'', z2, hs2, _⟩ | ⟨hn2, rfl, rfl⟩
    case inl => rw [hn] at hs2; cases hs2
    simp -zeta only [ext_2_0, ext_2_1]
    refine LETJ_intro fun J3 hJ3 => ?_
    replace hJ3 : ∀ w' τ, Rel B' w' τ → J3 () w' := fun w' τ h => hJ3 _ _ (last w' τ h)
    have nn : ∀ {Kp : Value → Prop} {xo yo : Operand}, pureK Tryd.prog (sBin .neq T_p_marks_Marks xo yo (.pointer none) (.pointer none)) Kp = Kp (.bool false) := fun {Kp xo yo} => pureK_eq fun w => sBin_eq rfl (run_neq_pointer_nil w T_p_marks_Marks none U_p_marks_Marks)
    rw [bin_neq_bool U_bool, beq_self_eq_true, Bool.not_true, ifB_false, ifB_false, un_not, Bool.not_false, ifB_true, nn, ifB_false]
    exact hJ3 _ _ h
end Go.Proofs.YtncgdihcplhcoaaDoor
