/-
  MarksBack: the walk. No condition.
-/
import Derived.Test.YtncgdihcplhcoaaDoorMkC
namespace Go.Proofs.YtncgdihcplhcoaaDoor
open Go.RowKit
set_option maxRecDepth 100000

theorem marks_nn {p : Nat} {Kp : Value → Prop} {xo yo : Operand} : pureK Tryd.prog (sBin .neq T_p_marks_Marks xo yo (ptr1 p) (.pointer none)) Kp = Kp (.bool true) := bin_neq_ptr_nil U_p_marks_Marks
set_option maxHeartbeats 1000000 in
theorem marksBack_pt {W : World} (hB : wireD (lawB W)) {n : Int} {v1 v2 : Value} {l more : List MOp} {text : ByteArray} (r : rowR v1 l (lawB W)) (r2 : rowR v2 more (lawB W)) (_ : text.size ≤ maxLen)
    {K : Value → World → Prop} (fin : ∀ w' σ, Rel (lawB W) w' σ → K (.bool true) w') : erratalaw35_MarksBack.pt (.int .i64 n) v1 v2 (.string text) W K := by
  unfold erratalaw35_MarksBack.pt
  have h := lawB.start W
  refine small_r h fun w1 h => ?_
  refine h.make (fun B2 own base2 => new_m n) fun u τ w2 hp h => ?_
  obtain ⟨p, rfl, rfl⟩ := hp
  have h : Rel (lawB W) w2 [marksD p (fresh n)] := h
  simp -zeta only [marks_nil, marks_nn, ifB_false, ifB_true, rowR.len r sl_s_erratalaw35_Op, rowR.len r2 sl_s_erratalaw35_Op, len_string U_string, bin_gtr, ifB_dec]
  refine ⟨fun _ => fin _ _ h, fun hl => ⟨fun _ => fin _ _ h, fun hm => ⟨fun _ => fin _ _ h, fun ht => ?_⟩⟩⟩
  obtain ⟨t, rfl⟩ : ∃ t : Bs, text = ofL t := ⟨bl text, (ofL_bl text).symm⟩
  rw [ofL_size] at ht
  refine LOOP_intro (fun x w' => ∃ (i : Nat) (s : MarkS), i ≤ l.length ∧ x = (.int .i64 i, ()) ∧ FineM s ∧ Rel (lawB W) w' [marksD p s]) (fun x _ => l.length - (match x.1 with | .int _ n => n.toNat | _ => 0))
    ⟨0, fresh n, Nat.zero_le _, rfl, fresh_fine n, h⟩ ?_
  clear h
  rintro x w3 ⟨i, s, hi, rfl, hf, h⟩ next hnext
  simp -zeta only [bin_lss, ifB_dec]
  refine ⟨fun hlt => ?_, fun hge => ?_⟩
  · have hil : i < l.length := by omega
    obtain ⟨g, o, hx, hc⟩ := rowR.idx r sl_s_erratalaw35_Op (P := Tryd.prog) hil
    have hc : cellsR g o l[i].cs (lawB W) := hc
    rw [hx, cellsR.ldAg (h.hereB hc) ag_erratalaw35_Op rfl]
    refine h.act 0 rfl (fun B2 own base2 => do_d hf.len l[i]) fun v e' τ w4 hp h => ?_
    obtain ⟨rfl, rfl, rfl⟩ := hp
    rw [bin_add, wrap_id (by omega) (by omega)]
    exact hnext _ _ ⟨i + 1, _, hil, rfl, doM_fine hf _, h⟩ (by simp only; omega)
  clear hnext
  refine h.ask (fun B2 own base2 => bytes_g (base2 hB) (own (i := 0) rfl) hf) fun w5 h => ?_
  have hlen := encM_len hf
  refine h.make (fun B2 own base2 => read_m (base2 hB) (by omega)) fun u τ w6 hp h => ?_
  rcases hp with ⟨s', q, hs, rfl, rfl⟩ | ⟨hn, _⟩
  case inr => rw [readM_enc hf] at hn; cases hn
  rw [readM_enc hf] at hs
  injection hs with hs
  subst hs
  simp -zeta only [ext_2_0, ext_2_1]
  rw [un_not, Bool.not_true, ifB_false, marks_nil, ifB_false]
  have h : Rel (lawB W) w6 [marksD p s, marksD q s] := h
  refine LOOP_intro (fun x w' => ∃ (i : Nat) (s : MarkS), i ≤ more.length ∧ x = (.int .i64 i, ()) ∧ FineM s ∧ Rel (lawB W) w' [marksD p s, marksD q s]) (fun x _ => more.length - (match x.1 with | .int _ n => n.toNat | _ => 0))
    ⟨0, s, Nat.zero_le _, rfl, hf, h⟩ ?_
  clear h
  rintro x w7 ⟨j, s2, hj, rfl, hf2, h⟩ next hnext
  simp -zeta only [bin_lss, ifB_dec]
  refine ⟨fun hlt => ?_, fun hge => ?_⟩
  · have hjl : j < more.length := by omega
    obtain ⟨g, o, hx, hc⟩ := rowR.idx r2 sl_s_erratalaw35_Op (P := Tryd.prog) hjl
    have hc : cellsR g o more[j].cs (lawB W) := hc
    have h := h.tick
    simp -zeta only [hx, cellsR.ldAg (h.hereB hc) ag_erratalaw35_Op rfl]
    refine h.act 0 rfl (fun B2 own base2 => do_d hf2.len more[j]) fun v e' τ w8 hp h => ?_
    obtain ⟨rfl, rfl, rfl⟩ := hp
    refine ⟨cellsR.isAg (h.hereB hc) ag_erratalaw35_Op rfl, ?_⟩
    refine h.act 1 rfl (fun B2 own base2 => do_d hf2.len more[j]) fun v e' τ w9 hp h => ?_
    obtain ⟨rfl, rfl, rfl⟩ := hp
    have h : Rel (lawB W) w9 [marksD p (doM s2 more[j]).2, marksD q (doM s2 more[j]).2] := h
    rw [bin_neq, decide_eq_true rfl, Bool.not_true, ifB_false]
    refine h.ask (fun B2 own base2 => mMark_g (own (i := 0) rfl)) fun w10 h => ?_
    refine h.ask (fun B2 own base2 => mMark_g (own (i := 1) rfl)) fun w11 h => ?_
    rw [bin_neq, decide_eq_true rfl, Bool.not_true, ifB_false, bin_add, wrap_id (by omega) (by omega)]
    exact hnext _ _ ⟨j + 1, _, hjl, rfl, doM_fine hf2 _, h⟩ (by simp only; omega)
  clear hnext
  refine h.make (fun B2 own base2 => read_m (base2 hB) (t := t) (by omega)) fun u τ w12 hp h => ?_
  have last : ∀ w' τ, Rel (lawB W) w' ([marksD p s2, marksD q s2] ++ τ) → upK Tryd.prog (sCall F_marks_Marks_Bytes #[ptr1 p]) w' fun t111 w14 => upK Tryd.prog (sCall F_marks_Marks_Bytes #[ptr1 q]) w14 fun t113 w15 => pureK Tryd.prog (sBin .eql T_string (.tmp 111) (.tmp 113) t111 t113) fun t114 => K t114 w15 := by
    intro w' τ h
    have h : Rel (lawB W) w' [marksD p s2, marksD q s2] := h.drop
    refine h.ask (fun B2 own base2 => bytes_g (base2 hB) (own (i := 0) rfl) hf2) fun w14 h => ?_
    refine h.ask (fun B2 own base2 => bytes_g (base2 hB) (own (i := 1) rfl) hf2) fun w15 h => ?_
    rw [eql_ofL, decide_eq_true rfl]
    exact fin _ _ h
  rcases hp with ⟨s', z, hs, rfl, rfl⟩ | ⟨hn, rfl, rfl⟩
  · simp -zeta only [ext_2_0, ext_2_1]
    refine LETJ_intro fun J1 hJ1 => ?_
    replace hJ1 : ∀ w' τ, Rel (lawB W) w' ([marksD p s2, marksD q s2] ++ τ) → J1 () w' := fun w' τ h => hJ1 _ _ (last w' τ h)
    obtain ⟨hf3, he3⟩ := readM_back hs
    rw [ifB_true, marks_nil, ifB_false]
    have h : Rel (lawB W) w12 [marksD p s2, marksD q s2, marksD z s'] := h
    refine h.ask (fun B2 own base2 => bytes_g (base2 hB) (own (i := 2) rfl) hf3) fun w16 h => ?_
    rw [he3, neq_str, decide_eq_true rfl, Bool.not_true, ifB_false]
    exact hJ1 _ [marksD z s'] h
  · simp -zeta only [ext_2_0, ext_2_1]
    refine LETJ_intro fun J1 hJ1 => ?_
    replace hJ1 : ∀ w' τ, Rel (lawB W) w' ([marksD p s2, marksD q s2] ++ τ) → J1 () w' := fun w' τ h => hJ1 _ _ (last w' τ h)
    rw [ifB_false]
    exact hJ1 _ [] h
end Go.Proofs.YtncgdihcplhcoaaDoor
