/-
  CellReads. No condition.
-/
import Derived.Test.YtmkigdkhpdeaeaaDoorCellS
namespace Go.Proofs.YtmkigdkhpdeaeaaDoor
open Go.RowKit

theorem slot_bool {st : CS} (h : slotOk st) : decide (0 < st.slot) = !decide (st.slot = 0) := by
  unfold slotOk at h
  by_cases e : st.slot = 0
  · rw [decide_eq_true e, decide_eq_false (by omega)]; rfl
  · rw [decide_eq_false e, decide_eq_true (by omega)]; rfl

theorem cellReads_pt {W : World} (hT : offD (lawB W)) {s t : ByteArray} {f : Int} (_ : s.size ≤ maxLen) (_ : t.size ≤ maxLen) {K : Value → World → Prop} (fin : ∀ w' σ, Rel (lawB W) w' σ → K (.bool true) w') : erratalaw05_CellReads.pt (.string s) (.string t) (.int .i64 f) W K := by
  unfold erratalaw05_CellReads.pt
  refine small_r hT (lawB.start W) fun w1 h => ?_
  have hbs := bl_length s
  have hbt := bl_length t
  simp -zeta only [str_len U_string, bin_gtr, ifB_dec]
  refine ⟨fun _ => fin _ _ h, fun hs => ⟨fun _ => fin _ _ h, fun ht => ?_⟩⟩
  refine h.make (fun B2 own base2 => New_m) fun u τ w2 hp h => ?_
  obtain ⟨p, rfl, rfl⟩ := hp
  refine h.make (fun B2 own base2 => RNew_m) fun u τ w3 hp h => ?_
  obtain ⟨q, rfl, rfl⟩ := hp
  rw [nil_ne, ifB_false]
  have h : Rel (lawB W) w3 [diskD p newS (.slice none 0 0), refD q newS (.slice none 0 0)] := h
  refine h.act 0 rfl (fun B2 own base2 => Write_d (nilrow _) (by decide) f 0 (t := s) (by omega)) fun v e' τ w4 hp h => ?_
  obtain ⟨rfl, rfl, rfl⟩ := hp
  refine h.act 1 rfl (fun B2 own base2 => RWrite_d (nilrow _) (by decide) f 0 (t := s) (by omega)) fun v e' τ w5 hp h => ?_
  obtain ⟨rfl, rfl, rfl⟩ := hp
  have k1 : (writeT newS f 0 s).1.keep = [] := keep_writeT _ _ _ _
  have h : Rel (lawB W) w5 [diskD p (writeT newS f 0 s).1 (.slice none 0 0), refD q (writeT newS f 0 s).1 (.slice none 0 0)] := h
  generalize (writeT newS f 0 s).1 = s1 at k1 h
  refine h.act 0 rfl (fun B2 own base2 => Write_d (by rw [k1]; exact nilrow _) (by rw [k1]; decide) f 131072 (t := t) (by omega)) fun v e' τ w6 hp h => ?_
  obtain ⟨rfl, rfl, rfl⟩ := hp
  refine h.act 1 rfl (fun B2 own base2 => RWrite_d (by rw [k1]; exact nilrow _) (by rw [k1]; decide) f 131072 (t := t) (by omega)) fun v e' τ w7 hp h => ?_
  obtain ⟨rfl, rfl, rfl⟩ := hp
  have h : Rel (lawB W) w7 [diskD p (writeT s1 f 131072 t).1 (.slice none 0 0), refD q (writeT s1 f 131072 t).1 (.slice none 0 0)] := h
  generalize (writeT s1 f 131072 t).1 = s2 at h
  refine h.make (fun B2 own base2 => open_m (base2 hT) (own (i := 0) rfl) f) fun u τ w8 hp h => ?_
  rcases hp with ⟨c, st, he, rfl, rfl⟩ | ⟨he, rfl, rfl⟩
  · have h : Rel (lawB W) w8 [diskD p s2 (.slice none 0 0), refD q s2 (.slice none 0 0), cellD c T_cell_Cell (ccs p f st)] := h
    simp -zeta only [ext_2_0, ext_2_1]
    refine h.make (fun B2 own base2 => Ropen_m (own (i := 1) rfl) f) fun u τ w9 hp h => ?_
    rcases hp with ⟨c2, st2, he2, rfl, rfl⟩ | ⟨he2, _⟩
    case inr => rw [he] at he2; cases he2
    rw [he] at he2
    cases he2
    have h : Rel (lawB W) w9 [diskD p s2 (.slice none 0 0), refD q s2 (.slice none 0 0), cellD c T_cell_Cell (ccs p f st), cellD c2 T_errataref05_Cell (ccs q f st)] := h
    simp -zeta only [ext_2_0, ext_2_1, bin_neq, decide_true, Bool.not_true, ifB_false, cell_nil, rcell_nil, bin_neq_bool U_bool, beq_self_eq_true]
    refine h.ask (fun B2 own base2 => Get_g (own (i := 2) rfl)) fun w10 h => ?_
    simp -zeta only [ext_2_0, ext_2_1]
    refine h.ask (fun B2 own base2 => RGet_g (own (i := 3) rfl)) fun w11 h => ?_
    rw [slot_bool (open_slot he)]
    simp -zeta only [ext_2_0, ext_2_1, eql_str, decide_true, ifB_true, bin_eql_bool U_bool, beq_self_eq_true]
    exact fin _ _ h
  · simp -zeta only [ext_2_0, ext_2_1]
    refine h.make (fun B2 own base2 => Ropen_m (own (i := 1) rfl) f) fun u τ w9 hp h => ?_
    rcases hp with ⟨c2, st2, he2, _⟩ | ⟨he2, rfl, rfl⟩
    · rw [he2] at he; cases he
    simp -zeta only [ext_2_0, ext_2_1, bin_neq, decide_true, Bool.not_true, ifB_false, cell_nn, rcell_nn, bin_neq_bool U_bool, beq_self_eq_true, ifB_true]
    exact fin _ _ h
end Go.Proofs.YtmkigdkhpdeaeaaDoor
