/-
  CellStays. No condition.
-/
import Derived.Test.YtmkigdkhpdeaeaaDoorCellT
namespace Go.Proofs.YtmkigdkhpdeaeaaDoor
open Go.RowKit

set_option maxRecDepth 10000 in
set_option maxHeartbeats 1000000 in
theorem cellStays_pt {W : World} (hT : offD (lawB W)) {v0 v2 v3 : Value} {l : List Op5} {sv : ByteArray} {one two : List Int} (r0 : rowR v0 l (lawB W)) (hm : l.length ≤ maxLen) (hq : ∀ x ∈ l, okInt W x.kind ∧ okStr W x.s ∧ okInt W x.n ∧ (∃ k : List Int, rowR x.keep.1 k (lawB W) ∧ k.length ≤ maxLen ∧ ∀ y ∈ k, okInt W y))
    (_ : sv.size ≤ maxLen) (r1 : rowR v2 one (lawB W)) (r2 : rowR v3 two (lawB W)) {K : Value → World → Prop} (fin : ∀ w' σ, Rel (lawB W) w' σ → K (.bool true) w') : erratalaw05_CellStays.pt v0 (.string sv) v2 v3 W K := by
  obtain ⟨L, rfl, qd⟩ := ops_of l fun x hx => (hq x hx).2.2.2.imp fun _ h => h.1
  have r := r0
  clear r0
  have hr : inO L := fun x hx => (hq x.1 (List.mem_map_of_mem hx)).2.2.1.2
  clear hq
  have hal : (opsL L).length = L.length := List.length_map ..
  rw [hal] at hm
  unfold maxLen at hm
  unfold erratalaw05_CellStays.pt
  refine small_r hT (lawB.start W) fun w1 h => ?_
  refine h.ask (fun B2 own base2 => fewO_g (base2 r) (base2 qd) (by omega)) fun w2 h => ?_
  rw [un_not, ifB_not, ifB_bool]
  refine ⟨fun hf => ?_, fun _ => fin _ _ h⟩
  have hf := fewO_true.1 hf
  have hl := hf.len
  have hbs := bl_length sv
  simp -zeta only [str_len U_string, rowR.len r1 sl_s_int, rowR.len r2 sl_s_int, bin_gtr, ifB_dec]
  refine ⟨fun _ => fin _ _ h, fun hs => ⟨fun _ => fin _ _ h, fun h1l => ⟨fun _ => fin _ _ h, fun h2l => ?_⟩⟩⟩
  refine h.make (fun B2 own base2 => New_m) fun u τ w3 hp h => ?_
  obtain ⟨p, rfl, rfl⟩ := hp
  refine h.make (fun B2 own base2 => open_m (base2 hT) (own (i := 0) rfl) 3) fun u τ w5 hp h => ?_
  rcases hp with ⟨a, st, he, rfl, rfl⟩ | ⟨he, _⟩
  case inr => rw [openS_new 3 (by decide)] at he; cases he
  rw [openS_new 3 (by decide)] at he
  cases he
  have h : Rel (lawB W) w5 [diskD p newS (.slice none 0 0), cellD a T_cell_Cell (ccs p 3 c0S)] := h
  simp -zeta only [ext_2_0, ext_2_1, bin_neq, decide_true, Bool.not_true, ifB_false, nil_ne, cell_nil]
  refine LOOP_intro (fun x w' => ∃ (i a : Nat) (ev : Value) (s : DS) (st : CS), i ≤ L.length ∧ x = (ptr a, ev, .int .i64 i, ()) ∧ s.keep = [] ∧ Res s 3 st (fun _ _ => True) ∧
      Rel (lawB W) w' [diskD p s (.slice none 0 0), cellD a T_cell_Cell (ccs p 3 st)]) (fun x _ => L.length - (match x.2.2.1 with | .int _ n => n.toNat | _ => 0))
    ⟨0, a, _, newS, c0S, Nat.zero_le _, rfl, rfl, (res_new 3).mono fun _ _ _ => trivial, h⟩ ?_
  clear h
  rintro x w7 ⟨i, a, ev, s, st, hil, rfl, hkp, hres, h⟩ next hnext
  have nk : ∀ B : Base, (rowR (.slice none 0 0) s.keep) B := fun B => by rw [hkp]; exact nilrow B
  have nkl : s.keep.length ≤ 1000000 := by rw [hkp]; exact Nat.zero_le _
  simp -zeta only [rowR.len r sl_s_errataref05_Op, bin_lss, ifB_dec]
  rw [hal]
  refine ⟨fun hlt => ?_, fun hge => ?_⟩
  · have hi : i < L.length := by omega
    obtain ⟨g, o, hx, hc⟩ := rowR.idx r sl_s_errataref05_Op (P := Tryd.prog) (i := i) (by omega)
    have e1 : (opsL L)[i]'(by omega) = L[i].1 := by simp
    rw [e1] at hc
    have hfi := hf.each _ (List.getElem_mem hi)
    have hri := hr _ (List.getElem_mem hi)
    have hki := qd L[i] (List.getElem_mem hi)
    generalize L[i] = x at hc hfi hri hki
    obtain ⟨op, kp⟩ := x
    have hc : cellsR g o op.cs (lawB W) := hc
    have hs : op.s.size ≤ 400 := hfi.s
    have hkp2 : kp.length ≤ 100 := hfi.keep
    have hri : op.n ≤ 9223372036854775807 := hri
    have hki : rowR op.keep.1 kp (lawB W) := hki
    refine LETJ_intro fun J hJ => ?_
    replace hJ : ∀ (a : Nat) (ev : Value) (s : DS) (st : CS) w', s.keep = [] → Res s 3 st (fun _ _ => True) → Rel (lawB W) w' [diskD p s (.slice none 0 0), cellD a T_cell_Cell (ccs p 3 st)] → J (ptr a, ev, ()) w' := by
      intro a ev s st w' hk hres h
      refine hJ _ _ ?_
      rw [bin_add, wrap_id (by omega) (by omega)]
      exact hnext _ _ ⟨i + 1, a, ev, s, st, hi, rfl, hk, hres, h⟩ (by simp only; omega)
    clear hnext
    simp -zeta only [hx, field_addr f_errataref05_Op_0, field_addr f_errataref05_Op_1, field_addr f_errataref05_Op_2, field_addr f_errataref05_Op_3, Nat.add_zero, cellsR.ld0 (h.hereB hc) sc_int rfl, cellsR.ld (h.hereB hc) sc_string (j := 1) rfl, cellsR.ld (h.hereB hc) sc_int (j := 2) rfl, cellsR.ld (h.hereB hc) sc_s_int (j := 3) rfl, bin_eql, ifB_dec]
    refine ⟨fun k0 => ?_, fun k0 => ⟨fun k1 => ?_, fun k1 => ⟨fun k3 => ?_, fun k3 => hJ a _ s st _ hkp hres h⟩⟩⟩
    · have h : Rel (lawB W) w7 ([] ++ [diskD p s (.slice none 0 0), cellD a T_cell_Cell (ccs p 3 st)]) := h
      refine h.act2 (fun B2 own base2 => set_d (base2 hT) (nk _) nkl) fun u d1 d2 w13 hp h => ?_
      obtain ⟨rfl, rfl, rfl⟩ := hp
      exact hJ a _ (setS s st 3 op.s).1.1 (setS s st 3 op.s).1.2 _ ((keep_setS s st 3 op.s).trans hkp) ((set_inv (by decide) hres op.s (by omega)).1.mono fun _ _ _ => trivial) h
    · refine h.act 0 rfl (fun B2 own base2 => Lose_d hri) fun u e' τ w15 hp h => ?_
      obtain ⟨rfl, rfl, rfl⟩ := hp
      exact hJ a _ { s with lost := max op.n 0 } st _ hkp (res_lose hres hri) h
    · obtain ⟨k, v, hopen, _, hcv, hres'⟩ := again_inv (f := 3) (by decide) hres kp
      refine h.act 0 rfl (fun B2 own base2 => again_d (base2 hT) (base2 hki) (by omega)) fun u e' τ w19 hp h => ?_
      obtain ⟨rfl, hp⟩ := hp
      rcases hp with ⟨a2, st2, he, rfl, rfl⟩ | ⟨he, _⟩
      case inr => rw [hopen] at he; cases he
      rw [hopen] at he
      cases he
      simp -zeta only [ext_2_0, ext_2_1, bin_neq, decide_true, Bool.not_true, ifB_false, cell_nil]
      have h := h.pick [0, 2] (by decide)
      exact hJ a2 _ (againS s kp) ⟨k, v, false⟩ _ ((keep_crash s kp).trans hkp) (hres'.mono fun _ _ _ => trivial) h
  · clear hnext
    have h : Rel (lawB W) w7 ([] ++ [diskD p s (.slice none 0 0), cellD a T_cell_Cell (ccs p 3 st)]) := h
    refine h.act2 (fun B2 own base2 => set_d (base2 hT) (nk _) nkl) fun u d1 d2 w10 hp h => ?_
    obtain ⟨rfl, rfl, rfl⟩ := hp
    obtain ⟨_, hz⟩ := set_inv (by decide) hres sv (by omega)
    have hks := (keep_setS s st 3 sv).trans hkp
    rw [bin_neq, ifB_not, ifB_dec]
    refine ⟨fun z => ?_, fun _ => fin _ _ h⟩
    obtain ⟨ez, hd2, hres2⟩ := hz z
    rw [ez] at h hres2
    clear hz z ez hres nk nkl hkp
    generalize (setS s st 3 sv).1.1 = s2 at h hres2 hks hd2
    have nk : ∀ B : Base, (rowR (.slice none 0 0) s2.keep) B := fun B => by rw [hks]; exact nilrow B
    have nkl : s2.keep.length ≤ 1000000 := by rw [hks]; exact Nat.zero_le _
    have hslot : (0 : Int) < nextK st := by have := nextK_range st; omega
    have h : Rel (lawB W) w10 [diskD p s2 (.slice none 0 0), cellD a T_cell_Cell (ccs p 3 ⟨nextK st, sv, true⟩)] := h
    refine h.mkSlice (α := UInt8) (n := 65537) 0 sl_s_uint8 (by kernel_rfl) (by decide) (by decide) fun v1 w11 h _ => ?_
    refine upK_of (conv_row (rowD.read (h.here (i := 2) rfl)) U_s_uint8 U_uint8 U_string) ?_
    have h : Rel (lawB W) w11 ([] ++ [diskD p s2 (.slice none 0 0), cellD a T_cell_Cell (ccs p 3 ⟨nextK st, sv, true⟩)]) := h.take 2
    have hlong : ∀ t : ByteArray, 65536 < t.size → setS s2 ⟨nextK st, sv, true⟩ 3 t = ((s2, ⟨nextK st, sv, true⟩), 6) := fun t ht => by unfold setS; rw [if_pos ht]
    have hsz : (ofL (List.replicate 65537 (0 : UInt8))).size = 65537 := by rw [ofL_size, List.length_replicate]
    generalize ofL (List.replicate 65537 (0 : UInt8)) = long at hsz
    have hlong := hlong long (by omega)
    refine h.act2 (fun B2 own base2 => set_d (base2 hT) (nk _) nkl) fun u d1 d2 w13 hp h => ?_
    obtain ⟨rfl, rfl, rfl⟩ := hp
    rw [hlong] at *
    have h : Rel (lawB W) w13 [diskD p s2 (.slice none 0 0), cellD a T_cell_Cell (ccs p 3 ⟨nextK st, sv, true⟩)] := h
    simp -zeta only [bin_neq, decide_true, Bool.not_true, ifB_false]
    refine LOOP_intro (fun x w' => ∃ (i a : Nat) (ev : Value) (s : DS) (st : CS), i ≤ 2 ∧ x = (ptr a, ev, .int .i64 i, ()) ∧ (st.value = sv ∧ 0 < st.slot) ∧ Res s 3 st (fun k w => k ≠ 0 ∧ w = sv) ∧
        Rel (lawB W) w' [diskD p s (.slice none 0 0), cellD a T_cell_Cell (ccs p 3 st)]) (fun x _ => 2 - (match x.2.2.1 with | .int _ n => n.toNat | _ => 0))
      ⟨0, a, _, s2, _, Nat.zero_le _, rfl, ⟨rfl, hslot⟩, hres2, h⟩ ?_
    clear h
    rintro x w14 ⟨i, a, ev, s, st, hi2, rfl, ⟨hsv, hsl⟩, hres, h⟩ next hnext
    simp -zeta only [bin_lss, ifB_dec]
    refine ⟨fun hlt => ?_, fun hge => ?_⟩
    · refine h.ask (fun B2 own base2 => Get_g (own (i := 1) rfl)) fun w15 h => ?_
      rw [hsv, decide_eq_true hsl]
      simp -zeta only [ext_2_0, ext_2_1, neq_str, decide_true, Bool.not_true, ifB_false, un_not]
      refine LETJ_intro fun J hJ => ?_
      replace hJ : ∀ (kv : Value) (kp : List Int), rowR kv kp (lawB W) → kp.length ≤ 100 → J (kv, ()) w15 := by
        intro kv kp hki hkl
        refine hJ _ _ ?_
        obtain ⟨k, v, hopen, ⟨hk0, hv⟩, hcv, hres'⟩ := again_inv (f := 3) (by decide) hres kp
        refine h.act 0 rfl (fun B2 own base2 => again_d (base2 hT) (base2 hki) (by omega)) fun u e' τ w19 hp h => ?_
        obtain ⟨rfl, hp⟩ := hp
        rcases hp with ⟨a2, st2, he, rfl, rfl⟩ | ⟨he, _⟩
        case inr => rw [hopen] at he; cases he
        rw [hopen] at he
        cases he
        simp -zeta only [ext_2_0, ext_2_1, bin_neq, decide_true, Bool.not_true, ifB_false, cell_nil]
        have h := h.pick [0, 2] (by decide)
        rw [bin_add, wrap_id (by omega) (by omega)]
        have hkr := hcv.kr
        exact hnext _ _ ⟨i + 1, a2, _, againS s kp, ⟨k, v, false⟩, by omega, rfl, ⟨hv, by show 0 < k; omega⟩, hres'.mono fun k' v' hh => ⟨by rw [hh.1]; exact hk0, by rw [hh.2]; exact hv⟩, h⟩ (by simp only; omega)
      clear hnext
      rw [bin_eql, ifB_dec]
      exact ⟨fun _ => hJ v3 two r2 (by omega), fun _ => hJ v2 one r1 (by omega)⟩
    · refine h.ask (fun B2 own base2 => Get_g (own (i := 1) rfl)) fun w18 h => ?_
      rw [hsv, decide_eq_true hsl]
      simp -zeta only [ext_2_0, ext_2_1, ifB_true, eql_str, decide_true]
      exact fin _ _ h
end Go.Proofs.YtmkigdkhpdeaeaaDoor
