/-
  The laws' examples. No condition.
-/
import Derived.Test.YtmllhipiahlihaaGreatDoorRetainE
namespace Go.Proofs.YtmllhipiahlihaaGreatDoor
open Go.RowKit
set_option maxRecDepth 100000

theorem UpS : Tryz.prog.underlying T_p_retain_Store = some (.pointer (Tryz.prog.pointee T_p_retain_Store)) := by kernel_rfl
def nilV : SV := ⟨.slice none 0 0, rfl⟩
theorem nil_row (B : Base) : rowR nilV.1 ([] : List Val) B := ⟨none, 0, rfl, Nat.le_refl _, .inl rfl⟩

def smallE (i t : Int) : Ev := ⟨2, i, ⟨#[97]⟩, 0, t, []⟩
def sm3 : St := ⟨2, 0, 0, [smallE 0 5, smallE 1 9, smallE 2 7]⟩
theorem getD_times : ∀ (i : Nat), i < 3 → addS ⟨2, 0, 0, [smallE 0 5, smallE 1 9, smallE 2 7].take i⟩ (smallE i ([5, 9, 7][i]?.getD 0)) = (0, ⟨2, 0, 0, [smallE 0 5, smallE 1 9, smallE 2 7].take (i + 1)⟩)
  | 0, _ => rfl
  | 1, _ => rfl
  | 2, _ => rfl
  | i + 3, h => by omega

theorem small_r {B : Base} {w : World} {σ : List Dat} {K : Value → World → Prop} (h : Rel B w σ) (k : ∀ w', Rel B w' σ → K (.bool true) w') : upK Tryz.prog (sCall F_erratalaw12_small #[]) w K := by
  obtain ⟨B', h', back, _, _⟩ := h.frz
  replace k : ∀ w' τ, Rel B' w' τ → K (.bool true) w' := fun w' τ h => k w' (by have := back w' _ h; exact this.drop)
  clear back h
  have h := h'
  clear h'
  refine erratalaw12_small.up (erratalaw12_small.call ?_)
  unfold erratalaw12_small.pt
  refine h.make (fun _ _ _ => new_m 2) fun u τ w1 hp h => ?_
  obtain ⟨b, rfl, rfl⟩ := hp
  simp -zeta only [bin_eql_ptr_nil UpS, ifB_false]
  refine h.buildN (α := Int) [5, 9, 7] sl_s_int fun vt w2 h => ?_
  refine LOOP_intro (fun x w' => ∃ i : Nat, i ≤ 3 ∧ x = (.int .i64 i, ()) ∧ Rel B' w' [storeD b ⟨2, 0, 0, [smallE 0 5, smallE 1 9, smallE 2 7].take i⟩, rowD T_int vt ([5, 9, 7] : List Int)]) (fun x _ => 3 - (match x.1 with | .int _ n => n.toNat | _ => 0)) ⟨0, Nat.zero_le _, rfl, h⟩ ?_
  clear h
  rintro x w3 ⟨i, hi, rfl, h⟩ next hnext
  simp -zeta only [bin_lss, ifB_dec]
  refine ⟨fun hlt => ?_, fun hge => ?_⟩
  · have hi3 : i < 3 := by omega
    obtain ⟨g, o, hx, hc⟩ := rowR.idx (rowD.read (h.here (i := 1) rfl)) sl_s_int (i := i) (by simpa using hi3)
    have hel : ([5, 9, 7] : List Int)[i]'(by simpa using hi3) = [5, 9, 7][i]?.getD 0 := by
      rw [List.getElem?_eq_getElem (by simpa using hi3)]; rfl
    rw [hel] at hc
    simp -zeta only [hx, cellsR.ld0 hc sc_int rfl, bd_api_Event_0_1_2_4]
    refine h.act 0 rfl (fun B2 own base2 => add_d (smallE i ([5, 9, 7][i]?.getD 0)) nilV (nil_row B2) (Nat.zero_le _) (fun x hx => by cases hx)) fun u e' τ w4 hp h => ?_
    obtain ⟨rfl, rfl, rfl⟩ := hp
    rw [getD_times i hi3] at h ⊢
    simp -zeta only [bin_neq, decide_true, Bool.not_true, ifB_false, bin_add]
    rw [wrap_id (by omega) (by omega)]
    exact hnext _ _ ⟨i + 1, by omega, rfl, h⟩ (by simp only; omega)
  · have : i = 3 := by omega
    subst this
    clear hnext
    have h : Rel B' w3 [storeD b sm3, rowD T_int vt ([5, 9, 7] : List Int)] := h
    refine h.make (fun _ own _ => copy_m (storeD.read (own (i := 0) rfl))) fun u τ w4 hp h => ?_
    obtain ⟨b2, rfl, rfl⟩ := hp
    simp -zeta only [bin_eql_ptr_nil UpS, ifB_false]
    refine h.ask (fun _ own _ => next_g (storeD.read (own (i := 0) rfl))) fun w5 h => ?_
    have e1 : sm3.next = 3 := by decide +kernel
    rw [e1]
    simp -zeta only [bin_eql, decide_true, ifB_true]
    refine h.act 0 rfl (fun B2 own base2 => drop_d 2 (by decide +kernel)) fun u e' τ w6 hp h => ?_
    obtain ⟨rfl, rfl, rfl⟩ := hp
    have e2 : placeS sm3 2 = 2 := by decide +kernel
    rw [e2] at h ⊢
    simp -zeta only [bin_eql]
    have e2' : decide (((2 : Nat) : Int) = 2) = true := by decide
    simp -zeta only [e2', ifB_true]
    refine h.ask (fun _ own _ => first_g (storeD.read (own (i := 0) rfl))) fun w7 h => ?_
    have e3 : (cutS sm3 2).first = 2 := by decide +kernel
    rw [e3]
    simp -zeta only [bin_eql, decide_true, ifB_true]
    refine h.ask (fun _ own _ => horizon_g (storeD.read (own (i := 0) rfl))) fun w8 h => ?_
    have e4 : (cutS sm3 2).horizon = 10 := by decide +kernel
    rw [e4]
    simp -zeta only [bin_eql, decide_true, ifB_true]
    refine h.make (fun _ own _ => from_m (storeD.read (own (i := 0) rfl)) 0) fun u1 τ w9 hp h => ?_
    obtain ⟨L1, hL1, rfl⟩ := hp
    refine h.make (fun _ own _ => slice_m (storeD.read (own (i := 0) (by rfl))) 0 9) fun u2 τ w10 hp h => ?_
    obtain ⟨L2, hL2, rfl⟩ := hp
    have e5 : fromS (cutS sm3 2) 0 = [smallE 2 7] := by decide +kernel
    have e6 : sliceS (cutS sm3 2) 0 9 = [smallE 2 7] := by decide +kernel
    rw [e5] at hL1
    rw [e6] at hL2
    have hl1 : (raws L1).length = 1 := by rw [raws_len hL1]; rfl
    have hl2 : (raws L2).length = 1 := by rw [raws_len hL2]; rfl
    obtain ⟨x1, rfl⟩ : ∃ x1, L1 = [x1] := List.length_eq_one_iff.1 (by simpa [raws] using hl1)
    obtain ⟨x2, rfl⟩ : ∃ x2, L2 = [x2] := List.length_eq_one_iff.1 (by simpa [raws] using hl2)
    obtain ⟨y1, v1⟩ := x1
    obtain ⟨y2, v2⟩ := x2
    simp only [evs, List.map_cons, List.map_nil, List.cons.injEq, and_true] at hL1 hL2
    subst hL1 hL2
    have r1 := rowD.read (h.here (i := 3) rfl)
    have r2 := rowD.read (h.here (i := 5) rfl)
    obtain ⟨g1, o1, hx1, hc1⟩ := rowR.idx r1 sl_s_api_Event (P := Tryz.prog) (i := 0) (by simp [raws])
    obtain ⟨g2, o2, hx2, hc2⟩ := rowR.idx r2 sl_s_api_Event (P := Tryz.prog) (i := 0) (by simp [raws])
    have hx1 : ∀ {Kp : Value → Prop}, pureK Tryz.prog (sIdxAddr T_s_api_Event u1 (.int .i64 0)) Kp = Kp _ := hx1
    have hx2 : ∀ {Kp : Value → Prop}, pureK Tryz.prog (sIdxAddr T_s_api_Event u2 (.int .i64 0)) Kp = Kp _ := hx2
    have hc1 : cellsR g1 o1 ((smallE 2 7).raw v1).cs ⟨w10, fun _ => True⟩ := hc1
    have hc2 : cellsR g2 o2 ((smallE 2 7).raw v2).cs ⟨w10, fun _ => True⟩ := hc2
    simp -zeta only [rowR.len r1 sl_s_api_Event, rowR.len r2 sl_s_api_Event, hl1, hl2, bin_eql]
    have e7 : decide (((1 : Nat) : Int) = 1) = true := by decide
    have e8 : decide (((smallE 2 7).raw v1).pos_ = 2) = true := rfl
    have e9 : decide (((smallE 2 7).raw v2).time = 7) = true := rfl
    simp -zeta only [e7, ifB_true, hx1, hx2, field_addr f_api_Event_1, field_addr f_api_Event_4, cellsR.ld hc1 sc_int (j := 1) rfl, cellsR.ld hc2 sc_int (j := 4) rfl, bin_eql, e8, e9]
    refine h.act 2 rfl (fun B2 own base2 => trim_d 8 (by decide +kernel)) fun u e' τ w11 hp h => ?_
    obtain ⟨rfl, rfl, rfl⟩ := hp
    have q1 : trimN sm3 8 = 1 := by decide +kernel
    rw [q1] at h ⊢
    simp -zeta only [bin_eql, e7, ifB_true]
    refine h.ask (fun _ own _ => horizon_g (storeD.read (own (i := 2) rfl))) fun w12 h => ?_
    have q2 : (cutS sm3 1).horizon = 6 := by decide +kernel
    rw [q2]
    simp -zeta only [bin_eql, decide_true, ifB_true]
    refine h.ask (fun _ own _ => part_g (storeD.read (own (i := 2) rfl))) fun w13 h => ?_
    have q3 : (cutS sm3 1).part = 2 := by decide +kernel
    rw [q3]
    simp -zeta only [bin_eql, decide_true]
    exact k _ _ h
end Go.Proofs.YtmllhipiahlihaaGreatDoor
