/-
  Chapter 45's small, and TimelineSame. No condition.
-/
import Derived.Test.YtmpnniicmmekmaaTimeD
namespace Go.Proofs.Ytmpnniicmmekmaa
open Go.RowKit

def e1 : List Seg := [⟨0, 1⟩]
def eA : List Seg := [⟨0, 1⟩, ⟨50, 2⟩]
def eB : List Seg := [⟨0, 1⟩, ⟨20, 3⟩]
def eC : List Seg := [⟨0, 1⟩, ⟨50, 2⟩, ⟨80, 1⟩]
theorem rA : replT e1 50 2 = (eA, 0) := by decide +kernel
theorem rB : replT eA 20 3 = (eB, 0) := by decide +kernel
theorem rC : replT eA 80 1 = (eC, 0) := by decide +kernel
theorem iA : TInv eA := by
  have := ((begun_inv (v := 1) (by decide)).repl (fr := 50) (ver := 2) (by decide) (by decide)).1
  rw [show replT [⟨0, 1⟩] 50 2 = (eA, 0) from rA] at this
  exact this
theorem iC : TInv eC := by
  have := (iA.repl (fr := 80) (ver := 1) (by decide) (by decide)).1
  rw [rC] at this
  exact this
theorem oC60 : openS eC 60 = [1, 2] := by
  unfold openS
  rw [show max (behindS eC (min 60 1099511627776 + 1)) 1 - 1 = 1 by decide +kernel]
  unfold versS sortI eC
  simp [Lib.compact, Lib.compactUpTo, List.range, List.range.loop, Lib.keeps, List.mergeSort, List.MergeSort.Internal.splitInTwo, List.merge]
theorem oC79 : openS eC 79 = [1] := by
  unfold openS
  rw [show max (behindS eC (min 79 1099511627776 + 1)) 1 - 1 = 2 by decide +kernel]
  exact versS_one ⟨80, 1⟩
theorem aC79 : atS eC 79 = 2 := by decide +kernel

theorem small_r {B : Base} {w : World} {σ : List Dat} {K : Value → World → Prop} (h : Rel B w σ) (k : ∀ w', Rel B w' σ → K (.bool true) w') : upK Try.prog (sCall F_erratalaw45_small #[]) w K := by
  obtain ⟨B', h', back, _, _⟩ := h.frz
  replace k : ∀ w' τ, Rel B' w' τ → K (.bool true) w' := fun w' τ h => k w' (by have := back w' _ h; exact this.drop)
  clear back h
  have h := h'
  clear h'
  refine erratalaw45_small.up (erratalaw45_small.call ?_)
  unfold erratalaw45_small.pt
  refine h.make (fun B2 own base2 => begun_m 1) fun u0 τ w1 hp h => ?_
  subst hp
  have h : Rel B' w1 [rowD T_api_Seg u0 e1] := h
  refine h.make (fun B2 own base2 => Replace_m (rowD.read (own (i := 0) rfl)) (begun_inv (v := 1) (by decide)).sorted (by decide) 50 2) fun u τ w2 hp h => ?_
  obtain ⟨u1, rfl, rfl⟩ := hp
  rw [rA] at h ⊢
  simp -zeta only [ext_2_0, ext_2_1, bin_neq, decide_true, Bool.not_true, ifB_false]
  refine h.ask (fun B2 own base2 => Right_g (t := eA) (rowD.read (own (i := 1) rfl)) (by decide)) fun w3 h => ?_
  rw [rightT_yes iA]
  simp -zeta only [un_not, Bool.not_true, ifB_false]
  refine h.make (fun B2 own base2 => Replace_m (t := eA) (rowD.read (own (i := 1) rfl)) iA.sorted (by decide) 20 3) fun u τ w4 hp h => ?_
  obtain ⟨u2, rfl, rfl⟩ := hp
  rw [rB] at h ⊢
  simp -zeta only [ext_2_0, ext_2_1]
  refine h.make (fun B2 own base2 => Replace_m (t := eA) (rowD.read (own (i := 1) rfl)) iA.sorted (by decide) 80 1) fun u τ w5 hp h => ?_
  obtain ⟨u3, rfl, rfl⟩ := hp
  rw [rC] at h ⊢
  simp -zeta only [ext_2_0, ext_2_1, bin_neq, decide_true, Bool.not_true, ifB_false]
  refine h.ask (fun B2 own base2 => Right_g (t := eC) (rowD.read (own (i := 3) rfl)) (by decide)) fun w6 h => ?_
  rw [rightT_yes iC]
  simp -zeta only [un_not, Bool.not_true, ifB_false, bd_api_Seg_0_1]
  refine h.buildN (α := Seg) eB sl_s_api_Seg fun u4 w7 h => ?_
  refine h.ask (fun B2 own base2 => Same_g (a := eB) (b := eB) (rowD.read (own (i := 2) rfl)) (rowD.read (own (i := 4) rfl)) (by decide)) fun w8 h => ?_
  rw [decide_eq_true rfl]
  simp -zeta only [ifB_true, bd_api_Seg_0_1]
  refine h.buildN (α := Seg) eC sl_s_api_Seg fun u5 w9 h => ?_
  refine h.ask (fun B2 own base2 => Same_g (a := eC) (b := eC) (rowD.read (own (i := 3) rfl)) (rowD.read (own (i := 5) rfl)) (by decide)) fun w10 h => ?_
  rw [decide_eq_true rfl]
  simp -zeta only [ifB_true]
  refine h.make (fun B2 own base2 => tOpen_m (t := eC) (rowD.read (own (i := 3) rfl)) iC.sorted (by decide) (closed := 60) (by decide)) fun u6 τ w11 hp h => ?_
  subst hp
  rw [oC60] at h
  refine h.buildN (α := Int) [1, 2] sl_s_int fun u7 w12 h => ?_
  refine h.ask (fun B2 own base2 => SameInts_g (a := [1, 2]) (b := [1, 2]) (rowD.read (own (i := 6) rfl)) (rowD.read (own (i := 7) rfl)) (by decide)) fun w13 h => ?_
  rw [decide_eq_true rfl]
  simp -zeta only [ifB_true]
  refine h.make (fun B2 own base2 => tOpen_m (t := eC) (rowD.read (own (i := 3) rfl)) iC.sorted (by decide) (closed := 79) (by decide)) fun u8 τ w14 hp h => ?_
  subst hp
  rw [oC79] at h
  refine h.build1 (α := Int) 1 sl_s_int (by decide) fun u9 w15 h => ?_
  refine h.ask (fun B2 own base2 => SameInts_g (a := [1]) (b := [1]) (rowD.read (own (i := 8) rfl)) (rowD.read (own (i := 9) rfl)) (by decide)) fun w16 h => ?_
  rw [decide_eq_true rfl]
  simp -zeta only [ifB_true]
  refine h.ask (fun B2 own base2 => At_g (t := eC) (rowD.read (own (i := 3) rfl)) iC.sorted iC.some_ (by decide) 79) fun w17 h => ?_
  rw [aC79]
  simp -zeta only [bin_eql, decide_true]
  exact k _ _ h

theorem timelineSame_pt {W : World} {v0 v1 : Value} {a b : List Seg} (ra : rowR v0 a (lawB W)) (rb : rowR v1 b (lawB W)) {K : Value → World → Prop}
    (fin : ∀ w' σ, Rel (lawB W) w' σ → K (.bool true) w') : erratalaw45_TimelineSame.pt v0 v1 W K := by
  unfold erratalaw45_TimelineSame.pt
  refine small_r (lawB.start W) fun w1 h => ?_
  simp -zeta only [rowR.len ra sl_s_api_Seg, rowR.len rb sl_s_api_Seg, bin_gtr, ifB_dec]
  refine ⟨fun _ => fin _ _ h, fun hla => ⟨fun _ => fin _ _ h, fun hlb => ?_⟩⟩
  refine h.ask (fun B2 own base2 => Right_g (base2 ra) (by omega)) fun w2 h => ?_
  rw [un_not, ifB_not, ifB_bool]
  refine ⟨fun hra => ?_, fun _ => fin _ _ h⟩
  refine h.ask (fun B2 own base2 => Right_g (base2 rb) (by omega)) fun w3 h => ?_
  rw [un_not, ifB_not, ifB_bool]
  refine ⟨fun hrb => ?_, fun _ => fin _ _ h⟩
  rw [rightT_true] at hra hrb
  refine LOOP_intro (fun x w' => ∃ (i : Nat) (c : Bool), i ≤ a.length ∧ x = (.bool c, .int .i64 i, ()) ∧ (c = true ↔ ∀ q (hq : q < a.length), q < i → atS b a[q].from_ = a[q].version) ∧ Rel (lawB W) w' []) (fun x _ => a.length - (match x.2.1 with | .int _ n => n.toNat | _ => 0))
    ⟨0, true, Nat.zero_le _, rfl, ⟨fun _ q _ hq => absurd hq (Nat.not_lt_zero q), fun _ => rfl⟩, h⟩ ?_
  clear h
  rintro x w4 ⟨i, c, hi, rfl, hc, h⟩ next hnext
  simp -zeta only [rowR.len ra sl_s_api_Seg, bin_lss, ifB_dec]
  refine ⟨fun hlt => ?_, fun hge => ?_⟩
  · have hil : i < a.length := by omega
    refine LETJ_intro fun J hJ => ?_
    replace hJ : ∀ (c' : Bool) w', (c' = true ↔ c = true ∧ atS b a[i].from_ = a[i].version) → Rel (lawB W) w' [] → J (.bool c', ()) w' := by
      intro c' w' hc' h
      refine hJ _ _ ?_
      rw [bin_add, wrap_id (by omega) (by omega)]
      refine hnext _ _ ⟨i + 1, c', by omega, rfl, ?_, h⟩ (by simp only; omega)
      rw [hc', hc]
      refine ⟨fun hh q hq hqi => ?_, fun hh => ⟨fun q hq hqi => hh q hq (by omega), hh i hil (by omega)⟩⟩
      by_cases e : q = i
      · subst e; exact hh.2
      · exact hh.1 q hq (by omega)
    have h := h.tick
    rw [ifB_bool]
    refine ⟨fun hct => ?_, fun hcf => hJ false _ ⟨fun e => absurd e (by decide), fun e => absurd e.1 (by rw [hcf]; decide)⟩ h⟩
    obtain ⟨g, o, hx, hcl⟩ := rowR.idx ra sl_s_api_Seg hil
    simp -zeta only [hx, field_addr f_api_Seg_0, field_addr f_api_Seg_1, Nat.add_zero, cellsR.ld0 (h.hereB hcl) sc_int rfl, cellsR.ld (h.hereB hcl) sc_int (j := 1) rfl]
    refine h.ask (fun B2 own base2 => At_g (base2 rb) hrb.sorted hrb.some_ (by omega) a[i].from_) fun w5 h => ?_
    refine ⟨cellsR.is (h.hereB hcl) sc_int rfl, ?_⟩
    simp -zeta only [bin_eql]
    exact hJ _ _ ⟨fun e => ⟨hct, of_decide_eq_true e⟩, fun e => decide_eq_true e.2⟩ h
  clear hnext
  refine LOOP_intro (fun x w' => ∃ (j : Nat) (d : Bool), j ≤ b.length ∧ x = (.bool d, .int .i64 j, ()) ∧ (d = true ↔ c = true ∧ ∀ q (hq : q < b.length), q < j → atS a b[q].from_ = b[q].version) ∧ Rel (lawB W) w' []) (fun x _ => b.length - (match x.2.1 with | .int _ n => n.toNat | _ => 0))
    ⟨0, c, Nat.zero_le _, rfl, ⟨fun e => ⟨e, fun q _ hq => absurd hq (Nat.not_lt_zero q)⟩, fun e => e.1⟩, h⟩ ?_
  clear h
  rintro x w5 ⟨j, d, hj, rfl, hd, h⟩ next hnext
  simp -zeta only [rowR.len rb sl_s_api_Seg, bin_lss, ifB_dec]
  refine ⟨fun hlt => ?_, fun hge2 => ?_⟩
  · have hjl : j < b.length := by omega
    refine LETJ_intro fun J hJ => ?_
    replace hJ : ∀ (d' : Bool) w', (d' = true ↔ d = true ∧ atS a b[j].from_ = b[j].version) → Rel (lawB W) w' [] → J (.bool d', ()) w' := by
      intro d' w' hd' h
      refine hJ _ _ ?_
      rw [bin_add, wrap_id (by omega) (by omega)]
      refine hnext _ _ ⟨j + 1, d', by omega, rfl, ?_, h⟩ (by simp only; omega)
      rw [hd', hd]
      refine ⟨fun hh => ⟨hh.1.1, fun q hq hqi => ?_⟩, fun hh => ⟨⟨hh.1, fun q hq hqi => hh.2 q hq (by omega)⟩, hh.2 j hjl (by omega)⟩⟩
      by_cases e : q = j
      · subst e; exact hh.2
      · exact hh.1.2 q hq (by omega)
    have h := h.tick
    rw [ifB_bool]
    refine ⟨fun hct => ?_, fun hcf => hJ false _ ⟨fun e => absurd e (by decide), fun e => absurd e.1 (by rw [hcf]; decide)⟩ h⟩
    obtain ⟨g, o, hx, hcl⟩ := rowR.idx rb sl_s_api_Seg hjl
    simp -zeta only [hx, field_addr f_api_Seg_0, field_addr f_api_Seg_1, Nat.add_zero, cellsR.ld0 (h.hereB hcl) sc_int rfl, cellsR.ld (h.hereB hcl) sc_int (j := 1) rfl]
    refine h.ask (fun B2 own base2 => At_g (base2 ra) hra.sorted hra.some_ (by omega) b[j].from_) fun w6 h => ?_
    refine ⟨cellsR.is (h.hereB hcl) sc_int rfl, ?_⟩
    simp -zeta only [bin_eql]
    exact hJ _ _ ⟨fun e => ⟨hct, of_decide_eq_true e⟩, fun e => decide_eq_true e.2⟩ h
  clear hnext
  have hiff : a = b ↔ d = true := by
    rw [hd, hc]
    constructor
    · rintro rfl
      exact ⟨fun q hq _ => at_self hra.sorted hq, fun q hq _ => at_self hra.sorted hq⟩
    · rintro ⟨h1, h2⟩
      exact same_of hra hrb (fun q hq => h1 q hq (by omega)) fun q hq => h2 q hq (by omega)
  simp -zeta only [ifB_true]
  refine h.ask (fun B2 own base2 => Same_g (base2 ra) (base2 rb) (by omega)) fun w6 h => ?_
  rw [bin_eql_bool U_bool]
  have e : (decide (a = b) == d) = true := by
    cases hdd : d with
    | true => rw [decide_eq_true (hiff.2 hdd)]; rfl
    | false => rw [decide_eq_false fun e => by rw [hiff.1 e] at hdd; cases hdd]; rfl
  rw [e]
  exact fin _ _ h
end Go.Proofs.Ytmpnniicmmekmaa
