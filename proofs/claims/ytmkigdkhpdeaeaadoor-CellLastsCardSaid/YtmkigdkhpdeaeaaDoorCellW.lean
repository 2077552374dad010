/-
  CellLasts. No condition.
-/
import Derived.Test.YtmkigdkhpdeaeaaDoorCellT
namespace Go.Proofs.YtmkigdkhpdeaeaaDoor
open Go.RowKit

open Classical in
noncomputable def hasB (x : ByteArray) (ms : List ByteArray) : Bool := decide (x ∈ ms)
theorem hasB_true {x : ByteArray} {ms : List ByteArray} (h : x ∈ ms) : hasB x ms = true := by simp [hasB, h]
theorem hasB_false {x : ByteArray} {ms : List ByteArray} (h : x ∉ ms) : hasB x ms = false := by simp [hasB, h]
section
variable {B : Base} {w : World}
theorem has_g {v : Value} {ms : List ByteArray} {x : ByteArray} (r : rowR v ms B) (hl : ms.length ≤ 1000000) : Gives Tryd.prog B (sCall F_erratalaw05_has #[v, .string x]) (.bool (hasB x ms)) := by
  refine Gives.intro fun B' w K base h k => ?_
  replace r := base r
  refine erratalaw05_has.up (erratalaw05_has.call ?_)
  unfold erratalaw05_has.pt
  refine LOOP_intro (fun y w' => ∃ i : Nat, i ≤ ms.length ∧ y = (.int .i64 i, ()) ∧ (∀ j (hj : j < ms.length), j < i → ms[j] ≠ x) ∧ Rel B' w' []) (fun y _ => ms.length - (match y.1 with | .int _ n => n.toNat | _ => 0))
    ⟨0, Nat.zero_le _, rfl, fun j _ hj => absurd hj (Nat.not_lt_zero j), h⟩ ?_
  clear h
  rintro y w1 ⟨i, hi, rfl, hno, h⟩ next hnext
  simp -zeta only [rowR.len r sl_s_string, bin_lss, ifB_dec]
  refine ⟨fun hlt => ?_, fun hge => ?_⟩
  · have hil : i < ms.length := by omega
    obtain ⟨q, q1, q2⟩ := rowR.at_sc r h sl_s_string hil sc_string (x := .string ms[i]) rfl
    rw [q1, q2, eql_str, ifB_dec]
    refine ⟨fun e => ?_, fun e => ?_⟩
    · rw [hasB_true (show x ∈ ms by rw [← e]; exact List.getElem_mem hil)] at k
      exact k _ _ h
    · rw [bin_add, wrap_id (by omega) (by omega)]
      refine hnext _ _ ⟨i + 1, hil, rfl, fun j hj hji => ?_, h⟩ (by simp only; omega)
      by_cases ej : j = i
      · subst ej; exact e
      · exact hno j hj (by omega)
  · have : x ∉ ms := fun hm => by
      obtain ⟨j, hj, e⟩ := List.getElem_of_mem hm
      exact hno j hj (by omega) e
    rw [hasB_false this] at k
    exact k _ _ h
end
theorem bd_op {Kp : Value → Prop} {x : Int} {a : Option Addr} {n c : Nat} : pureK Tryd.prog (sBuild T_errataref05_Op #[(0, .int .i64 x), (3, .slice a n c)]) Kp = Kp (.agg #[.int .i64 x, .string ⟨#[]⟩, .int .i64 0, .slice a n c]) := pureK_eq fun w => by kernel_rfl
def LOk (ms : List ByteArray) (nn : Bool) (k : Int) (v : ByteArray) : Prop := (k = 0 → nn = true) ∧ (k ≠ 0 → v ∈ ms)

set_option maxRecDepth 10000 in
set_option maxHeartbeats 1000000 in
theorem cellLasts_pt {W : World} (hT : offD (lawB W)) {v0 v1 : Value} {l : List Op5} {keep : List Int} (r0 : rowR v0 l (lawB W)) (hm : l.length ≤ maxLen) (hq : ∀ x ∈ l, okInt W x.kind ∧ okStr W x.s ∧ okInt W x.n ∧ (∃ k : List Int, rowR x.keep.1 k (lawB W) ∧ k.length ≤ maxLen ∧ ∀ y ∈ k, okInt W y))
    (rk : rowR v1 keep (lawB W)) {K : Value → World → Prop} (fin : ∀ w' σ, Rel (lawB W) w' σ → K (.bool true) w') : erratalaw05_CellLasts.pt v0 v1 W K := by
  obtain ⟨L, rfl, qd⟩ := ops_of l fun x hx => (hq x hx).2.2.2.imp fun _ h => h.1
  have r := r0
  clear r0
  have hr : inO L := fun x hx => (hq x.1 (List.mem_map_of_mem hx)).2.2.1.2
  clear hq
  have hal : (opsL L).length = L.length := List.length_map ..
  rw [hal] at hm
  unfold maxLen at hm
  unfold erratalaw05_CellLasts.pt
  refine small_r hT (lawB.start W) fun w1 h => ?_
  refine h.ask (fun B2 own base2 => fewO_g (base2 r) (base2 qd) (by omega)) fun w2 h => ?_
  rw [un_not, ifB_not, ifB_bool]
  refine ⟨fun hf => ?_, fun _ => fin _ _ h⟩
  have hf := fewO_true.1 hf
  have hl := hf.len
  simp -zeta only [rowR.len rk sl_s_int, bin_gtr, ifB_dec]
  refine ⟨fun _ => fin _ _ h, fun hkl => ?_⟩
  refine h.make (fun B2 own base2 => New_m) fun u τ w3 hp h => ?_
  obtain ⟨p, rfl, rfl⟩ := hp
  refine h.make (fun B2 own base2 => open_m (base2 hT) (own (i := 0) rfl) 3) fun u τ w5 hp h => ?_
  rcases hp with ⟨a, st, he, rfl, rfl⟩ | ⟨he, _⟩
  case inr => rw [openS_new 3 (by decide)] at he; cases he
  rw [openS_new 3 (by decide)] at he
  cases he
  have h : Rel (lawB W) w5 [diskD p newS (.slice none 0 0), cellD a T_cell_Cell (ccs p 3 c0S)] := h
  have h := (h.addNil ByteArray T_string).pick [2, 0, 1] (by decide)
  have h : Rel (lawB W) w5 [rowD T_string (.slice none 0 0) ([] : List ByteArray), diskD p newS (.slice none 0 0), cellD a T_cell_Cell (ccs p 3 c0S)] := h
  simp -zeta only [ext_2_0, ext_2_1, bin_neq, decide_true, Bool.not_true, ifB_false, nil_ne, cell_nil]
  obtain ⟨ka, kn, kc, hv1⟩ : ∃ a n c, v1 = .slice a n c := by
    obtain ⟨a, c, e, _⟩ := rowR.form rk
    exact ⟨_, _, _, e⟩
  have hone : v1.oneCell' = true := rowR.oneCell rk
  refine LOOP_intro (fun x w' => ∃ (i a : Nat) (ev mv : Value) (nn : Bool) (ms : List ByteArray) (B : Base) (s : DS) (st : CS) (kd : Value), i ≤ L.length + 1 ∧ x = (ev, mv, .bool nn, ptr a, .int .i64 i, ()) ∧ ms.length ≤ i ∧ (lawB W).ext B ∧ (rowR kd s.keep B ∧ s.keep.length ≤ 100) ∧ Res s 3 st (LOk ms nn) ∧
      Rel B w' [rowD T_string mv ms, diskD p s kd, cellD a T_cell_Cell (ccs p 3 st)]) (fun x _ => L.length + 1 - (match x.2.2.2.2.1 with | .int _ n => n.toNat | _ => 0))
    ⟨0, a, _, _, true, [], lawB W, newS, c0S, _, Nat.zero_le _, rfl, Nat.zero_le _, Base.ext.refl _, ⟨nilrow _, Nat.zero_le _⟩, (res_new 3).mono fun k v hh => ⟨fun _ => rfl, fun e => absurd hh.1 e⟩, h⟩ ?_
  clear h
  rintro x w7 ⟨i, a, ev, mv, nn, ms, B, s, st, kd, hil, rfl, hml, hext, ⟨hkd, hkl2⟩, hres, h⟩ next hnext
  have r' : rowR v0 (opsL L) B := Dat.mono _ hext.le r
  have qd' : keepsO L B := Dat.mono _ hext.le qd
  have hT' : offD B := Dat.mono _ hext.le hT
  have rk' : rowR v1 keep B := Dat.mono _ hext.le rk
  simp -zeta only [rowR.len r' sl_s_errataref05_Op, bin_leq, ifB_dec]
  rw [hal]
  refine ⟨fun hlt => ?_, fun hge => fin _ _ (hext.rel h)⟩
  refine LETJ_intro fun J hJ => ?_
  replace hJ : ∀ (ev mv : Value) (nn : Bool) (a : Nat) (ms : List ByteArray) (B' : Base) (s : DS) (st : CS) (kd : Value) w', ms.length ≤ i + 1 → B.ext B' → (rowR kd s.keep B' ∧ s.keep.length ≤ 100) → Res s 3 st (LOk ms nn) →
      Rel B' w' [rowD T_string mv ms, diskD p s kd, cellD a T_cell_Cell (ccs p 3 st)] → J (ev, mv, .bool nn, ptr a, ()) w' := by
    intro ev mv nn a ms B' s st kd w' h1 h2 h3 h4 h
    refine hJ _ _ ?_
    rw [bin_add, wrap_id (by omega) (by omega)]
    exact hnext _ _ ⟨i + 1, a, ev, mv, nn, ms, B', s, st, kd, by omega, rfl, h1, hext.trans h2, h3, h4, h⟩ (by simp only; omega)
  clear hnext
  subst hv1
  rw [bd_op]
  refine h.allocAg (ds := (⟨3, ⟨#[]⟩, 0, ⟨.slice ka kn kc, hone⟩⟩ : Op5).cs.toArray) z_errataref05_Op rfl ag_errataref05_Op rfl (fun v hv => Enc.one (⟨3, ⟨#[]⟩, 0, ⟨.slice ka kn kc, hone⟩⟩ : Op5) v hv) fun oc w9 h => ?_
  have h := h.pick [3, 0, 1, 2] (by decide)
  have h : Rel B w9 [cellD oc T_errataref05_Op (⟨3, ⟨#[]⟩, 0, ⟨.slice ka kn kc, hone⟩⟩ : Op5).cs.toArray, rowD T_string mv ms, diskD p s kd, cellD a T_cell_Cell (ccs p 3 st)] := h
  refine LETJ_intro fun J2 hJ2 => ?_
  replace hJ2 : ∀ (op : Op5) (kp : List Int) w', rowR op.keep.1 kp B → kp.length ≤ 100 → op.s.size ≤ 400 → op.n ≤ 9223372036854775807 → Rel B w' [cellD oc T_errataref05_Op op.cs.toArray, rowD T_string mv ms, diskD p s kd, cellD a T_cell_Cell (ccs p 3 st)] → J2 () w' := by
    intro op kp w9 hki hkp hs hri h
    refine hJ2 _ _ ?_
    clear hJ2
    simp -zeta only [field_addr f_errataref05_Op_0, field_addr f_errataref05_Op_1, field_addr f_errataref05_Op_2, field_addr f_errataref05_Op_3, Nat.add_zero, Nat.zero_add, h.ld 0 rfl sc_int (o := 0) rfl, h.ld 0 rfl sc_string (o := 1) rfl, h.ld 0 rfl sc_int (o := 2) rfl, h.ld 0 rfl sc_s_int (o := 3) rfl, bin_eql, ifB_dec]
    refine ⟨fun k0 => ?_, fun k0 => ⟨fun k1 => ?_, fun k1 => ⟨fun k2 => ?_, fun k2 => ⟨fun k3 => ?_, fun k3 => ?_⟩⟩⟩⟩
    · -- Set
      have h : Rel B w9 ([cellD oc T_errataref05_Op op.cs.toArray, rowD T_string mv ms] ++ [diskD p s kd, cellD a T_cell_Cell (ccs p 3 st)]) := h
      refine h.act2 (fun B2 own base2 => set_d (base2 hT') (base2 hkd) (by omega)) fun u d1 d2 w10 hp h => ?_
      obtain ⟨rfl, rfl, rfl⟩ := hp
      obtain ⟨hA, hB⟩ := set_inv (by decide) hres op.s (by omega)
      have hks := keep_setS s st 3 op.s
      refine LETJ_intro fun J3 hJ3 => ?_
      replace hJ3 : ∀ (mv : Value) (nn : Bool) (ms : List ByteArray) w', ms.length ≤ i → Res (setS s st 3 op.s).1.1 3 (setS s st 3 op.s).1.2 (LOk (ms ++ [op.s]) nn) →
          Rel B w' [cellD oc T_errataref05_Op op.cs.toArray, rowD T_string mv ms, diskD p (setS s st 3 op.s).1.1 kd, cellD a T_cell_Cell (ccs p 3 (setS s st 3 op.s).1.2)] → J3 (mv, .bool nn, ()) w' := by
        intro mv nn ms w11 hml hres h
        refine hJ3 _ _ ?_
        dsimp only
        simp -zeta only [h.ld 0 rfl sc_string (o := 1) rfl]
        refine h.push1 (α := ByteArray) 1 rfl op.s sl_s_string (by decide) (by omega) (by omega) fun mv2 w13 h => ?_
        have h := h.pick [1, 2, 3] (by decide)
        exact hJ _ mv2 nn a (ms ++ [op.s]) B _ _ kd _ (by rw [List.length_append]; show ms.length + 1 ≤ i + 1; omega) (Base.ext.refl _) (by rw [hks]; exact ⟨hkd, hkl2⟩) hres h
      rw [bin_eql, ifB_dec]
      refine ⟨fun z => ?_, fun z => ?_⟩
      · obtain ⟨_, _, hB⟩ := hB z
        have h := (h.addNil ByteArray T_string).pick [0, 4, 2, 3] (by decide)
        exact hJ3 _ false [] _ (Nat.zero_le _) (hB.mono fun k v hh => ⟨fun e => absurd e hh.1, fun _ => by rw [hh.2]; exact List.mem_singleton.2 rfl⟩) h
      · refine hJ3 mv nn ms _ hml (hA.mono fun k v hh => ?_) h
        rcases hh with hh | ⟨h1, h2⟩
        · exact ⟨hh.1, fun e => List.mem_append.2 (.inl (hh.2 e))⟩
        · exact ⟨fun e => absurd e h1, fun _ => List.mem_append.2 (.inr (by rw [h2]; exact List.mem_singleton.2 rfl))⟩
    · -- Lose
      refine h.act 2 rfl (fun B2 own base2 => Lose_d hri) fun u e' τ w15 hp h => ?_
      obtain ⟨rfl, rfl, rfl⟩ := hp
      have h := h.pick [1, 2, 3] (by decide)
      exact hJ _ mv nn a ms B { s with lost := max op.n 0 } st kd _ (by omega) (Base.ext.refl _) ⟨hkd, hkl2⟩ (res_lose hres hri) h
    · -- Arm
      refine h.act 2 rfl (fun B2 own base2 => Arm_d (base2 hki) (by omega) hri) fun u e' τ w17 hp h => ?_
      obtain ⟨rfl, kd2, rfl, rfl⟩ := hp
      obtain ⟨B1, hB1, h, hkd2⟩ := h.frz1
      have h := h.pick [1, 2, 3] (by decide)
      exact hJ _ mv nn a ms B1 { s with armed := max op.n 0, keep := kp } st kd2 _ (by omega) hB1 ⟨rowD.read hkd2, hkp⟩ (res_arm hres hri kp) h
    · -- again
      obtain ⟨k, v, hopen, hok, hcv, hres'⟩ := again_inv (f := 3) (by decide) hres kp
      have hkeep : (againS s kp).keep = s.keep := keep_crash s kp
      refine h.act 2 rfl (fun B2 own base2 => again_d (base2 hT') (base2 hki) (by omega)) fun u e' τ w19 hp h => ?_
      obtain ⟨rfl, hp⟩ := hp
      rcases hp with ⟨a2, st2, he, rfl, rfl⟩ | ⟨he, _⟩
      case inr => rw [hopen] at he; cases he
      rw [hopen] at he
      cases he
      simp -zeta only [ext_2_0, ext_2_1, bin_neq, decide_true, Bool.not_true, ifB_false, cell_nil]
      have h := h.pick [1, 2, 4] (by decide)
      have h : Rel B w19 [rowD T_string mv ms, diskD p (againS s kp) kd, cellD a2 T_cell_Cell (ccs p 3 ⟨k, v, false⟩)] := h
      refine h.ask (fun B2 own base2 => Get_g (own (i := 2) rfl)) fun w20 h => ?_
      simp -zeta only [ext_2_0, ext_2_1]
      have hkr := hcv.kr
      refine LETJ_intro fun J4 hJ4 => ?_
      replace hJ4 : ∀ w', Rel B w' [rowD T_string mv ms, diskD p (againS s kp) kd, cellD a2 T_cell_Cell (ccs p 3 ⟨k, v, false⟩)] → J4 () w' := by
        intro w21 h
        refine hJ4 _ _ ?_
        rw [ifB_dec]
        refine ⟨fun e => ?_, fun e => ?_⟩
        · refine h.build1 (α := ByteArray) v sl_s_string (by decide) fun mv2 w22 h => ?_
          have h := h.pick [3, 1, 2] (by decide)
          exact hJ _ mv2 false a2 [v] B (againS s kp) ⟨k, v, false⟩ kd _ (by show 1 ≤ i + 1; omega) (Base.ext.refl _) (by rw [hkeep]; exact ⟨hkd, hkl2⟩) (hres'.mono fun k' v' hh => ⟨fun z => by have e : 0 < k := e; omega, fun _ => by rw [hh.2]; exact List.mem_singleton.2 rfl⟩) h
        · have hk0 : k = 0 := by have e : ¬ 0 < k := e; omega
          have h := (h.addNil ByteArray T_string).pick [3, 1, 2] (by decide)
          exact hJ _ _ nn a2 [] B (againS s kp) ⟨k, v, false⟩ kd _ (Nat.zero_le _) (Base.ext.refl _) (by rw [hkeep]; exact ⟨hkd, hkl2⟩) (hres'.mono fun k' v' hh => ⟨fun _ => hok.1 hk0, fun z => absurd (hh.1.trans hk0) z⟩) h
      rw [un_not, ifB_not, ifB_dec]
      refine ⟨fun e => ?_, fun e => ?_⟩
      · have e' : 0 < k := e
        rw [decide_eq_true e, ifB_true]
        refine h.ask (fun B2 own base2 => has_g (rowD.read (own (i := 0) rfl)) (by omega)) fun w21 h => ?_
        rw [hasB_true (hok.2 (by omega)), un_not, Bool.not_true, ifB_false]
        exact hJ4 _ h
      · have hk0 : k = 0 := by have e : ¬ 0 < k := e; omega
        rw [hok.1 hk0, un_not, Bool.not_true, ifB_false, decide_eq_false e, ifB_false]
        exact hJ4 _ h
    · have h := h.pick [1, 2, 3] (by decide)
      exact hJ _ mv nn a ms B s st kd _ (by omega) (Base.ext.refl _) ⟨hkd, hkl2⟩ hres h
  clear hJ
  simp -zeta only [bin_lss, ifB_dec]
  refine ⟨fun hlt2 => ?_, fun _ => hJ2 _ keep _ rk' (by omega) (by show (0 : Nat) ≤ 400; omega) (by show (0 : Int) ≤ _; omega) h⟩
  have hi : i < L.length := by omega
  obtain ⟨g, o, hx, hc⟩ := rowR.idx r' sl_s_errataref05_Op (P := Tryd.prog) (i := i) (by omega)
  have e1 : (opsL L)[i]'(by omega) = L[i].1 := by simp
  rw [e1] at hc
  have hfi := hf.each _ (List.getElem_mem hi)
  have hri := hr _ (List.getElem_mem hi)
  have hki := qd' L[i] (List.getElem_mem hi)
  generalize L[i] = x at hc hfi hri hki
  obtain ⟨op, kp⟩ := x
  have hc : cellsR g o op.cs B := hc
  simp -zeta only [hx, cellsR.ldAg (h.hereB hc) ag_errataref05_Op rfl]
  refine h.stAll 0 (ds := op.cs.toArray) rfl ag_errataref05_Op rfl rfl (fun v hv => Enc.one op v hv) fun w10 h => ?_
  exact hJ2 op kp _ hki hfi.keep hfi.s hri h
end Go.Proofs.YtmkigdkhpdeaeaaDoor
