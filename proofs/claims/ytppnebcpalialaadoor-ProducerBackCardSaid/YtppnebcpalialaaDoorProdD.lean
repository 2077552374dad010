/-
  slices.Insert of one element where there is no room; slices.BinarySearchFunc. No condition.
-/
import Derived.Test.YtppnebcpalialaaDoorProdC
namespace Go.Proofs.YtppnebcpalialaaDoor
open Go.RowKit
set_option maxRecDepth 100000

section
variable {B : Base} {w : World}
theorem insert_m {l : List PrD} {x : PrD} {v2 : Value} {g r : Nat} (rd : rowR (.slice (some ⟨g, 0, none⟩) l.length l.length) l B) (rd2 : rowR v2 [x] B) (hr : r ≤ l.length) (hl : l.length ≤ 1000000) :
    Makes Tryd.prog B (sCall F_slices_Insert_s_api_Producer_api_Producer #[.slice (some ⟨g, 0, none⟩) l.length l.length, .int .i64 r, v2]) fun u τ => τ = [rowD T_api_Producer u (l.take r ++ x :: l.drop r)] := by
  refine Makes.intro fun B' w K base h k => ?_
  replace rd := base rd
  replace rd2 := base rd2
  refine slices_Insert_s_api_Producer_api_Producer.up (slices_Insert_s_api_Producer_api_Producer.call ?_)
  unfold slices_Insert_s_api_Producer_api_Producer.pt
  have hw1 : IntKind.i64.wrap ((l.length : Int) + ((1 : Nat) : Int)) = ((l.length + 1 : Nat) : Int) := by rw [wrap_id (by omega) (by omega)]; omega
  rw [rowR.cutE rd sl_s_api_Producer (lo := r) (hi := l.length) Bnd.some Bnd.none hr (Nat.le_refl _)]
  simp -zeta only [rowR.len rd2 sl_s_api_Producer, rowR.len rd sl_s_api_Producer, List.length_cons, List.length_nil, Nat.zero_add, bin_eql, ifB_dec]
  refine ⟨fun e => absurd e (by omega), fun _ => ⟨fun e => ?_, fun e => ?_⟩⟩
  · have e : r = l.length := by omega
    subst e
    refine h.grow (l := l) (l2 := [x]) sl_s_api_Producer rfl (Rd.base rd) (Rd.base rd2) (by simp) (by simp; omega) (by simp; omega) fun u w1 h => ?_
    refine k _ _ _ ?_ h
    rw [List.take_length, List.drop_length]
    rfl
  · have hlt : r < l.length := by omega
    simp -zeta only [bin_add, hw1, cap_slice U_s_api_Producer, bin_gtr, ifB_dec]
    refine ⟨fun _ => ?_, fun hh => absurd (by omega) hh⟩
    have hw2 : IntKind.i64.wrap (((l.length + 1 : Nat) : Int) - (r : Int)) = ((l.length + 1 - r : Nat) : Int) := by rw [wrap_id (by omega) (by omega)]; omega
    have hw3 : IntKind.i64.wrap ((r : Int) + ((1 : Nat) : Int)) = ((r + 1 : Nat) : Int) := by rw [wrap_id (by omega) (by omega)]; omega
    rw [rowR.cutE rd sl_s_api_Producer (lo := 0) (hi := r) Bnd.none Bnd.some (Nat.zero_le _) hr]
    simp -zeta only [bin_sub, hw2, hw3]
    have rd0 : rowR (cutV (Enc.sz PrD) (.slice (some ⟨g, 0, none⟩) l.length l.length) 0 r) (l.take r) B' := by
      have := rowR.cutR rd (lo := 0) (hi := r) (Nat.zero_le _) hr
      rw [List.drop_zero] at this
      exact this
    have hcv : cutV (Enc.sz PrD) (.slice (some ⟨g, 0, none⟩) l.length l.length) 0 r = .slice (if l.length = 0 then (some ⟨g, 0, none⟩ : Option Addr) else (some (⟨g, 0, none⟩ : Addr)).map (·.add (0 * Enc.sz PrD))) (l.take r).length l.length := by
      have : (l.take r).length = r := by rw [List.length_take]; omega
      rw [this]
      rfl
    have htr : (l.take r).length = r := by rw [List.length_take]; omega
    refine h.appendZeros (l := l.take r) sl_s_api_Producer U_int hcv (Rd.base rd0) (⟨0, 0, 0, nilSV⟩ : PrD) (by kernel_rfl) (m := l.length + 1 - r) (by omega) (by omega) (by omega) (by omega) fun g2 cp w2 hcp h => ?_
    have hn : (l.take r).length + (l.length + 1 - r) = l.length + 1 := by omega
    rw [hn] at h hcp ⊢
    generalize hl0 : l.take r ++ List.replicate (l.length + 1 - r) (⟨0, 0, 0, nilSV⟩ : PrD) = l0 at h
    have hl0n : l0.length = l.length + 1 := by rw [← hl0, List.length_append, List.length_replicate]; omega
    have hr2 := rowD.read (h.here (i := 0) rfl)
    rw [← hl0n] at hr2
    have cut2 : ∀ (lo : Nat) (lov : Option Value), Bnd lov 0 lo → lo < l.length + 1 → ∀ {Kp : Value → Prop}, pureK Tryd.prog (sSlice T_s_api_Producer (.slice (some ⟨g2, 0, none⟩) (l.length + 1) cp) lov none none) Kp = Kp (.slice (some ⟨g2, lo * Enc.sz PrD, none⟩) (l.length + 1 - lo) (cp - lo)) := by
      intro lo lov hb hlo Kp
      rw [pureK_eq fun w => slice_run (α := PrD) (lo := lo) (hi := l.length + 1) sl_s_api_Producer hb Bnd.none (by omega) hcp w]
      rw [if_neg (by omega)]
      simp [addr_add]
    rw [cut2 r _ Bnd.some (by omega)]
    refine h.copyPart 0 (l := l0) (l2 := [x]) (n := l.length + 1) (lo := r) rfl sl_s_api_Producer (Rd.base rd2) (by omega) (.inl rfl) fun w3 h => ?_
    rw [cut2 (r + 1) _ Bnd.some (by omega), rowR.cutE rd sl_s_api_Producer (lo := r) (hi := l.length) Bnd.some Bnd.none hr (Nat.le_refl _)]
    have rd3 : rowR (cutV (Enc.sz PrD) (.slice (some ⟨g, 0, none⟩) l.length l.length) r l.length) (l.drop r) B' := by
      have := rowR.cutR rd (lo := r) (hi := l.length) hr (Nat.le_refl _)
      rw [List.take_length] at this
      exact this
    have e1 : l0.take r ++ [x].take (l0.length - r) ++ l0.drop (r + ([x].take (l0.length - r)).length) = l.take r ++ [x] ++ List.replicate (l.length - r) (⟨0, 0, 0, nilSV⟩ : PrD) := by
      have hx : [x].take (l0.length - r) = [x] := List.take_of_length_le (by simp; omega)
      rw [hx, ← hl0, List.take_append_of_le_length (by omega), List.take_of_length_le (by omega), List.drop_append, List.drop_of_length_le (by simp; omega), List.nil_append, List.drop_replicate]
      congr 2
      simp
      omega
    have h : Rel B' w3 [rowD T_api_Producer (.slice (some ⟨g2, 0, none⟩) (l.length + 1) cp) (l0.take r ++ [x].take (l0.length - r) ++ l0.drop (r + ([x].take (l0.length - r)).length))] := h
    rw [e1] at h
    have hl1 : (l.take r ++ [x] ++ List.replicate (l.length - r) (⟨0, 0, 0, nilSV⟩ : PrD)).length = l.length + 1 := by simp; omega
    have h := h.tick
    refine h.copyPart 0 (l := l.take r ++ [x] ++ List.replicate (l.length - r) (⟨0, 0, 0, nilSV⟩ : PrD)) (l2 := l.drop r) (n := l.length + 1) (lo := r + 1) rfl sl_s_api_Producer (Rd.base rd3) (by omega) (.inl rfl) fun w4 h => ?_
    generalize hY : l.take r ++ [x] ++ List.replicate (l.length - r) (⟨0, 0, 0, nilSV⟩ : PrD) = Y at h hl1
    have hd : (l.drop r).take (Y.length - (r + 1)) = l.drop r := List.take_of_length_le (by rw [hl1, List.length_drop]; omega)
    have a1 : Y.take (r + 1) = l.take r ++ [x] := by
      rw [← hY, List.take_append_of_le_length (by simp; omega), List.take_of_length_le (by simp; omega)]
    have a2 : Y.drop (r + 1 + (l.drop r).length) = [] := List.drop_of_length_le (by rw [hl1, List.length_drop]; omega)
    have h : Rel B' w4 [rowD T_api_Producer (.slice (some ⟨g2, 0, none⟩) (l.length + 1) cp) (Y.take (r + 1) ++ (l.drop r).take (Y.length - (r + 1)) ++ Y.drop (r + 1 + ((l.drop r).take (Y.length - (r + 1))).length))] := h
    rw [hd, a1, a2, List.append_nil, List.append_assoc] at h
    exact k _ _ _ rfl h

theorem with1_g (x : PrD) (id : Int) (h1 : -4611686018427387904 ≤ x.id ∧ x.id ≤ 4611686018427387903) (h2 : -4611686018427387904 ≤ id ∧ id ≤ 4611686018427387903) : Gives Tryd.prog B (sCallV (.func (.func F_producer_with_1) #[] #[]) #[Enc.val x, .int .i64 id]) (.int .i64 (x.id - id)) := by
  refine Gives.intro fun B' w K base h k => ?_
  refine call_v ?_
  refine producer_with_1.up (x0 := x.v) (id1 := .int .i64 id) (producer_with_1.call ?_)
  unfold producer_with_1.pt
  refine h.box fun b2 w1 h => ?_
  have h : Rel B' w1 [cellD b2 T_api_Producer x.cs.toArray] := h
  simp -zeta only [field_addr f_api_Producer_0, Nat.add_zero, h.ld 0 rfl sc_int (o := 0) rfl, bin_sub]
  rw [wrap_id (by omega) (by omega)]
  exact k _ _ h

theorem bs_g {v : Value} {L : PrL} {id : Int} {r : Nat} (rd : rowR v (praws L) B) (hl : L.length ≤ 1000000) (hb : ∀ p ∈ L, 0 ≤ p.1.id ∧ p.1.id ≤ 1099511627776) (hid : 0 ≤ id ∧ id ≤ 1099511627776) (hr : r ≤ L.length)
    (h1 : ∀ i (h : i < L.length), i < r → L[i].1.id < id) (h2 : ∀ i (h : i < L.length), r ≤ i → id ≤ L[i].1.id) {f : Bool} (hf : f = true ↔ ∃ h : r < L.length, L[r].1.id = id) :
    Gives Tryd.prog B (sCall F_slices_BinarySearchFunc_s_api_Producer_api_Producer_int #[v, .int .i64 id, .func (.func F_producer_with_1) #[] #[]]) (.tuple #[.int .i64 r, .bool f]) := by
  refine Gives.intro fun B' w K base h k => ?_
  replace rd := base rd
  have hal : (praws L).length = L.length := List.length_map ..
  have hel : ∀ i (h : i < L.length), (praws L)[i]'(by omega) = L[i].1.raw L[i].2 := fun i h => by simp [praws]
  refine slices_BinarySearchFunc_s_api_Producer_api_Producer_int.up (slices_BinarySearchFunc_s_api_Producer_api_Producer_int.call ?_)
  unfold slices_BinarySearchFunc_s_api_Producer_api_Producer_int.pt
  simp -zeta only [rowR.len rd sl_s_api_Producer]
  rw [hal]
  refine LETJ_intro fun J hJ => ?_
  replace hJ : ∀ w', Rel B' w' [] → J (.int .i64 r, ()) w' := by
    intro w1 h
    refine hJ _ _ ?_
    clear hJ
    dsimp only
    simp -zeta only [bin_lss, ifB_dec]
    refine ⟨fun hlt => ?_, fun hge => ?_⟩
    · have hrl : r < L.length := by omega
      obtain ⟨g, o, hx, hc⟩ := rowR.idx rd sl_s_api_Producer (P := Tryd.prog) (i := r) (by omega)
      rw [hel r hrl] at hc
      have hc : cellsR g o (L[r].1.raw L[r].2).cs B' := hc
      simp -zeta only [hx, cellsR.ldAg (h.hereB hc) ag_api_Producer rfl]
      have hbr := hb L[r] (List.getElem_mem hrl)
      refine h.ask (fun B2 own base2 => with1_g (L[r].1.raw L[r].2) id (by show -4611686018427387904 ≤ L[r].1.id ∧ L[r].1.id ≤ _; omega) (by omega)) fun w2 h => ?_
      rw [bin_eql]
      have : decide (L[r].1.id - id = 0) = f := by
        rw [Bool.eq_iff_iff, decide_eq_true_iff, hf]
        exact ⟨fun e => ⟨hrl, by omega⟩, fun ⟨_, e⟩ => by omega⟩
      have e2 : ((L[r].1.raw L[r].2).id - id = 0) = (L[r].1.id - id = 0) := rfl
      rw [show decide ((L[r].1.raw L[r].2).id - id = 0) = f from this]
      exact k _ _ h
    · have : f = false := by
        cases hfv : f
        · rfl
        · obtain ⟨hlt, _⟩ := hf.1 hfv
          omega
      rw [this] at k
      exact k _ _ h
  refine LOOP_intro (fun x w' => ∃ i j : Nat, i ≤ r ∧ r ≤ j ∧ j ≤ L.length ∧ x = (.int .i64 i, .int .i64 j, ()) ∧ Rel B' w' []) (fun x _ => (match x.2.1 with | .int _ n => n.toNat | _ => 0) - (match x.1 with | .int _ n => n.toNat | _ => 0))
    ⟨0, L.length, Nat.zero_le _, hr, Nat.le_refl _, rfl, h⟩ ?_
  clear h
  rintro x w1 ⟨i, j, hi, hj, hjn, rfl, h⟩ next hnext
  simp -zeta only [bin_lss, ifB_dec]
  refine ⟨fun hlt => ?_, fun hge => ?_⟩
  · simp -zeta only [bin_add]
    rw [wrap_id (by omega) (by omega), conv_int U_int U_uint, IntWalk.u64_in _ ⟨by omega, by omega⟩, bin_shr (by omega)]
    have e2 : ((i : Int) + j).fdiv (2 ^ min (Int.toNat 1) (IntKind.bits .u64)) = (((i + j) / 2 : Nat) : Int) := by
      have : (2 : Int) ^ min (Int.toNat 1) (IntKind.bits .u64) = 2 := by decide
      rw [this, Int.fdiv_eq_ediv_of_nonneg _ (by omega)]
      omega
    rw [e2, conv_int U_uint U_int, wrap_id (by omega) (by omega)]
    have hml : (i + j) / 2 < L.length := by omega
    obtain ⟨g, o, hx, hc⟩ := rowR.idx rd sl_s_api_Producer (P := Tryd.prog) (i := (i + j) / 2) (by omega)
    rw [hel _ hml] at hc
    have hc : cellsR g o (L[(i + j) / 2].1.raw L[(i + j) / 2].2).cs B' := hc
    simp -zeta only [hx, cellsR.ldAg (h.hereB hc) ag_api_Producer rfl]
    have hbr := hb L[(i + j) / 2] (List.getElem_mem hml)
    refine h.ask (fun B2 own base2 => with1_g (L[(i + j) / 2].1.raw L[(i + j) / 2].2) id (by show -4611686018427387904 ≤ L[(i + j) / 2].1.id ∧ L[(i + j) / 2].1.id ≤ _; omega) (by omega)) fun w2 h => ?_
    rw [bin_lss, ifB_dec]
    refine ⟨fun e => ?_, fun e => ?_⟩
    · have e : L[(i + j) / 2].1.id - id < 0 := e
      rw [bin_add, wrap_id (by omega) (by omega)]
      refine hnext _ _ ⟨(i + j) / 2 + 1, j, ?_, hj, hjn, rfl, h⟩ (by simp only; omega)
      refine Nat.lt_of_not_le fun hle => ?_
      have := h2 _ hml hle
      omega
    · have e : ¬ L[(i + j) / 2].1.id - id < 0 := e
      refine hnext _ _ ⟨i, (i + j) / 2, hi, ?_, by omega, rfl, h⟩ (by simp only; omega)
      refine Nat.le_of_not_lt fun hlt2 => ?_
      have := h1 _ hml hlt2
      omega
  · have : i = r := by omega
    subst this
    exact hJ _ h
end
end Go.Proofs.YtppnebcpalialaaDoor
