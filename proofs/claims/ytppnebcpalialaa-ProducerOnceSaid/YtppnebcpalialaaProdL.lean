/-
  ProducerOnce: the law's walk. No condition.
-/
import Derived.Test.YtppnebcpalialaaProdK
namespace Go.Proofs.Ytppnebcpalialaa
open Go.RowKit

abbrev OpD := D_erratalaw10_Op
theorem and1p (a : Int) : IntKind.wrap .i64 (BitVec.ofInt IntKind.i64.bits a &&& BitVec.ofInt IntKind.i64.bits 1).toNat = a % 2 := and_lo 1 (by omega) a 1 rfl
theorem and63p (a : Int) : IntKind.wrap .i64 (BitVec.ofInt IntKind.i64.bits a &&& BitVec.ofInt IntKind.i64.bits 63).toNat = a % 64 := and_lo 6 (by omega) a 63 rfl
theorem and255p (a : Int) : IntKind.wrap .i64 (BitVec.ofInt IntKind.i64.bits a &&& BitVec.ofInt IntKind.i64.bits 255).toNat = a % 256 := and_lo 8 (by omega) a 255 rfl
theorem right_small {L : PrL} (hR : RightT (prs L)) : (∀ p ∈ L, p.1.last.length ≤ 4611686018427387904) ∧ L.length ≤ 4611686018427387904 := by
  have e : (prs L).length = L.length := List.length_map ..
  have := hR.len
  exact ⟨fun x hx => by have := (hR.fine x.1 (List.mem_map_of_mem hx)).len; omega, by omega⟩
theorem selK_take {all : List Kp} {k : Nat} (hk : k < all.length) (id e : Int) : selK (all.take (k + 1)) id e = selK (all.take k) id e ++ if isK id e all[k] = true then [all[k]] else [] := by
  rw [List.take_succ_eq_append_getElem hk, selK_append]
  congr 1
  unfold selK
  by_cases c : isK id e all[k] = true
  · rw [if_pos c, List.filter_cons_of_pos c]; rfl
  · rw [if_neg c, List.filter_cons_of_neg c]; rfl

/-- The state of the inner loop. -/
def FoundI (all : List Kp) (id e q : Int) (k : Nat) (fd : Int) : Prop :=
  (fd = -1 ∧ ∀ m ∈ selK (all.take k) id e, m.seq ≠ q) ∨ ∃ f : Nat, fd = f ∧ ∃ hf : f < all.length, isK id e all[f] = true ∧ all[f].seq = q

set_option maxHeartbeats 2000000 in
set_option maxRecDepth 10000 in
theorem producerOnce_pt {W : World} {v : Value} {l : List OpD} (r : rowR v l (lawB W))
    {K : Value → World → Prop} (fin : ∀ w' σ, Rel (lawB W) w' σ → K (.bool true) w') : erratalaw10_ProducerOnce.pt v W K := by
  unfold erratalaw10_ProducerOnce.pt
  have h := lawB.start W
  refine small_r h fun w1 h => ?_
  simp -zeta only [rowR.len r sl_s_erratalaw10_Op, bin_gtr, ifB_dec]
  refine ⟨fun _ => fin _ _ h, fun h200 => ?_⟩
  refine h.mkSliceV (n := 64) (0 : Int) sl_s_int (by kernel_rfl) (by omega) (by omega) fun g w2 h => ?_
  have h := h.addNil Kp T_erratalaw10_kept
  refine LOOP_intro (fun x w' => ∃ (i : Nat) (B' : Base) (L : PrL) (sv av : Value) (all : List Kp) (ep : List Int) (pos : Int), i ≤ l.length ∧ x = (sv, .int .i64 pos, av, .int .i64 i, ()) ∧ (lawB W).ext B' ∧ rowR sv (praws L) B' ∧ prows L B' ∧ OnceI (prs L) all ep pos i ∧
      Rel B' w' [rowD T_int (.slice (some ⟨g, 0, none⟩) 64 64) ep, rowD T_erratalaw10_kept av all]) (fun x _ => l.length - (match x.2.2.2.1 with | .int _ n => n.toNat | _ => 0))
    ⟨0, lawB W, [], .slice none 0 0, .slice none 0 0, [], List.replicate 64 0, -1, Nat.zero_le _, rfl, Base.ext.refl _, nilT _, nilQ _, once_start, h⟩ ?_
  clear h
  rintro x w3 ⟨i, B', L, sv, av, all, ep, pos, hi, rfl, he, rs, qs, hI, h⟩ next hnext
  have r' : rowR v l B' := Dat.mono _ he.le r
  simp -zeta only [rowR.len r' sl_s_erratalaw10_Op, bin_lss, ifB_dec]
  refine ⟨fun hlt => ?_, fun hge => fin _ _ (he.rel h)⟩
  have hil : i < l.length := by omega
  have hR := hI.right
  have hep := hI.eplen
  have hlo := hI.lo
  have hhi := hI.hi
  have hcnt := hI.cnt
  refine LETJ_intro fun J1 hJ1 => ?_
  replace hJ1 : ∀ (B2 : Base) (L2 : PrL) (sv2 av2 : Value) (all2 : List Kp) (ep2 : List Int) (pos2 : Int), B'.ext B2 → rowR sv2 (praws L2) B2 → prows L2 B2 → OnceI (prs L2) all2 ep2 pos2 (i + 1) →
      ∀ w' τ, Rel B2 w' ([rowD T_int (.slice (some ⟨g, 0, none⟩) 64 64) ep2, rowD T_erratalaw10_kept av2 all2] ++ τ) → J1 (sv2, .int .i64 pos2, av2, ()) w' := by
    intro B2 L2 sv2 av2 all2 ep2 pos2 e2 r2 q2 hI2 w' τ h2
    refine hJ1 _ _ ?_
    rw [bin_add, wrap_id (by omega) (by omega)]
    exact hnext _ _ ⟨i + 1, B2, L2, sv2, av2, all2, ep2, pos2, hil, rfl, he.trans e2, r2, q2, hI2, h2.drop⟩ (by simp only; omega)
  clear hnext
  obtain ⟨go, oo, hx, hc⟩ := rowR.idx r' sl_s_erratalaw10_Op (P := Try.prog) hil
  have hc : cellsR go oo l[i].cs B' := hc
  generalize l[i] = x at hc
  rw [hx, cellsR.ldAg (h.hereB hc) ag_erratalaw10_Op rfl]
  refine h.allocAg (ds := x.cs.toArray) z_erratalaw10_Op rfl ag_erratalaw10_Op rfl (fun v hv => Enc.one x v hv) fun xa w6 h => ?_
  have h : Rel B' w6 [rowD T_int (.slice (some ⟨g, 0, none⟩) 64 64) ep, rowD T_erratalaw10_kept av all, cellD xa T_erratalaw10_Op x.cs.toArray] := h
  obtain ⟨id, hid, hidl⟩ : ∃ id : Nat, x.id % 64 = id ∧ id < ep.length := ⟨(x.id % 64).toNat, by omega, by omega⟩
  simp -zeta only [field_addr f_erratalaw10_Op_0, field_addr f_erratalaw10_Op_1, field_addr f_erratalaw10_Op_2, field_addr f_erratalaw10_Op_3, field_addr f_erratalaw10_Op_4, Nat.add_zero, Nat.zero_add, h.ld 2 rfl sc_int (o := 0) rfl, h.ld 2 rfl sc_int (o := 1) rfl, bin_and, and1p, and63p, hid, bin_eql, ifB_dec]
  have hidx : ∀ {Kp : Value → Prop}, pureK Try.prog (sIdxAddr T_s_int (.slice (some ⟨g, 0, none⟩) 64 64) (.int .i64 id)) Kp = Kp (.pointer (some ⟨g, id * Enc.sz Int, none⟩)) := fun {Kp} => idx_own (α := Int) sl_s_int (by omega)
  have hepv := hI.epoch id hidl
  have hsm := getP_small hR (id := (id : Int))
  refine ⟨fun _ => ?_, fun _ => ?_⟩
  · refine h.make (fun B2 own base2 => Fence_m (base2 rs) (base2 qs) hR id) fun u τ w7 hp h => ?_
    obtain ⟨tv, rfl, hp⟩ := hp
    obtain ⟨B2, L2, e2, h, hs2, r2, q2⟩ := hp _ _ _ h
    simp -zeta only [ext_3_0, ext_3_1, ext_3_2]
    refine LETJ_intro fun J2 hJ2 => ?_
    replace hJ2 : J2 () w7 := by
      refine hJ2 _ _ ?_
      simp -zeta only [bin_eql, ifB_dec]
      refine ⟨fun hz => ?_, fun _ => ?_⟩
      · obtain ⟨f1, f2⟩ := once_fence hI hidl hz
        rw [← hs2] at f2
        rw [hidx]
        refine h.set_sc 0 (j := id) (f := 0) rfl (fenceS (prs L) id).2.1 hidl rfl (by decide) rfl sc_int rfl fun w9 h => ?_
        exact hJ1 B2 L2 _ _ _ _ _ e2 r2 q2 f2 _ _ h
      · exact hJ1 B2 L _ _ _ _ _ e2 (Dat.mono _ e2.le rs) (Dat.mono _ e2.le qs) hI.more _ _ h
    simp -zeta only [bin_eql, ifB_dec]
    refine ⟨fun hz => ?_, fun _ => hJ2⟩
    obtain ⟨f1, f2⟩ := once_fence hI hidl hz
    have hel := h.elem (i := 0) rfl hidl
    have hel : (cellsR g (id * Enc.sz Int) [.int .i64 ep[id]]).here w7 := hel
    simp -zeta only [hidx, cellsR.ld0 hel sc_int rfl, bin_add]
    have hw : ∀ e0 : Int, (getP (prs L) id).epoch = e0 → IntKind.i64.wrap (e0 + 1) = e0 + 1 := fun e0 he0 => by
      obtain ⟨s1, s2, _⟩ := hsm
      rw [he0] at s1 s2
      clear hI hcnt hhi hlo f1 f2 hz
      exact wrap_id (by omega) (by omega)
    rw [hw _ hepv, bin_neq, f1, decide_eq_true rfl, Bool.not_true, ifB_false]
    exact hJ2
  simp -zeta only [h.ld 2 rfl sc_int (o := 2) rfl, h.ld 2 rfl sc_int (o := 3) rfl]
  refine h.ask (fun B2 own base2 => record_g id x.epoch x.seq) fun w10 h => ?_
  refine h.ask (fun B2 own base2 => Look_g (base2 rs) (base2 qs) hR (ent id x.epoch x.seq)) fun w11 h => ?_
  simp -zeta only [ext_2_0, ext_2_1]
  refine LOOP_intro (fun y w' => ∃ (k : Nat) (fd : Int), k ≤ all.length ∧ y = (.int .i64 (selK (all.take k) id x.epoch).length, .int .i64 fd, .int .i64 k, ()) ∧ FoundI all id x.epoch x.seq k fd ∧
      Rel B' w' [rowD T_int (.slice (some ⟨g, 0, none⟩) 64 64) ep, rowD T_erratalaw10_kept av all, cellD xa T_erratalaw10_Op x.cs.toArray]) (fun x _ => all.length - (match x.2.2.1 with | .int _ n => n.toNat | _ => 0))
    ⟨0, -1, Nat.zero_le _, rfl, .inl ⟨rfl, fun m hm => by cases hm⟩, h⟩ ?_
  clear h
  rintro y w12 ⟨k, fd, hk, rfl, hf, h⟩ next2 hnext2
  have hall : rowR av all ⟨w12, fun _ => True⟩ := rowD.read (h.here (i := 1) rfl)
  simp -zeta only [rowR.len hall sl_s_erratalaw10_kept, bin_lss, ifB_dec]
  refine ⟨fun hlt2 => ?_, fun hge2 => ?_⟩
  · have hkl : k < all.length := by omega
    have hsl : (selK (all.take k) id x.epoch).length ≤ k := Nat.le_trans (List.length_filter_le _ _) (List.length_take_le _ _)
    have hst := selK_take hkl id x.epoch
    refine LETJ_intro fun J3 hJ3 => ?_
    replace hJ3 : ∀ fd', FoundI all id x.epoch x.seq (k + 1) fd' → ∀ w', Rel B' w' [rowD T_int (.slice (some ⟨g, 0, none⟩) 64 64) ep, rowD T_erratalaw10_kept av all, cellD xa T_erratalaw10_Op x.cs.toArray] →
        J3 (.int .i64 (selK (all.take (k + 1)) id x.epoch).length, .int .i64 fd', ()) w' := by
      intro fd' hf' w' h
      refine hJ3 _ _ ?_
      rw [bin_add, wrap_id (by omega) (by omega)]
      exact hnext2 _ _ ⟨k + 1, fd', hkl, rfl, hf', h⟩ (by simp only; omega)
    clear hnext2
    have skip : isK id x.epoch all[k] = false → FoundI all id x.epoch x.seq (k + 1) fd ∧ (selK (all.take (k + 1)) id x.epoch).length = (selK (all.take k) id x.epoch).length := fun hn => by
      rw [hn] at hst
      have hst : selK (all.take (k + 1)) id x.epoch = selK (all.take k) id x.epoch := by rw [hst]; simp
      refine ⟨?_, by rw [hst]⟩
      rcases hf with ⟨h1, h2⟩ | h1
      · exact .inl ⟨h1, by rw [hst]; exact h2⟩
      · exact .inr h1
    obtain ⟨g2, o2, hx2, hc2⟩ := rowR.idx hall sl_s_erratalaw10_kept (P := Try.prog) hkl
    have h' := h.tick
    have hc2' : (cellsR g2 o2 all[k].cs).here (tick w12) := hc2
    have h'' := h'.tick
    have hc2'' : (cellsR g2 o2 all[k].cs).here (tick (tick w12)) := hc2'
    simp -zeta only [hx2, field_addr f_erratalaw10_kept_0, field_addr f_erratalaw10_kept_1, field_addr f_erratalaw10_kept_2, Nat.add_zero, cellsR.ld0 hc2' sc_int rfl, cellsR.ld hc2' sc_int (j := 1) rfl, h'.ld 2 rfl sc_int (o := 2) rfl, bin_eql, ifB_dec]
    refine ⟨fun c1 => ⟨fun c2 => ?_, fun c2 => ?_⟩, fun c1 => ?_⟩
    · have hk1 : isK id x.epoch all[k] = true := isK_true.2 ⟨c1, c2⟩
      rw [if_pos hk1] at hst
      have hsl2 : (selK (all.take (k + 1)) id x.epoch).length = (selK (all.take k) id x.epoch).length + 1 := by rw [hst]; simp
      simp -zeta only [cellsR.ld hc2'' sc_int (j := 2) rfl, h''.ld 2 rfl sc_int (o := 3) rfl, bin_add, bin_eql, ifB_dec]
      have hw : IntKind.i64.wrap (((selK (all.take k) id x.epoch).length : Int) + 1) = ((selK (all.take (k + 1)) id x.epoch).length : Int) := by rw [wrap_id (by omega) (by omega), hsl2]; omega
      rw [hw]
      refine ⟨fun c3 => hJ3 _ (.inr ⟨k, rfl, hkl, hk1, c3⟩) _ h'', fun c3 => hJ3 _ ?_ _ h''⟩
      rcases hf with ⟨h1, h2⟩ | h1
      · refine .inl ⟨h1, fun m hm => ?_⟩
        rw [hst] at hm
        rcases List.mem_append.1 hm with hm | hm
        · exact h2 m hm
        · rw [List.mem_singleton.1 hm]; exact c3
      · exact .inr h1
    · obtain ⟨s1, s2⟩ := skip (by simp [isK, c2])
      rw [← s2]
      exact hJ3 _ s1 _ h'
    · obtain ⟨s1, s2⟩ := skip (by simp [isK, c1])
      rw [← s2]
      exact hJ3 _ s1 _ h'
  clear hnext2
  obtain rfl : k = all.length := by omega
  unfold FoundI at hf
  rw [List.take_length] at hf
  rw [List.take_length]
  obtain ⟨lk0, lk18, lk19, lk5⟩ := once_look hI hidl x.epoch x.seq
  have hnum := numbered_mem (hI.seqs id x.epoch) (q := x.seq)
  have hselm : ∀ {f : Nat} (hf : f < all.length), isK id x.epoch all[f] = true → all[f] ∈ selK all id x.epoch := fun hf hk => List.mem_filter.2 ⟨List.getElem_mem hf, hk⟩
  have hsl : (selK all id x.epoch).length ≤ all.length := List.length_filter_le _ _
  generalize hcn : (selK all id x.epoch).length = cn at *
  have h2 := h.tick
  generalize hlk : lookS (prs L) id x.epoch x.seq = lk at *
  refine LETJ_intro fun J4 hJ4 => ?_
  replace hJ4 : ∀ (B2 : Base) (L2 : PrL) (sv2 av2 : Value) (all2 : List Kp) (pos2 : Int), B'.ext B2 → rowR sv2 (praws L2) B2 → prows L2 B2 → OnceI (prs L2) all2 ep pos2 (i + 1) → (lk.2 = 5 → all2 = all) →
      ∀ w', Rel B2 w' [rowD T_int (.slice (some ⟨g, 0, none⟩) 64 64) ep, rowD T_erratalaw10_kept av2 all2, cellD xa T_erratalaw10_Op x.cs.toArray] → J4 (.int .i64 pos2, sv2, av2, ()) w' := by
    intro B2 L2 sv2 av2 all2 pos2 e2 r2 q2 hI2 hsame w14 h
    refine hJ4 _ _ ?_
    clear hJ4
    have hR2 := hI2.right
    have ht := h.tick
    refine LETJ_intro fun J5 hJ5 => ?_
    have right : ∀ w', Rel B2 w' [rowD T_int (.slice (some ⟨g, 0, none⟩) 64 64) ep, rowD T_erratalaw10_kept av2 all2, cellD xa T_erratalaw10_Op x.cs.toArray] → upK Try.prog (sCall F_producer_Right #[sv2]) w' fun t222 w16 =>
               pureK Try.prog (sUn .not t222) fun t223 =>
               ifB t223
               (K (.bool false) w16)
               (J1 (sv2, .int .i64 pos2, av2, ()) w16) := by
      intro w' h
      refine h.ask (fun B3 own base3 => Right_g (base3 r2) (base3 q2) (right_small hR2).2 (right_small hR2).1) fun w16 h => ?_
      rw [rightB_true.2 hR2, un_not, Bool.not_true, ifB_false]
      exact hJ1 B2 L2 _ _ _ _ _ e2 r2 q2 hI2 _ [_] h
    replace hJ5 : ∀ w', Rel B2 w' [rowD T_int (.slice (some ⟨g, 0, none⟩) 64 64) ep, rowD T_erratalaw10_kept av2 all2, cellD xa T_erratalaw10_Op x.cs.toArray] → J5 () w' := by
      intro w15 h
      refine hJ5 _ _ ?_
      clear hJ5
      have ht := h.tick
      have hel : (cellsR g (id * Enc.sz Int) [.int .i64 ep[id]]).here (tick w15) := ht.elem (i := 0) rfl hidl
      simp -zeta only [field_addr f_erratalaw10_Op_2, field_addr f_erratalaw10_Op_3, Nat.zero_add, bin_eql, ifB_dec, ht.ld 2 rfl sc_int (o := 2) rfl, ht.ld 2 rfl sc_int (o := 3) rfl, hidx, cellsR.ld0 hel sc_int rfl, bin_geq, bin_leq]
      refine ⟨fun c18 => ⟨fun c => absurd (lk18 c18) (by omega), fun _ => ⟨fun c19 => absurd (c18.symm.trans c19) (by decide), fun _ => right _ ht⟩⟩, fun _ => ⟨fun c19 => ⟨fun c => absurd (lk19 c19) (by omega), fun _ => right _ ht⟩, fun _ => right _ ht⟩⟩
    have hel : (cellsR g (id * Enc.sz Int) [.int .i64 ep[id]]).here (tick w14) := ht.elem (i := 0) rfl hidl
    simp -zeta only [field_addr f_erratalaw10_Op_2, field_addr f_erratalaw10_Op_3, Nat.zero_add, bin_eql, bin_lss, bin_neq, ifB_not, ifB_dec, ht.ld 2 rfl sc_int (o := 2) rfl, ht.ld 2 rfl sc_int (o := 3) rfl, hidx, cellsR.ld0 hel sc_int rfl, bin_sub, bin_leq, bin_gtr]
    refine ⟨fun c5 => ?_, fun _ => hJ5 _ ht⟩
    obtain ⟨k1, k2, k3, k4, k5⟩ := lk5 c5
    obtain ⟨f, rfl, hfl, hfk, hfq⟩ : ∃ f : Nat, fd = f ∧ ∃ hf : f < all.length, isK id x.epoch all[f] = true ∧ all[f].seq = x.seq := by
      rcases hf with ⟨_, h2⟩ | h1
      · obtain ⟨m, hm, hmq⟩ := hnum.2 ⟨k2, k3⟩
        exact absurd hmq (h2 m hm)
      · exact h1
    refine ⟨fun c => absurd c (by omega), fun _ => ⟨fun _ => ?_, fun c => absurd k1 c⟩⟩
    have hw : IntKind.i64.wrap ((cn : Int) - x.seq) = (cn : Int) - x.seq := wrap_id (by omega) (by omega)
    simp -zeta only [hw]
    have hs := hsame c5
    subst hs
    refine ⟨fun c20 => ?_, fun c20 => ⟨fun _ => ⟨fun _ => hJ5 _ ht, fun c => absurd (k4 (by omega)) c⟩, fun c => absurd (by omega) c⟩⟩
    have hmx : max (f : Int) 0 = f := by omega
    have hall2 : rowR av2 all2 ⟨tick w14, fun _ => True⟩ := rowD.read (ht.here (i := 1) rfl)
    obtain ⟨g2, o2, hx2, hc2⟩ := rowR.idx hall2 sl_s_erratalaw10_kept (P := Try.prog) hfl
    have hc2 : (cellsR g2 o2 all2[f].cs).here (tick w14) := hc2
    simp -zeta only [blt_max, hmx, hx2, field_addr f_erratalaw10_kept_3, cellsR.ld hc2 sc_int (j := 3) rfl, bin_neq, ifB_not, ifB_dec]
    exact ⟨fun _ => ⟨fun c => absurd c (by omega), fun _ => hJ5 _ ht⟩, fun c => absurd (k5 c20 _ (hselm hfl hfk) hfq) c⟩
  simp -zeta only [bin_eql, bin_geq, ifB_dec]
  refine ⟨fun c0 => ?_, fun c0 => hJ4 B' L _ _ _ _ (Base.ext.refl _) rs qs hI.more (fun _ => rfl) _ h⟩
  obtain ⟨k1, k2⟩ := lk0 c0
  refine ⟨fun c => ?_, fun _ => ?_⟩
  · exfalso
    rcases hf with ⟨h1, _⟩ | ⟨f, h1, hfl, hfk, hfq⟩
    · omega
    · have := (hnum.1 ⟨_, hselm hfl hfk, hfq⟩).2
      omega
  have hel : (cellsR g (id * Enc.sz Int) [.int .i64 ep[id]]).here (tick w12) := h2.elem (i := 0) rfl hidl
  have hw1 : IntKind.i64.wrap (pos + 1) = pos + 1 := wrap_id (by omega) (by omega)
  have hw2 : IntKind.i64.wrap (pos + 1 + x.far % 256) = pos + 1 + x.far % 256 := wrap_id (by omega) (by omega)
  simp -zeta only [field_addr f_erratalaw10_Op_2, field_addr f_erratalaw10_Op_3, field_addr f_erratalaw10_Op_4, Nat.zero_add, bin_neq, ifB_not, ifB_dec, h2.ld 2 rfl sc_int (o := 2) rfl, h2.ld 2 rfl sc_int (o := 3) rfl, h2.ld 2 rfl sc_int (o := 4) rfl, hidx, cellsR.ld0 hel sc_int rfl, bin_add, bin_and, and255p, hw1, hw2]
  refine ⟨fun _ => ⟨fun _ => ?_, fun c => absurd k1 c⟩, fun c => absurd k2 c⟩
  refine h2.ask (fun B2 own base2 => record_g id x.epoch x.seq) fun w20 h => ?_
  refine h.make (fun B2 own base2 => Put_m (base2 rs) (base2 qs) hR (ent id x.epoch x.seq) (pos + 1 + x.far % 256)) fun u τ w21 hp h => ?_
  obtain ⟨B2, L2, e2, h, hs2, r2, q2⟩ := hp _ _ _ h
  have hs2 : prs L2 = putS (prs L) id x.epoch x.seq (pos + 1 + x.far % 256) := hs2
  have hI2 := once_put hI hidl (e := x.epoch) (q := x.seq) (p := pos + 1 + x.far % 256) (by rw [hlk]; exact c0) (by omega) (by omega) (by omega)
  rw [← hs2] at hI2
  simp -zeta only [h.ld 2 rfl sc_int (o := 2) rfl, h.ld 2 rfl sc_int (o := 3) rfl, bd_erratalaw10_kept_0_1_2_3]
  refine h.push1 (α := Kp) 1 rfl ⟨id, x.epoch, x.seq, pos + 1 + x.far % 256⟩ sl_s_erratalaw10_kept (by decide) (by omega) (by omega) fun v2 w23 h => ?_
  exact hJ4 B2 L2 _ _ _ _ e2 r2 q2 hI2 (fun c => absurd (c0.symm.trans c) (by decide)) _ h
end Go.Proofs.Ytppnebcpalialaa
