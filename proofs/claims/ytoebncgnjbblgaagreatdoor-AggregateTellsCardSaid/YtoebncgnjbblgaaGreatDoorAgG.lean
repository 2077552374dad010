/-
  The reference's accumulators in memory: New, With, Add. No condition.
-/
import Derived.Test.YtoebncgnjbblgaaGreatDoorAgF
import Derived.Test.YtoebncgnjbblgaaGreatDoorWiR
import Derived.Test.YtoebncgnjbblgaaGreatDoorAggT
namespace Go.Proofs.YtoebncgnjbblgaaGreatDoor
open Go.RowKit
set_option maxRecDepth 100000

theorem cellsR.part {B : Base} {g o k : Nat} {xs ys : List Value} (h : cellsR g o xs B) (hy : ∀ (j : Nat) (v : Value), ys[j]? = some v → xs[k + j]? = some v) : cellsR g (o + k) ys B :=
  ⟨h.1, h.2.1, fun j v hv => by rw [Nat.add_assoc]; exact h.2.2 _ _ (hy j v hv)⟩
/-- The value of a counted value. -/
theorem cnt_v {B : Base} {g o : Nat} {x : CntD} (h : cellsR g o x.cs B) : cellsR g o x.v_.cs B := by
  have := cellsR.part (k := 0) (ys := x.v_.cs) h fun j v hv => by
    rw [Nat.zero_add]
    match j, hv with
    | 0, hv => exact hv
    | 1, hv => exact hv
    | 2, hv => exact hv
    | j + 3, hv => simp [D_api_Value.cs] at hv
  exact this
def nilV : SV := ⟨.slice none 0 0, rfl⟩
structure RawF where
  av : SV
  sv : SV
  bv : SV
  vs : List SV
def cntsD (vs : List SV) (bs : List (List CntD)) : Dat := starL (List.zipWith (fun v l => rowD T_errataref30_Counted v.1 l) vs bs)
def refL (p : Nat) (r : RawF) (X : RF) : List Dat := [cellD p T_errataref30_Acc #[r.av.1, .int .i64 X.n, r.sv.1, r.bv.1], rowD T_api_Agg r.av.1 X.aggs, rowD T_int r.sv.1 X.sums, rowD T_s_errataref30_Counted r.bv.1 r.vs, cntsD r.vs X.bags]
/-- The reference's accumulator at p. -/
def refD (p : Nat) (X : RF) : Dat := Dat.ex fun r : RawF => Dat.and (Dat.pure (r.vs.length = X.bags.length)) (starL (refL p r X))
section
variable {B : Base} {w : World} {σ : List Dat} {vs : List SV} {bs : List (List CntD)} {i q : Nat} {p : Nat} {X : RF} {τ : List Dat}
theorem refD.open (h : Rel B w (refD p X :: τ)) : ∃ r : RawF, r.vs.length = X.bags.length ∧ Rel B w (refL p r X ++ τ) := by
  obtain ⟨r, h⟩ := h.ex (i := 0) rfl
  obtain ⟨h1, h⟩ := h.pureAnd (i := 0) rfl
  exact ⟨r, h1, Rel.openL h⟩
theorem refD.close (r : RawF) (hr : r.vs.length = X.bags.length) (h : Rel B w (refL p r X ++ τ)) : Rel B w (refD p X :: τ) := by
  have h1 := (Rel.closeL h).imp (i := 0) (e := refD p X) rfl fun B hB => ⟨r, hr, hB⟩
  exact h1
theorem refD.read (h : refD p X B) : ∃ r : RawF, r.vs.length = X.bags.length ∧ ∀ (j : Nat) (d : Dat), (refL p r X)[j]? = some d → d B := by
  obtain ⟨r, h1, h2⟩ := h
  exact ⟨r, h1, fun j d hj => starL.get h2 hj⟩
theorem cnts_get {v : SV} {l : List CntD} (h : cntsD vs bs B) (hv : vs[i]? = some v) (hl : bs[i]? = some l) : rowD T_errataref30_Counted v.1 l B :=
  starL.get h (j := i) (by rw [List.getElem?_zipWith, hv, hl])
theorem cnts_put {v : SV} {l : List CntD} (h : Rel B w (σ ++ [rowD T_errataref30_Counted v.1 l])) (q : Nat) (hq : σ[q]? = some (cntsD vs bs)) (hm : i < vs.length) (hi : i < bs.length) : Rel B w (σ.set q (cntsD (vs.set i v) (bs.set i l))) := by
  have h1 := h.fuse q hq
  have hlt : q < σ.length := (List.getElem?_eq_some_iff.1 hq).1
  have h2 := h1.imp (i := q) (e := cntsD (vs.set i v) (bs.set i l)) (by rw [List.getElem?_set_self hlt]) fun B hB => by
    have := starL.give hB (j := i) (by simp; omega)
    have e : (List.zipWith (fun v l => rowD T_errataref30_Counted v.1 l) vs bs).set i (rowD T_errataref30_Counted v.1 l) = List.zipWith (fun v l => rowD T_errataref30_Counted v.1 l) (vs.set i v) (bs.set i l) := by
      apply List.ext_getElem?
      intro j
      rw [List.getElem?_zipWith, List.getElem?_set, List.getElem?_set, List.getElem?_set]
      by_cases c : i = j
      · subst c
        rw [if_pos rfl, if_pos rfl, if_pos rfl, if_pos (by simp; omega), if_pos hi, if_pos hm]
      · rw [if_neg c, if_neg c, if_neg c, List.getElem?_zipWith]
    unfold cntsD
    rw [← e]
    exact this
  rw [List.set_set] at h2
  exact h2
theorem cnts_nil {n : Nat} {B : Base} : cntsD (List.replicate n nilV) (List.replicate n []) B := by
  refine ⟨fun _ => 0, fun j d hj => ?_⟩
  obtain ⟨x, y, hx, hy, rfl⟩ := List.getElem?_zipWith_eq_some.1 hj
  have hx := (List.mem_replicate.1 (List.mem_of_getElem? hx)).2
  have hy := (List.mem_replicate.1 (List.mem_of_getElem? hy)).2
  subst hx hy
  exact .inl ⟨rfl, rfl⟩
theorem rOrdered_g (g : AggD) : Gives Tryz.prog B (sCall F_errataref30_Ordered #[g.v]) (.bool (ordB g)) := by
  refine Gives.intro fun B' w K base h k => ?_
  refine errataref30_Ordered.up (errataref30_Ordered.call ?_)
  unfold errataref30_Ordered.pt
  refine h.box fun o w1 h => ?_
  have h : Rel B' w1 [cellD o T_api_Agg g.cs.toArray] := h
  unfold ordB at k
  simp -zeta only [field_addr f_api_Agg_0, Nat.zero_add, h.ld 0 rfl sc_int (o := 0) rfl, bin_eql, ifB_dec]
  refine ⟨fun c => ?_, fun c => ?_⟩
  · rw [decide_eq_true c, Bool.true_or] at k; exact k _ _ h
  · rw [decide_eq_false c, Bool.false_or] at k; exact k _ _ h
theorem rNew_m {v : Value} {aggs : List AggD} (r : rowR v aggs B) (hl : aggs.length ≤ 1000) : Makes Tryz.prog B (sCall F_errataref30_New #[v]) fun u τ => ∃ p, u = ptr p ∧ τ = [refD p (newF aggs)] := by
  refine Makes.intro fun B' w K base h k => ?_
  replace r := base r
  refine errataref30_New.up (errataref30_New.call ?_)
  unfold errataref30_New.pt
  rw [rowR.len r sl_s_api_Agg, rowR.len r sl_s_api_Agg]
  have isl : ∀ w, Is Tryz.prog (sBlt .len #[T_s_api_Agg] T_int #[false] #[v]) (.int .i64 aggs.length) w := fun w => by
    have := rowR.len (P := Tryz.prog) (w := w) (T := T_s_api_Agg) (U := T_int) (bs := #[false]) (Kp := fun x => x = .int .i64 aggs.length) r sl_s_api_Agg
    obtain ⟨x, h1, rfl⟩ := this.mpr rfl
    exact h1
  have fin : ∀ (w1 : World) (gs gb : Nat) (xa : Option Addr) (na ca : Nat), Rel B' w1 [rowD T_api_Agg (.slice xa na ca) aggs, rowD T_int (.slice (some ⟨gs, 0, none⟩) aggs.length aggs.length) (List.replicate aggs.length (0 : Int)), rowD T_s_errataref30_Counted (.slice (some ⟨gb, 0, none⟩) aggs.length aggs.length) (List.replicate aggs.length nilV)] →
      pureK Tryz.prog (sBuild T_errataref30_Acc #[(0, .slice xa na ca), (2, .slice (some ⟨gs, 0, none⟩) aggs.length aggs.length), (3, .slice (some ⟨gb, 0, none⟩) aggs.length aggs.length)]) fun t14 => upK Tryz.prog (sBox T_errataref30_Acc t14) w1 fun t15 w12 => K t15 w12 := by
    intro w1 gs gb xa na ca h
    rw [bd_errataref30_Acc_0_2_3]
    refine h.box fun p w2 h => ?_
    have h := (h.pick [3, 0, 1, 2] (by decide)).addPure (d := cntsD (List.replicate aggs.length nilV) (List.replicate aggs.length [])) fun B => cnts_nil
    exact k _ _ _ ⟨p, rfl, rfl⟩ (refD.close (p := p) (X := newF aggs) (τ := []) ⟨⟨.slice xa na ca, rfl⟩, ⟨.slice (some ⟨gs, 0, none⟩) aggs.length aggs.length, rfl⟩, ⟨.slice (some ⟨gb, 0, none⟩) aggs.length aggs.length, rfl⟩, List.replicate aggs.length nilV⟩ (by show (List.replicate aggs.length nilV).length = (List.replicate aggs.length ([] : List CntD)).length; simp) h)
  clear k
  have h := h.tick
  generalize tick w = w at *
  refine ⟨?_, ?_, ?_⟩
  · skip
    refine h.build0 (α := AggD) sl_s_api_Agg fun av w1 h hav => ?_
    refine ⟨isl _, isl _, ?_⟩
    refine ⟨?_, ?_, ?_⟩
    · skip
      refine h.append (α := AggD) 0 rfl sl_s_api_Agg (l2 := aggs) (Rd.base r) (by simp; omega) (by simp; omega) fun av2 w1 h => ?_
      rw [List.nil_append] at h
      obtain ⟨xa, na, ca, rfl⟩ := shapeD h 0 rfl
      refine ⟨isl _, isl _, ?_⟩
      refine ⟨?_, ?_⟩
      · skip
        refine h.mkSliceV (0 : Int) sl_s_int (by kernel_rfl) (by omega) (by omega) fun gs w1 h => ?_
        refine ⟨isl _, ?_⟩
        refine h.mkSliceV (nilV : SV) sl_s_s_errataref30_Counted (by kernel_rfl) (by omega) (by omega) fun gb w1 h => ?_
        refine ⟨isl _, ?_⟩
        exact fin _ _ _ _ _ _ (h.pick [0, 1, 2] (by decide))
      · skip
        refine h.mkSliceV (nilV : SV) sl_s_s_errataref30_Counted (by kernel_rfl) (by omega) (by omega) fun gb w1 h => ?_
        refine ⟨isl _, ?_⟩
        refine h.mkSliceV (0 : Int) sl_s_int (by kernel_rfl) (by omega) (by omega) fun gs w1 h => ?_
        refine ⟨isl _, ?_⟩
        exact fin _ _ _ _ _ _ (h.pick [0, 2, 1] (by decide))
    · skip
      refine h.mkSliceV (0 : Int) sl_s_int (by kernel_rfl) (by omega) (by omega) fun gs w1 h => ?_
      refine ⟨isl _, ?_⟩
      refine ⟨?_, ?_⟩
      · skip
        refine h.append (α := AggD) 0 rfl sl_s_api_Agg (l2 := aggs) (Rd.base r) (by simp; omega) (by simp; omega) fun av2 w1 h => ?_
        rw [List.nil_append] at h
        obtain ⟨xa, na, ca, rfl⟩ := shapeD h 0 rfl
        refine ⟨isl _, isl _, ?_⟩
        refine h.mkSliceV (nilV : SV) sl_s_s_errataref30_Counted (by kernel_rfl) (by omega) (by omega) fun gb w1 h => ?_
        refine ⟨isl _, ?_⟩
        exact fin _ _ _ _ _ _ (h.pick [0, 1, 2] (by decide))
      · skip
        refine h.mkSliceV (nilV : SV) sl_s_s_errataref30_Counted (by kernel_rfl) (by omega) (by omega) fun gb w1 h => ?_
        refine ⟨isl _, ?_⟩
        refine h.append (α := AggD) 0 rfl sl_s_api_Agg (l2 := aggs) (Rd.base r) (by simp; omega) (by simp; omega) fun av2 w1 h => ?_
        rw [List.nil_append] at h
        obtain ⟨xa, na, ca, rfl⟩ := shapeD h 0 rfl
        refine ⟨isl _, isl _, ?_⟩
        exact fin _ _ _ _ _ _ (h.pick [0, 1, 2] (by decide))
    · skip
      refine h.mkSliceV (nilV : SV) sl_s_s_errataref30_Counted (by kernel_rfl) (by omega) (by omega) fun gb w1 h => ?_
      refine ⟨isl _, ?_⟩
      refine ⟨?_, ?_⟩
      · skip
        refine h.append (α := AggD) 0 rfl sl_s_api_Agg (l2 := aggs) (Rd.base r) (by simp; omega) (by simp; omega) fun av2 w1 h => ?_
        rw [List.nil_append] at h
        obtain ⟨xa, na, ca, rfl⟩ := shapeD h 0 rfl
        refine ⟨isl _, isl _, ?_⟩
        refine h.mkSliceV (0 : Int) sl_s_int (by kernel_rfl) (by omega) (by omega) fun gs w1 h => ?_
        refine ⟨isl _, ?_⟩
        exact fin _ _ _ _ _ _ (h.pick [0, 2, 1] (by decide))
      · skip
        refine h.mkSliceV (0 : Int) sl_s_int (by kernel_rfl) (by omega) (by omega) fun gs w1 h => ?_
        refine ⟨isl _, ?_⟩
        refine h.append (α := AggD) 0 rfl sl_s_api_Agg (l2 := aggs) (Rd.base r) (by simp; omega) (by simp; omega) fun av2 w1 h => ?_
        rw [List.nil_append] at h
        obtain ⟨xa, na, ca, rfl⟩ := shapeD h 0 rfl
        refine ⟨isl _, isl _, ?_⟩
        exact fin _ _ _ _ _ _ (h.pick [0, 2, 1] (by decide))
  · skip
    refine h.mkSliceV (0 : Int) sl_s_int (by kernel_rfl) (by omega) (by omega) fun gs w1 h => ?_
    refine ⟨isl _, ?_⟩
    refine ⟨?_, ?_⟩
    · skip
      refine h.build0 (α := AggD) sl_s_api_Agg fun av w1 h hav => ?_
      refine ⟨isl _, isl _, ?_⟩
      refine ⟨?_, ?_⟩
      · skip
        refine h.append (α := AggD) 1 rfl sl_s_api_Agg (l2 := aggs) (Rd.base r) (by simp; omega) (by simp; omega) fun av2 w1 h => ?_
        rw [List.nil_append] at h
        obtain ⟨xa, na, ca, rfl⟩ := shapeD h 1 rfl
        refine ⟨isl _, isl _, ?_⟩
        refine h.mkSliceV (nilV : SV) sl_s_s_errataref30_Counted (by kernel_rfl) (by omega) (by omega) fun gb w1 h => ?_
        refine ⟨isl _, ?_⟩
        exact fin _ _ _ _ _ _ (h.pick [1, 0, 2] (by decide))
      · skip
        refine h.mkSliceV (nilV : SV) sl_s_s_errataref30_Counted (by kernel_rfl) (by omega) (by omega) fun gb w1 h => ?_
        refine ⟨isl _, ?_⟩
        refine h.append (α := AggD) 1 rfl sl_s_api_Agg (l2 := aggs) (Rd.base r) (by simp; omega) (by simp; omega) fun av2 w1 h => ?_
        rw [List.nil_append] at h
        obtain ⟨xa, na, ca, rfl⟩ := shapeD h 1 rfl
        refine ⟨isl _, isl _, ?_⟩
        exact fin _ _ _ _ _ _ (h.pick [1, 0, 2] (by decide))
    · skip
      refine h.mkSliceV (nilV : SV) sl_s_s_errataref30_Counted (by kernel_rfl) (by omega) (by omega) fun gb w1 h => ?_
      refine ⟨isl _, ?_⟩
      refine h.build0 (α := AggD) sl_s_api_Agg fun av w1 h hav => ?_
      refine ⟨isl _, isl _, ?_⟩
      refine h.append (α := AggD) 2 rfl sl_s_api_Agg (l2 := aggs) (Rd.base r) (by simp; omega) (by simp; omega) fun av2 w1 h => ?_
      rw [List.nil_append] at h
      obtain ⟨xa, na, ca, rfl⟩ := shapeD h 2 rfl
      refine ⟨isl _, isl _, ?_⟩
      exact fin _ _ _ _ _ _ (h.pick [2, 0, 1] (by decide))
  · skip
    refine h.mkSliceV (nilV : SV) sl_s_s_errataref30_Counted (by kernel_rfl) (by omega) (by omega) fun gb w1 h => ?_
    refine ⟨isl _, ?_⟩
    refine ⟨?_, ?_⟩
    · skip
      refine h.build0 (α := AggD) sl_s_api_Agg fun av w1 h hav => ?_
      refine ⟨isl _, isl _, ?_⟩
      refine ⟨?_, ?_⟩
      · skip
        refine h.append (α := AggD) 1 rfl sl_s_api_Agg (l2 := aggs) (Rd.base r) (by simp; omega) (by simp; omega) fun av2 w1 h => ?_
        rw [List.nil_append] at h
        obtain ⟨xa, na, ca, rfl⟩ := shapeD h 1 rfl
        refine ⟨isl _, isl _, ?_⟩
        refine h.mkSliceV (0 : Int) sl_s_int (by kernel_rfl) (by omega) (by omega) fun gs w1 h => ?_
        refine ⟨isl _, ?_⟩
        exact fin _ _ _ _ _ _ (h.pick [1, 2, 0] (by decide))
      · skip
        refine h.mkSliceV (0 : Int) sl_s_int (by kernel_rfl) (by omega) (by omega) fun gs w1 h => ?_
        refine ⟨isl _, ?_⟩
        refine h.append (α := AggD) 1 rfl sl_s_api_Agg (l2 := aggs) (Rd.base r) (by simp; omega) (by simp; omega) fun av2 w1 h => ?_
        rw [List.nil_append] at h
        obtain ⟨xa, na, ca, rfl⟩ := shapeD h 1 rfl
        refine ⟨isl _, isl _, ?_⟩
        exact fin _ _ _ _ _ _ (h.pick [1, 2, 0] (by decide))
    · skip
      refine h.mkSliceV (0 : Int) sl_s_int (by kernel_rfl) (by omega) (by omega) fun gs w1 h => ?_
      refine ⟨isl _, ?_⟩
      refine h.build0 (α := AggD) sl_s_api_Agg fun av w1 h hav => ?_
      refine ⟨isl _, isl _, ?_⟩
      refine h.append (α := AggD) 2 rfl sl_s_api_Agg (l2 := aggs) (Rd.base r) (by simp; omega) (by simp; omega) fun av2 w1 h => ?_
      rw [List.nil_append] at h
      obtain ⟨xa, na, ca, rfl⟩ := shapeD h 2 rfl
      refine ⟨isl _, isl _, ?_⟩
      exact fin _ _ _ _ _ _ (h.pick [2, 1, 0] (by decide))
theorem cntBd {K : Value → Prop} (x : ValD) (n : Int) : pureK Tryz.prog (sBuild T_errataref30_Counted #[(0, .agg x.cs.toArray), (1, .int .i64 n)]) K = K (.agg (⟨x, n⟩ : CntD).cs.toArray) := pureK_eq fun w => by kernel_rfl
set_option maxHeartbeats 1000000 in
theorem With_m {v : Value} {l : List CntD} (r : rowR v l B) (x : ValD) (n : Int) (hl : l.length ≤ 10000000) : Makes Tryz.prog B (sCall F_errataref30_With #[v, .agg x.cs.toArray, .int .i64 n]) fun u τ => τ = [rowD T_errataref30_Counted u (withS l x n)] := by
  refine Makes.intro fun B' w K base h k => ?_
  replace r := base r
  refine errataref30_With.up (errataref30_With.call ?_)
  unfold errataref30_With.pt
  refine h.box fun o w1 h => ?_
  have h : Rel B' w1 [cellD o T_api_Value x.cs.toArray] := h
  have h := h.addNil CntD T_errataref30_Counted
  refine LOOP_intro (fun z w' => ∃ (i : Nat) (u : Value), i ≤ l.length ∧ z = (u, .bool (withL x n (l.take i)).2, .int .i64 i, ()) ∧ (withL x n (l.take i)).1.length ≤ 2 * i ∧ Rel B' w' [cellD o T_api_Value x.cs.toArray, rowD T_errataref30_Counted u (withL x n (l.take i)).1])
    (fun z _ => l.length - (match z.2.2.1 with | .int _ n => n.toNat | _ => 0)) ⟨0, .slice none 0 0, Nat.zero_le _, rfl, Nat.zero_le _, h⟩ ?_
  clear h
  rintro z w2 ⟨i, u, hi, rfl, hlen, h⟩ next hnext
  simp -zeta only [rowR.len r sl_s_errataref30_Counted, bin_lss, ifB_dec]
  refine ⟨fun hlt => ?_, fun hge => ?_⟩
  case refine_2 =>
    have : i = l.length := by omega
    subst this
    rw [List.take_length] at h hlen ⊢
    clear hnext
    unfold withS at k
    refine LETJ_intro fun J hJ => ?_
    have hJ : ∀ (u' : Value) (w' : World), Rel B' w' [rowD T_errataref30_Counted u' (if (withL x n l).2 = true then (withL x n l).1 else (withL x n l).1 ++ [⟨x, n⟩])] → J (u', ()) w' := fun u' w' h => hJ _ _ (k _ _ _ rfl h)
    rw [un_not, ifB_not, ifB_bool]
    refine ⟨fun c => ?_, fun c => ?_⟩
    · rw [if_pos c] at hJ
      exact hJ _ _ (h.pick [1] (by decide))
    · rw [if_neg (by rw [c]; decide)] at hJ
      rw [h.ldAg 0 rfl ag_api_Value rfl, cntBd]
      refine h.push1 (α := CntD) 1 rfl ⟨x, n⟩ sl_s_errataref30_Counted (by decide) (by omega) (by omega) fun u' w3 h => ?_
      exact hJ _ _ (h.pick [1] (by decide))
  have hil : i < l.length := by omega
  have hs := withL_succ x n hil
  obtain ⟨g, o2, hix, hc⟩ := rowR.idx r sl_s_errataref30_Counted (P := Tryz.prog) hil
  have hc : cellsR g o2 l[i].cs B' := hc
  generalize withL x n (l.take i) = st at *
  obtain ⟨st, d⟩ := st
  simp only at hlen h
  refine LETJ_intro fun J1 hJ1 => ?_
  replace hJ1 : ∀ (s : List CntD × Bool) (u' : Value) (w' : World), s = withStep x n (st, d) l[i] → s.1.length ≤ 2 * (i + 1) → Rel B' w' [cellD o T_api_Value x.cs.toArray, rowD T_errataref30_Counted u' s.1] → J1 (u', .bool s.2, ()) w' := by
    intro s u' w' e h1 h
    refine hJ1 _ _ ?_
    show pureK _ _ _
    rw [bin_add, wrap_id (by omega) (by omega)]
    rw [← hs] at e
    subst e
    exact hnext _ _ ⟨i + 1, u', hil, rfl, h1, h⟩ (by simp only; omega)
  clear hnext k hs
  generalize hy : l[i] = y at *
  unfold withStep at hJ1
  simp only at hJ1
  have h := h.tick
  generalize tick w2 = w2 at *
  rw [h.ldAg 0 rfl ag_api_Value rfl, hix, field_addr f_errataref30_Counted_0, Nat.add_zero, cellsR.ldAg (h.hereB (cnt_v hc)) ag_api_Value rfl]
  refine h.ask (fun B2 own base2 => fCompare_g x y.v_) fun w3 h => ?_
  refine LETJ_intro fun J2 hJ2 => ?_
  replace hJ2 : ∀ (s : List CntD × Bool) (u' : Value) (w' : World), s = (if compareV x y.v_ < 0 ∧ d = false then (st ++ [⟨x, n⟩], true) else (st, d)) → s.1.length ≤ 2 * i + 1 → Rel B' w' [cellD o T_api_Value x.cs.toArray, rowD T_errataref30_Counted u' s.1] → J2 (u', .bool s.2, ()) w' := by
    intro s u' w' e h1 h
    refine hJ2 _ _ ?_
    rw [← e] at hJ1
    clear e hJ2
    obtain ⟨s1, s2⟩ := s
    simp only at hJ1 h h1 ⊢
    rw [hix, cellsR.ldAg (h.hereB hc) ag_errataref30_Counted rfl]
    refine h.allocAg (ds := y.cs.toArray) z_errataref30_Counted rfl ag_errataref30_Counted rfl (fun v hv => Enc.one y v hv) fun a w4 h => ?_
    have h : Rel B' w4 [cellD o T_api_Value x.cs.toArray, rowD T_errataref30_Counted u' s1, cellD a T_errataref30_Counted y.cs.toArray] := h
    refine LETJ_intro fun J3 hJ3 => ?_
    replace hJ3 : ∀ (b : Bool) (z : CntD) (w' : World), b = (if compareV x y.v_ = 0 then true else s2) → z = (if compareV x y.v_ = 0 then ⟨y.v_, W64 (y.n + n)⟩ else y) → Rel B' w' [cellD o T_api_Value x.cs.toArray, rowD T_errataref30_Counted u' s1, cellD a T_errataref30_Counted z.cs.toArray] → J3 (.bool b, ()) w' := by
      intro b z w' e1 e2 h
      refine hJ3 _ _ ?_
      rw [← e1, ← e2] at hJ1
      simp -zeta only [field_addr f_errataref30_Counted_1, Nat.zero_add]
      rw [h.ld 2 rfl sc_int (o := 3) (v := .int .i64 z.n) rfl, bin_neq, ifB_not, ifB_dec]
      refine ⟨fun c => ?_, fun c => ?_⟩
      · rw [if_neg (fun hh => hh c)] at hJ1
        exact hJ1 _ _ _ rfl (by simp only; omega) (h.take 2)
      · rw [if_pos c] at hJ1
        rw [h.ldAg 2 rfl ag_errataref30_Counted rfl]
        refine h.push1 (α := CntD) 1 rfl z sl_s_errataref30_Counted (by decide) (by omega) (by omega) fun u2 w5 h => ?_
        exact hJ1 _ _ _ rfl (by simp only [List.length_append, List.length_singleton]; omega) (h.take 2)
    rw [bin_eql, ifB_dec]
    refine ⟨fun c => ?_, fun c => ?_⟩
    · rw [if_pos c, if_pos c] at hJ3
      simp -zeta only [field_addr f_errataref30_Counted_1, Nat.zero_add]
      rw [h.ld 2 rfl sc_int (o := 3) (v := .int .i64 y.n) rfl, bin_add]
      refine h.st 2 rfl sc_int (o := 3) (show 3 < 4 by omega) rfl fun w5 h => ?_
      exact hJ3 _ _ _ rfl rfl h
    · rw [if_neg c, if_neg c] at hJ3
      exact hJ3 _ _ _ rfl rfl h
  clear hJ1
  rw [bin_lss, ifB_dec]
  refine ⟨fun c => ?_, fun c => ?_⟩
  · rw [un_not, ifB_not, ifB_bool]
    refine ⟨fun cd => ?_, fun cd => ?_⟩
    · subst cd
      rw [if_neg (fun hh => by cases hh.2)] at hJ2
      exact hJ2 _ _ _ rfl (by simp only; omega) h
    · subst cd
      rw [if_pos ⟨c, rfl⟩] at hJ2
      rw [h.ldAg 0 rfl ag_api_Value rfl, cntBd]
      refine h.push1 (α := CntD) 1 rfl ⟨x, n⟩ sl_s_errataref30_Counted (by decide) (by omega) (by omega) fun u2 w5 h => ?_
      exact hJ2 _ _ _ rfl (by simp only [List.length_append, List.length_singleton]; omega) h
  · rw [if_neg (fun hh => c hh.1)] at hJ2
    exact hJ2 _ _ _ rfl (by simp only; omega) h
/-- What is right of the reference's accumulator: its lists. -/
structure GoodF (N : Nat) (X : RF) : Prop where
  few : X.aggs.length ≤ 1000
  sums : X.sums.length = X.aggs.length
  bags : X.bags.length = X.aggs.length
  len : ∀ (i : Nat) (l : List CntD), X.bags[i]? = some l → l.length ≤ N
theorem push_len (s : List CntD) (y : CntD) : (if y.n ≠ 0 then s ++ [y] else s).length ≤ s.length + 1 := by split <;> simp
theorem withL_len (v : ValD) (n : Int) : ∀ (l : List CntD) (st : List CntD × Bool), (l.foldl (withStep v n) st).1.length + (if (l.foldl (withStep v n) st).2 = true then 0 else 1) ≤ st.1.length + (if st.2 = true then 0 else 1) + l.length
  | [], st => Nat.le_refl _
  | x :: l, st => by
    rw [List.foldl_cons, List.length_cons]
    have h1 := withL_len v n l (withStep v n st x)
    have h2 : (withStep v n st x).1.length + (if (withStep v n st x).2 = true then 0 else 1) ≤ st.1.length + (if st.2 = true then 0 else 1) + 1 := by
      unfold withStep
      obtain ⟨s, d⟩ := st
      simp only
      by_cases c0 : compareV v x.v_ = 0
      · rw [if_pos c0, if_pos c0, if_neg (c := compareV v x.v_ < 0 ∧ d = false) (fun hh => by omega)]
        have := push_len s ⟨x.v_, W64 (x.n + n)⟩
        simp only [if_true] at this ⊢
        omega
      · rw [if_neg c0, if_neg c0]
        by_cases c : compareV v x.v_ < 0 ∧ d = false
        · rw [if_pos c, c.2]
          have := push_len (s ++ [⟨v, n⟩]) x
          rw [List.length_append, List.length_singleton] at this
          simp only [if_true] at this ⊢
          simp only [Bool.false_eq_true, if_false]
          omega
        · rw [if_neg c]
          have := push_len s x
          simp only at this ⊢
          omega
    omega
theorem withS_len (l : List CntD) (v : ValD) (n : Int) : (withS l v n).length ≤ l.length + 1 := by
  have := withL_len v n l ([], false)
  unfold withS withL
  split
  · rename_i c
    rw [if_pos c] at this
    simp at this
    omega
  · rename_i c
    rw [if_neg c] at this
    simp at this ⊢
    omega
theorem GoodF.addK {N : Nat} (h : GoodF N X) (row : List ValD) (n : Int) (k : Nat) : GoodF (N + 1) (addKF row n X k) := by
  obtain ⟨s1, s2, s3, s4⟩ := addKF_same row n X k
  refine ⟨by rw [s1]; exact h.few, by rw [s3, s1]; exact h.sums, by rw [s4, s1]; exact h.bags, fun i l hl => ?_⟩
  rw [(addKF_get row n X k i).2] at hl
  split at hl
  · cases hb : X.bags[i]? with
    | none => rw [hb] at hl; cases hl
    | some l0 =>
      rw [hb] at hl
      have h0 := h.len i l0 hb
      rw [Option.map_some] at hl
      have hl := Option.some.inj hl
      subst hl
      cases X.aggs[i]? with
      | none => exact Nat.le_trans h0 (by omega)
      | some g =>
        show (bagAtF row n g l0).length ≤ N + 1
        unfold bagAtF
        split
        · omega
        · split
          · have := withS_len l0 (atS row g.col) n; omega
          · omega
  · have := h.len i l hl; omega
theorem GoodF.mono {N M : Nat} (h : GoodF N X) (hm : N ≤ M) : GoodF M X := ⟨h.few, h.sums, h.bags, fun i l hl => Nat.le_trans (h.len i l hl) hm⟩
theorem GoodF.add {N : Nat} (h : GoodF N X) (row : List ValD) (n : Int) : GoodF (N + 1) (addF X row n) := by
  unfold addF
  split
  · exact h.mono (by omega)
  · exact h.addK row n _
theorem newF_good {aggs : List AggD} (h : aggs.length ≤ 1000) : GoodF 0 (newF aggs) := ⟨h, by simp [newF], by simp [newF], fun i l hl => by
  have hl : (List.replicate aggs.length ([] : List CntD))[i]? = some l := hl
  rw [(List.mem_replicate.1 (List.mem_of_getElem? hl)).2]
  exact Nat.le_refl _⟩
/-- Element of one's own row of slices. -/
theorem svIdx {v : Value} {i : Nat} (h : Rel B w σ) (r : rowR v vs ⟨w, fun _ => True⟩) (hi : i < vs.length) : ∃ a, (∀ {Kp : Value → Prop}, pureK Tryz.prog (sIdxAddr T_s_s_errataref30_Counted v (.int .i64 i)) Kp = Kp a) ∧ (∀ {Kp : Value → Prop}, readK Tryz.prog (sLoad T_s_errataref30_Counted a) w Kp = Kp vs[i].1) := by
  obtain ⟨g, o, h1, h2⟩ := rowR.idx (P := Tryz.prog) r sl_s_s_errataref30_Counted hi
  have h2 : (cellsR g o (Enc.cells vs[i])).here w := h2
  exact ⟨_, h1, fun {Kp} => cellsR.ld0 h2 sc_s_errataref30_Counted (v := vs[i].1) rfl⟩
set_option maxHeartbeats 1000000 in
theorem rAdd_d {N : Nat} {v : Value} {row : List ValD} (r : rowR v row B) (hx : GoodF N X) (hN : N ≤ 1000000) (n : Int) : Does Tryz.prog B (refD p X) (sCall F_errataref30_Acc_Add #[ptr p, v, .int .i64 n]) fun u e' τ => u = .tuple #[] ∧ e' = refD p (addF X row n) ∧ τ = [] := by
  refine Does.intro fun B' w K base h k => ?_
  replace r := base r
  refine errataref30_Acc_Add.up (errataref30_Acc_Add.call ?_)
  unfold errataref30_Acc_Add.pt
  unfold addF at k
  rw [bin_eql, ifB_dec]
  refine ⟨fun c => ?_, fun c => ?_⟩
  · rw [if_pos c] at k
    exact k _ _ [] _ ⟨rfl, rfl, rfl⟩ h
  rw [if_neg c] at k
  obtain ⟨⟨⟨av, hav⟩, ⟨sv, hsv⟩, ⟨bv, hbv⟩, vs⟩, hvs, h⟩ := refD.open h
  replace hvs : vs.length = X.bags.length := hvs
  have h : Rel B' w [cellD p T_errataref30_Acc #[av, .int .i64 X.n, sv, bv], rowD T_api_Agg av X.aggs, rowD T_int sv X.sums, rowD T_s_errataref30_Counted bv vs, cntsD vs X.bags] := h
  have k : ∀ (w' : World) (vs : List SV), vs.length = (addKF row n X X.aggs.length).bags.length → Rel B' w' [cellD p T_errataref30_Acc #[av, .int .i64 (addKF row n X X.aggs.length).n, sv, bv], rowD T_api_Agg av (addKF row n X X.aggs.length).aggs, rowD T_int sv (addKF row n X X.aggs.length).sums, rowD T_s_errataref30_Counted bv vs, cntsD vs (addKF row n X X.aggs.length).bags] → K (.tuple #[]) w' := fun w' vs hl h =>
    k _ _ [] w' ⟨rfl, rfl, rfl⟩ (refD.close (p := p) (X := addKF row n X X.aggs.length) (τ := []) ⟨⟨av, hav⟩, ⟨sv, hsv⟩, ⟨bv, hbv⟩, vs⟩ hl h)
  simp -zeta only [nil_ptr, field_addr f_errataref30_Acc_1, field_addr f_errataref30_Acc_0, field_addr f_errataref30_Acc_2, field_addr f_errataref30_Acc_3, Nat.zero_add]
  rw [h.ld 0 rfl sc_int (o := 1) (v := .int .i64 X.n) rfl, bin_add]
  refine h.st 0 rfl sc_int (o := 1) (show 1 < 4 by omega) rfl fun w1 h => ?_
  have h : Rel B' w1 [cellD p T_errataref30_Acc #[av, .int .i64 (addKF row n X 0).n, sv, bv], rowD T_api_Agg av (addKF row n X 0).aggs, rowD T_int sv (addKF row n X 0).sums, rowD T_s_errataref30_Counted bv vs, cntsD vs (addKF row n X 0).bags] := h
  have hfew := hx.few
  refine LOOP_intro (fun y w' => ∃ (i : Nat) (vs : List SV), i ≤ X.aggs.length ∧ y = (.int .i64 i, ()) ∧ vs.length = X.bags.length ∧ Rel B' w' [cellD p T_errataref30_Acc #[av, .int .i64 (addKF row n X i).n, sv, bv], rowD T_api_Agg av (addKF row n X i).aggs, rowD T_int sv (addKF row n X i).sums, rowD T_s_errataref30_Counted bv vs, cntsD vs (addKF row n X i).bags])
    (fun y _ => X.aggs.length - (match y.1 with | .int _ n => n.toNat | _ => 0)) ⟨0, vs, Nat.zero_le _, rfl, hvs, h⟩ ?_
  clear h
  rintro y w1 ⟨i, vs, hi, rfl, hvs, h⟩ next hnext
  obtain ⟨s1, s2, s3, s4⟩ := addKF_same row n X i
  rw [h.ld 0 rfl sc_s_api_Agg (o := 0) (v := av) rfl, rowR.len (rowD.read (h.here (i := 1) rfl)) sl_s_api_Agg, s1]
  simp -zeta only [bin_lss, ifB_dec]
  refine ⟨fun hlt => ?_, fun hge => ?_⟩
  case refine_2 =>
    have : i = X.aggs.length := by omega
    subst this
    exact k _ _ (by rw [s4, hvs]) h
  have hil : i < X.aggs.length := by omega
  have hy := hx.addK row n i
  generalize hye : addKF row n X i = Y at *
  refine LETJ_intro fun J hJ => ?_
  replace hJ : ∀ (w' : World) (Z : RF) (vs : List SV), Z = addAtF row n Y i → vs.length = X.bags.length → Rel B' w' [cellD p T_errataref30_Acc #[av, .int .i64 Z.n, sv, bv], rowD T_api_Agg av Z.aggs, rowD T_int sv Z.sums, rowD T_s_errataref30_Counted bv vs, cntsD vs Z.bags] → J () w' := by
    intro w' Z vs hz hl h
    refine hJ _ _ ?_
    show pureK _ _ _
    rw [bin_add, wrap_id (by omega) (by omega)]
    have e : Z = addKF row n X (i + 1) := by rw [hz, addKF_succ, hye]
    subst e
    exact hnext _ _ ⟨i + 1, vs, hil, rfl, hl, h⟩ (by simp only; omega)
  clear hnext k
  have hyal : i < Y.aggs.length := by rw [s1]; exact hil
  obtain ⟨g, o, hix, hc⟩ := rowR.idx (P := Tryz.prog) (rowD.read (h.here (i := 1) rfl)) sl_s_api_Agg hyal
  have hc : (cellsR g o Y.aggs[i].cs).here w1 := hc
  have hig : Y.aggs[i]? = some Y.aggs[i] := List.getElem?_eq_getElem hyal
  have hadd : addAtF row n Y i = (if Y.aggs[i].kind = 1 then { Y with sums := Y.sums.modify i fun s => W64 (s + W64 (n * (atS row Y.aggs[i].col).n)) } else if ordB Y.aggs[i] then { Y with bags := Y.bags.modify i fun l => withS l (atS row Y.aggs[i].col) n } else Y) := by
    unfold addAtF
    rw [hig]
  rw [h.ld 0 rfl sc_s_api_Agg (o := 0) (v := av) rfl, hix, field_addr f_api_Agg_1, cellsR.ld hc sc_int (j := 1) (v := .int .i64 Y.aggs[i].col) rfl]
  clear hc hix
  refine h.ask (fun B2 own base2 => refAt_g (base2 r) Y.aggs[i].col) fun w3 h => ?_
  generalize atS row Y.aggs[i].col = V at *
  refine h.allocAg (ds := V.cs.toArray) z_api_Value rfl ag_api_Value rfl (fun v hv => Enc.one V v hv) fun a2 w4 h => ?_
  have h : Rel B' w4 [cellD p T_errataref30_Acc #[av, .int .i64 Y.n, sv, bv], rowD T_api_Agg av Y.aggs, rowD T_int sv Y.sums, rowD T_s_errataref30_Counted bv vs, cntsD vs Y.bags, cellD a2 T_api_Value V.cs.toArray] := h
  refine LETJ_intro fun J2 hJ2 => ?_
  replace hJ2 : ∀ (w' : World) (Z : RF), Z = (if Y.aggs[i].kind = 1 then { Y with sums := Y.sums.modify i fun s => W64 (s + W64 (n * V.n)) } else Y) → Rel B' w' [cellD p T_errataref30_Acc #[av, .int .i64 Z.n, sv, bv], rowD T_api_Agg av Z.aggs, rowD T_int sv Z.sums, rowD T_s_errataref30_Counted bv vs, cntsD vs Z.bags, cellD a2 T_api_Value V.cs.toArray] → J2 () w' := by
    intro w' Z hz h
    refine hJ2 _ _ ?_
    clear hJ2
    have hza : Z.aggs = Y.aggs := by rw [hz]; split <;> rfl
    have hzb : Z.bags = Y.bags := by rw [hz]; split <;> rfl
    have hzal : i < Z.aggs.length := by rw [hza]; exact hyal
    have hzg : Z.aggs[i] = Y.aggs[i] := by simp only [hza]
    obtain ⟨g, o, hix, hc⟩ := rowR.idx (P := Tryz.prog) (rowD.read (h.here (i := 1) rfl)) sl_s_api_Agg hzal
    have hc : (cellsR g o Z.aggs[i].cs).here w' := hc
    rw [h.ld 0 rfl sc_s_api_Agg (o := 0) (v := av) rfl, hix, cellsR.ldAg hc ag_api_Agg rfl]
    clear hc hix
    rw [hzg]
    refine h.ask (fun B2 own base2 => rOrdered_g Y.aggs[i]) fun w5 h => ?_
    have hk1 : ordB Y.aggs[i] = true → Y.aggs[i].kind ≠ 1 := fun ho k1 => by
      unfold ordB at ho
      rw [decide_eq_false (by omega), decide_eq_false (by omega)] at ho
      cases ho
    rw [ifB_bool]
    refine ⟨fun c2 => ?_, fun c2 => ?_⟩
    case refine_2 =>
      refine hJ _ Z vs ?_ hvs (h.take 5)
      rw [hz, hadd, if_neg (c := ordB Y.aggs[i] = true) (by rw [c2]; decide)]
    rw [if_neg (hk1 c2)] at hz hadd
    rw [if_pos c2] at hadd
    have hcur := h
    clear h
    subst hz
    have h := hcur.tick
    clear hcur
    generalize tick w5 = w5 at *
    have hbl : i < Z.bags.length := by rw [hy.bags]; exact hyal
    have hvl : i < vs.length := by rw [hvs, ← s4]; exact hbl
    have hb0 : Z.bags[i]? = some Z.bags[i] := List.getElem?_eq_getElem hbl
    have hv0 : vs[i]? = some vs[i] := List.getElem?_eq_getElem hvl
    rw [h.ld 0 rfl sc_s_s_errataref30_Counted (o := 3) (v := bv) rfl, h.ld 0 rfl sc_s_s_errataref30_Counted (o := 3) (v := bv) rfl]
    obtain ⟨ba, hia, hla⟩ := svIdx h (rowD.read (h.here (i := 3) rfl)) hvl
    rw [hia, hla, h.ldAg 5 rfl ag_api_Value rfl]
    clear hia hla
    have hlen := hy.len i _ hb0
    refine h.make (fun B2 own base2 => With_m (rowD.read (cnts_get (own (i := 4) rfl) hv0 hb0)) V n (by omega)) fun u τ w6 hp h => ?_
    subst hp
    have hu1 : u.oneCell' = true := h.oneCell (i := 6) rfl
    refine ⟨h.is 0 rfl sc_s_s_errataref30_Counted (o := 3) rfl, ?_⟩
    obtain ⟨gb, cap, rfl⟩ := h.open_ (i := 3) rfl (by omega)
    rw [idx_own (α := SV) sl_s_s_errataref30_Counted hvl]
    refine h.set_sc (α := SV) 3 rfl ⟨u, hu1⟩ (j := i) hvl (f := 0) rfl (by decide) rfl sc_s_errataref30_Counted hu1 fun w7 h => ?_
    have h : Rel B' w7 ([cellD p T_errataref30_Acc #[av, .int .i64 Z.n, sv, .slice (some ⟨gb, 0, none⟩) vs.length cap], rowD T_api_Agg av Z.aggs, rowD T_int sv Z.sums, rowD T_s_errataref30_Counted (.slice (some ⟨gb, 0, none⟩) vs.length cap) (vs.set i ⟨u, hu1⟩), cntsD vs Z.bags, cellD a2 T_api_Value V.cs.toArray] ++ [rowD T_errataref30_Counted (⟨u, hu1⟩ : SV).1 (withS Z.bags[i] V n)]) := h
    have h := cnts_put (i := i) h 4 rfl hvl hbl
    refine hJ _ _ (vs.set i ⟨u, hu1⟩) hadd.symm (List.length_set.trans hvs) ?_
    have e : (Z.bags.modify i fun l => withS l V n) = Z.bags.set i (withS Z.bags[i] V n) := modify_set _ hb0
    show Rel B' w7 [_, _, _, _, cntsD _ (Z.bags.modify i _)]
    rw [e]
    exact h.take 5
  obtain ⟨g, o, hix, hc⟩ := rowR.idx (P := Tryz.prog) (rowD.read (h.here (i := 1) rfl)) sl_s_api_Agg hyal
  have hc : (cellsR g o Y.aggs[i].cs).here w4 := hc
  rw [h.ld 0 rfl sc_s_api_Agg (o := 0) (v := av) rfl, hix, field_addr f_api_Agg_0, Nat.add_zero, cellsR.ld0 hc sc_int (v := .int .i64 Y.aggs[i].kind) rfl, bin_eql, ifB_dec]
  clear hc hix
  refine ⟨fun c1 => ?_, fun c1 => ?_⟩
  · rw [if_pos c1] at hJ2
    have hsl : i < Y.sums.length := by rw [hy.sums]; exact hyal
    have h := h.tick
    generalize tick w4 = w4 at *
    obtain ⟨gs, cap, rfl⟩ := h.open_ (i := 2) rfl (by omega)
    rw [h.ld 0 rfl sc_s_int (o := 2) (v := .slice (some ⟨gs, 0, none⟩) Y.sums.length cap) rfl]
    have hel := h.elem (α := Int) (i := 2) rfl hsl
    rw [h.ld 0 rfl sc_s_int (o := 2) (v := .slice (some ⟨gs, 0, none⟩) Y.sums.length cap) rfl, idx_own (α := Int) sl_s_int hsl, cellsR.ld0 hel sc_int (v := .int .i64 Y.sums[i]) rfl]
    simp -zeta only [field_addr f_api_Value_1, Nat.zero_add]
    rw [h.ld 5 rfl sc_int (o := 1) (v := .int .i64 V.n) rfl, bin_mul, bin_add]
    rw [idx_own (α := Int) sl_s_int hsl]
    refine h.set_sc (α := Int) 2 rfl (W64 (Y.sums[i] + W64 (n * V.n))) (j := i) hsl (f := 0) rfl (by decide) rfl sc_int rfl fun w5 h => ?_
    refine hJ2 _ _ rfl ?_
    have e : (Y.sums.modify i fun s => W64 (s + W64 (n * V.n))) = Y.sums.set i (W64 (Y.sums[i] + W64 (n * V.n))) := modify_set _ (List.getElem?_eq_getElem hsl)
    show Rel B' w5 [_, _, rowD T_int _ (Y.sums.modify i _), _, _, _]
    rw [e]
    exact h
  · rw [if_neg c1] at hJ2
    exact hJ2 _ _ rfl h
end
end Go.Proofs.YtoebncgnjbblgaaGreatDoor
/-
  The reference's accumulators in memory: Result, Rows, Bytes, Empty. No condition.
-/
namespace Go.Proofs.YtoebncgnjbblgaaGreatDoor
open Go.RowKit
set_option maxRecDepth 100000

section
variable {B : Base} {w : World} {σ : List Dat} {vs : List SV} {bs : List (List CntD)} {i q : Nat} {p : Nat} {X : RF} {τ : List Dat} {N : Nat}
theorem svIdxB {v : Value} {i : Nat} (h : Rel B w σ) (r : rowR v vs B) (hi : i < vs.length) : ∃ a, (∀ {Kp : Value → Prop}, pureK Tryz.prog (sIdxAddr T_s_s_errataref30_Counted v (.int .i64 i)) Kp = Kp a) ∧ (∀ {Kp : Value → Prop}, readK Tryz.prog (sLoad T_s_errataref30_Counted a) w Kp = Kp vs[i].1) := by
  obtain ⟨g, o, h1, h2⟩ := rowR.idx (P := Tryz.prog) r sl_s_s_errataref30_Counted hi
  have h2 : cellsR g o (Enc.cells vs[i]) B := h2
  exact ⟨_, h1, fun {Kp} => cellsR.ld0 (h.hereB h2) sc_s_errataref30_Counted (v := vs[i].1) rfl⟩
set_option maxHeartbeats 1000000 in
theorem rResult_m (a : refD p X B) (hx : GoodF N X) (hN : N ≤ 1000000) : Makes Tryz.prog B (sCall F_errataref30_Acc_Result #[ptr p]) fun u τ => τ = [rowD T_api_Value u (resultF X)] := by
  refine Makes.intro fun B' w K base h k => ?_
  replace a := base a
  refine errataref30_Acc_Result.up (errataref30_Acc_Result.call ?_)
  unfold errataref30_Acc_Result.pt
  unfold resultF at k
  obtain ⟨⟨⟨av, hav⟩, ⟨sv, hsv⟩, ⟨bv, hbv⟩, vs⟩, hvs, hr⟩ := refD.read a
  replace hvs : vs.length = X.bags.length := hvs
  have c0 : cellD p T_errataref30_Acc #[av, .int .i64 X.n, sv, bv] B' := hr 0 _ rfl
  have c1 : rowD T_api_Agg av X.aggs B' := hr 1 _ rfl
  have c2 : rowD T_int sv X.sums B' := hr 2 _ rfl
  have c3 : rowD T_s_errataref30_Counted bv vs B' := hr 3 _ rfl
  have c4 : cntsD vs X.bags B' := hr 4 _ rfl
  clear hr a
  have hfew := hx.few
  have h := h.addNil ValD T_api_Value
  simp -zeta only [nil_ptr, field_addr f_errataref30_Acc_1, field_addr f_errataref30_Acc_0, field_addr f_errataref30_Acc_2, field_addr f_errataref30_Acc_3, field_addr f_api_Agg_0, field_addr f_api_Value_1, field_addr f_errataref30_Counted_0, field_addr f_errataref30_Counted_1, Nat.zero_add, Nat.add_zero]
  refine LOOP_intro (fun z w' => ∃ (i : Nat) (u : Value), i ≤ X.aggs.length ∧ z = (u, .int .i64 i, ()) ∧ Rel B' w' [rowD T_api_Value u ((List.range i).map (resAtF X))])
    (fun z _ => X.aggs.length - (match z.2.1 with | .int _ n => n.toNat | _ => 0)) ⟨0, .slice none 0 0, Nat.zero_le _, rfl, h⟩ ?_
  clear h
  rintro z w1 ⟨i, u, hi, rfl, h⟩ next hnext
  rw [cellD.ld (h.hereB c0) sc_s_api_Agg (o := 0) (v := av) rfl, rowR.len (rowD.read c1) sl_s_api_Agg, bin_lss, ifB_dec]
  refine ⟨fun hlt => ?_, fun hge => ?_⟩
  case refine_2 =>
    have : i = X.aggs.length := by omega
    subst this
    exact k _ _ _ rfl h
  clear k
  have hil : i < X.aggs.length := by omega
  have hgi : X.aggs[i]? = some X.aggs[i] := List.getElem?_eq_getElem hil
  have hbl : i < X.bags.length := by rw [hx.bags]; exact hil
  have hvl : i < vs.length := by omega
  have hb0 : X.bags[i]? = some X.bags[i] := List.getElem?_eq_getElem hbl
  have hv0 : vs[i]? = some vs[i] := List.getElem?_eq_getElem hvl
  have cl : rowD T_errataref30_Counted vs[i].1 X.bags[i] B' := cnts_get c4 hv0 hb0
  have hlen := hx.len i _ hb0
  have eres : resAtF X i = (X.bags[i].foldl (resStep X.aggs[i]) (resZ X X.aggs[i] i, false)).1 := by
    unfold resAtF
    rw [hgi, hb0]
    rfl
  obtain ⟨g, o, hix, hc⟩ := rowR.idx (P := Tryz.prog) (rowD.read c1) sl_s_api_Agg hil
  have hc : cellsR g o X.aggs[i].cs B' := hc
  refine LETJ_intro fun J1 hJ1 => ?_
  replace hJ1 : ∀ (u' : Value) (w' : World), Rel B' w' [rowD T_api_Value u' ((List.range i).map (resAtF X) ++ [resAtF X i])] → J1 (u', ()) w' := by
    intro u' w' h
    refine hJ1 _ _ ?_
    show pureK _ _ _
    rw [bin_add, wrap_id (by omega) (by omega)]
    refine hnext _ _ ⟨i + 1, u', hil, rfl, ?_⟩ (by simp only; omega)
    rw [List.range_succ, List.map_append]
    exact h
  clear hnext
  rw [eres] at hJ1
  have ez : resZ X X.aggs[i] i = (if X.aggs[i].kind = 1 then vInt ((X.sums[i]?).getD 0) else if X.aggs[i].kind = 0 then vInt X.n else vZero) := rfl
  generalize hG : X.aggs[i] = G at *
  generalize hL : X.bags[i] = L at *
  rw [bd_api_Value_]
  refine h.allocAg (ds := vZero.cs.toArray) z_api_Value rfl ag_api_Value rfl (fun v hv => Enc.one vZero v hv) fun a w2 h => ?_
  have h : Rel B' w2 [rowD T_api_Value u ((List.range i).map (resAtF X)), cellD a T_api_Value vZero.cs.toArray] := h
  refine LETJ_intro fun J2 hJ2 => ?_
  replace hJ2 : ∀ (w' : World) (V : ValD), V = (if G.kind = 0 then vInt X.n else vZero) → Rel B' w' [rowD T_api_Value u ((List.range i).map (resAtF X)), cellD a T_api_Value V.cs.toArray] → J2 () w' := by
    intro w' V hV h
    refine hJ2 _ _ ?_
    clear hJ2
    rw [← hV] at ez
    refine LETJ_intro fun J3 hJ3 => ?_
    replace hJ3 : ∀ (w' : World) (V : ValD), V = resZ X G i → Rel B' w' [rowD T_api_Value u ((List.range i).map (resAtF X)), cellD a T_api_Value V.cs.toArray] → J3 () w' := by
      intro w' V hV h
      refine hJ3 _ _ ?_
      clear hJ3
      subst hV
      clear ez hG
      generalize resZ X G i = Z at *
      refine LOOP_intro (fun z w' => ∃ (k : Nat), k ≤ L.length ∧ z = (.bool ((L.take k).foldl (resStep G) (Z, false)).2, .int .i64 k, ()) ∧ Rel B' w' [rowD T_api_Value u ((List.range i).map (resAtF X)), cellD a T_api_Value ((L.take k).foldl (resStep G) (Z, false)).1.cs.toArray])
        (fun z _ => L.length - (match z.2.1 with | .int _ n => n.toNat | _ => 0)) ⟨0, Nat.zero_le _, rfl, h⟩ ?_
      clear h
      rintro z w3 ⟨k, hk, rfl, h⟩ next hnext
      obtain ⟨ba, hia, hla⟩ := svIdxB h (rowD.read c3) hvl
      rw [cellD.ld (h.hereB c0) sc_s_s_errataref30_Counted (o := 3) (v := bv) rfl, hia, hla, rowR.len (rowD.read cl) sl_s_errataref30_Counted, bin_lss, ifB_dec]
      refine ⟨fun hlt => ?_, fun hge => ?_⟩
      case refine_2 =>
        have : k = L.length := by omega
        subst this
        rw [List.take_length] at h
        generalize L.foldl (resStep G) (Z, false) = st at *
        rw [h.ldAg 1 rfl ag_api_Value rfl]
        refine h.push1 (α := ValD) 0 rfl st.1 sl_s_api_Value (by decide) (by simp; omega) (by simp; omega) fun u2 w4 h => ?_
        exact hJ1 _ _ (h.take 1)
      have hkl : k < L.length := by omega
      have hs : (L.take (k + 1)).foldl (resStep G) (Z, false) = resStep G ((L.take k).foldl (resStep G) (Z, false)) L[k] := by
        rw [List.take_succ_eq_append_getElem hkl, List.foldl_append]
        rfl
      refine LETJ_intro fun J4 hJ4 => ?_
      replace hJ4 : ∀ (st : ValD × Bool) (w' : World), st = resStep G ((L.take k).foldl (resStep G) (Z, false)) L[k] → Rel B' w' [rowD T_api_Value u ((List.range i).map (resAtF X)), cellD a T_api_Value st.1.cs.toArray] → J4 (.bool st.2, ()) w' := by
        intro st w' e h
        refine hJ4 _ _ ?_
        show pureK _ _ _
        rw [bin_add, wrap_id (by omega) (by omega)]
        rw [← hs] at e
        subst e
        exact hnext _ _ ⟨k + 1, hkl, rfl, h⟩ (by simp only; omega)
      clear hnext hs
      generalize (L.take k).foldl (resStep G) (Z, false) = st at *
      obtain ⟨V, d⟩ := st
      simp only at h
      unfold resStep at hJ4
      simp only at hJ4
      obtain ⟨g6, o6, hx6, hc6⟩ := rowR.idx (P := Tryz.prog) (rowD.read cl) sl_s_errataref30_Counted hkl
      have hc6 : cellsR g6 o6 L[k].cs B' := hc6
      obtain ⟨ba, hia, hla⟩ := svIdxB h (rowD.read c3) hvl
      rw [cellD.ld (h.hereB c0) sc_s_s_errataref30_Counted (o := 3) (v := bv) rfl, hia, hla, hx6, cellsR.ldAg (h.hereB hc6) ag_errataref30_Counted rfl]
      generalize L[k] = y at *
      refine h.allocAg (ds := y.cs.toArray) z_errataref30_Counted rfl ag_errataref30_Counted rfl (fun v hv => Enc.one y v hv) fun b w4 h => ?_
      have h : Rel B' w4 [rowD T_api_Value u ((List.range i).map (resAtF X)), cellD a T_api_Value V.cs.toArray, cellD b T_errataref30_Counted y.cs.toArray] := h
      simp -zeta only [field_addr f_errataref30_Counted_1, field_addr f_errataref30_Counted_0, Nat.zero_add]
      rw [h.ld 2 rfl sc_int (o := 3) (v := .int .i64 y.n) rfl, bin_gtr, ifB_dec]
      have put : 0 < y.n ∧ (d = false ∨ G.kind = 3) → readK Tryz.prog (sLoad T_api_Value (.pointer (some ⟨b, 0, none⟩))) w4 fun t91 => upK Tryz.prog (sStore T_api_Value (.pointer (some ⟨a, 0, none⟩)) t91) w4 fun tu w11 => J4 ((.bool true), ()) w11 := by
        intro cc
        rw [if_pos cc] at hJ4
        have hb : (cellsR b 0 y.cs).here w4 := cellD.sub (h.here (i := 2) rfl) rfl
        have hl := cellsR.ldAg (P := Tryz.prog) (T := T_api_Value) (Kp := fun t91 => upK Tryz.prog (sStore T_api_Value (.pointer (some ⟨a, 0, none⟩)) t91) w4 fun tu w11 => J4 ((.bool true), ()) w11) (cnt_v hb) ag_api_Value rfl
        rw [hl]
        refine h.stAll 1 (ds := y.v_.cs.toArray) rfl ag_api_Value rfl rfl (fun v hv => Enc.one y.v_ v hv) fun w5 h => ?_
        exact hJ4 _ _ rfl (h.take 2)
      refine ⟨fun cn => ?_, fun cn => ?_⟩
      case refine_2 =>
        rw [if_neg (fun hh => cn hh.1)] at hJ4
        exact hJ4 _ _ rfl (h.take 2)
      rw [un_not, ifB_not, ifB_bool]
      refine ⟨fun cd => ?_, fun cd => ?_⟩
      · subst cd
        obtain ⟨g, o, hix, hc⟩ := rowR.idx (P := Tryz.prog) (rowD.read c1) sl_s_api_Agg hil
        have hc : cellsR g o X.aggs[i].cs B' := hc
        rw [cellD.ld (h.hereB c0) sc_s_api_Agg (o := 0) (v := av) rfl, hix, field_addr f_api_Agg_0, Nat.add_zero, cellsR.ld0 (h.hereB hc) sc_int (v := .int .i64 X.aggs[i].kind) rfl]
        have hG : X.aggs[i] = G := by rw [List.getElem?_eq_getElem hil] at hgi; exact Option.some.inj hgi
        rw [hG, bin_eql, ifB_dec]
        refine ⟨fun c3 => put ⟨cn, .inr c3⟩, fun c3 => ?_⟩
        rw [if_neg (fun hh => hh.2.elim (fun h => by cases h) c3)] at hJ4
        exact hJ4 _ _ rfl (h.take 2)
      · exact put ⟨cn, .inl cd⟩
    clear hJ1
    rw [cellD.ld (h.hereB c0) sc_s_api_Agg (o := 0) (v := av) rfl, hix, field_addr f_api_Agg_0, Nat.add_zero, cellsR.ld0 (h.hereB hc) sc_int (v := .int .i64 G.kind) rfl, bin_eql, ifB_dec]
    refine ⟨fun c1' => ?_, fun c1' => ?_⟩
    · rw [if_pos c1'] at ez
      have hsl : i < X.sums.length := by rw [hx.sums]; exact hil
      obtain ⟨g7, o7, hx7, hc7⟩ := rowR.idx (P := Tryz.prog) (rowD.read c2) sl_s_int hsl
      rw [cellD.ld (h.hereB c0) sc_s_int (o := 2) (v := sv) rfl, hx7, cellsR.ld0 (h.hereB hc7) sc_int (v := .int .i64 X.sums[i]) rfl]
      rw [field_addr f_api_Value_1, Nat.zero_add]
      refine h.st 1 rfl sc_int (o := 1) (show 1 < 3 by omega) rfl fun w5 h => ?_
      rw [List.getElem?_eq_getElem hsl] at ez
      refine hJ3 _ _ ez.symm ?_
      have k0 : G.kind ≠ 0 := by omega
      rw [if_neg k0] at hV
      subst hV
      exact h
    · rw [if_neg c1'] at ez
      exact hJ3 _ _ ez.symm h
  rw [cellD.ld (h.hereB c0) sc_s_api_Agg (o := 0) (v := av) rfl, hix, field_addr f_api_Agg_0, Nat.add_zero, cellsR.ld0 (h.hereB hc) sc_int (v := .int .i64 G.kind) rfl, bin_eql, ifB_dec]
  refine ⟨fun c0' => ?_, fun c0' => ?_⟩
  · rw [if_pos c0'] at hJ2
    rw [cellD.ld (h.hereB c0) sc_int (o := 1) (v := .int .i64 X.n) rfl]
    rw [field_addr f_api_Value_1, Nat.zero_add]
    refine h.st 1 rfl sc_int (o := 1) (show 1 < 3 by omega) rfl fun w5 h => ?_
    exact hJ2 _ _ rfl h
  · rw [if_neg c0'] at hJ2
    exact hJ2 _ _ rfl h
theorem sum_take_le (l : List Nat) (i : Nat) : (l.take i).sum ≤ l.sum := by
  have := congrArg List.sum (List.take_append_drop i l)
  rw [List.sum_append] at this
  omega
theorem rRows_g (a : refD p X B) (hx : GoodF N X) (hr : rowsF X ≤ 1000000000) : Gives Tryz.prog B (sCall F_errataref30_Acc_Rows #[ptr p]) (.int .i64 (rowsF X)) := by
  refine Gives.intro fun B' w K base h k => ?_
  replace a := base a
  refine errataref30_Acc_Rows.up (errataref30_Acc_Rows.call ?_)
  unfold errataref30_Acc_Rows.pt
  obtain ⟨⟨⟨av, hav⟩, ⟨sv, hsv⟩, ⟨bv, hbv⟩, vs⟩, hvs, hr2⟩ := refD.read a
  replace hvs : vs.length = X.bags.length := hvs
  have c0 : cellD p T_errataref30_Acc #[av, .int .i64 X.n, sv, bv] B' := hr2 0 _ rfl
  have c3 : rowD T_s_errataref30_Counted bv vs B' := hr2 3 _ rfl
  have c4 : cntsD vs X.bags B' := hr2 4 _ rfl
  clear hr2 a
  have hfew := hx.few
  have hbl := hx.bags
  simp -zeta only [nil_ptr, field_addr f_errataref30_Acc_3, Nat.zero_add, Nat.add_zero]
  refine LOOP_intro (fun z w' => ∃ (i : Nat), i ≤ vs.length ∧ z = (.int .i64 (((X.bags.map List.length).take i).sum : Nat), .int .i64 i, ()) ∧ Rel B' w' [])
    (fun z _ => vs.length - (match z.2.1 with | .int _ n => n.toNat | _ => 0)) ⟨0, Nat.zero_le _, rfl, h⟩ ?_
  clear h
  rintro z w1 ⟨i, hi, rfl, h⟩ next hnext
  rw [cellD.ld (h.hereB c0) sc_s_s_errataref30_Counted (o := 3) (v := bv) rfl, rowR.len (rowD.read c3) sl_s_s_errataref30_Counted, bin_lss, ifB_dec]
  refine ⟨fun hlt => ?_, fun hge => ?_⟩
  case refine_2 =>
    have : i = vs.length := by omega
    subst this
    rw [hvs, show X.bags.length = (X.bags.map List.length).length by simp, List.take_length]
    exact k _ _ h
  have hil : i < vs.length := by omega
  have hib : i < X.bags.length := by omega
  have cl : rowD T_errataref30_Counted vs[i].1 X.bags[i] B' := cnts_get c4 (List.getElem?_eq_getElem hil) (List.getElem?_eq_getElem hib)
  obtain ⟨ba, hia, hla⟩ := svIdxB h (rowD.read c3) hil
  have e : ((X.bags.map List.length).take (i + 1)).sum = ((X.bags.map List.length).take i).sum + X.bags[i].length := by
    rw [List.take_succ_eq_append_getElem (by simpa using hib), List.sum_append]
    simp
  have hle := sum_take_le (X.bags.map List.length) (i + 1)
  rw [e] at hle
  have hle : ((X.bags.map List.length).take i).sum + X.bags[i].length ≤ 1000000000 := Nat.le_trans hle hr
  rw [cellD.ld (h.hereB c0) sc_s_s_errataref30_Counted (o := 3) (v := bv) rfl, hia, hla, rowR.len (rowD.read cl) sl_s_errataref30_Counted, bin_add, wrap_id (by omega) (by omega), bin_add, wrap_id (by omega) (by omega)]
  refine hnext _ _ ⟨i + 1, hil, ?_, h⟩ (by simp only; omega)
  rw [e]
  simp
/-- What can be written of it. -/
structure FitF (N : Nat) (X : RF) : Prop where
  good : GoodF N X
  n : inI X.n
  sum : ∀ (i : Nat) (s : Int), X.sums[i]? = some s → inI s
  bag : ∀ (i : Nat) (l : List CntD), X.bags[i]? = some l → ∀ x ∈ l, GoodVal x.v_ ∧ (bl x.v_.s).length ≤ 1000 ∧ inI x.n
theorem FitA.ref {x : ACC} (h : FitA N x) : FitF N (refOf x) := by
  have inv : ∀ (i : Nat) (l : List CntD), (refOf x).bags[i]? = some l → (l = [] ∨ ∃ b, x.bags[i]? = some (some b) ∧ l = refBag b) := fun i l hl => by
    have hl : (x.bags.map refO)[i]? = some l := hl
    rw [List.getElem?_map] at hl
    cases hb : x.bags[i]? with
    | none => rw [hb] at hl; cases hl
    | some b =>
      rw [hb] at hl
      have hl : refO b = l := by simpa using hl
      cases b with
      | none => exact .inl hl.symm
      | some b => exact .inr ⟨b, rfl, hl.symm⟩
  refine ⟨⟨h.good.few, h.good.sums, by show (x.bags.map refO).length = _; rw [List.length_map]; exact h.good.bags, fun i l hl => ?_⟩, h.count, h.sum, fun i l hl y hy => ?_⟩
  · rcases inv i l hl with rfl | ⟨b, hb, rfl⟩
    · exact Nat.zero_le _
    · have h4 := (h.good.wf i b hb).2
      have h5 := keysV_len b
      unfold refBag
      rw [List.length_map]
      omega
  · rcases inv i l hl with rfl | ⟨b, hb, rfl⟩
    · cases hy
    · obtain ⟨u, hu, rfl⟩ := List.mem_map.1 hy
      exact h.bag i b hb u hu
theorem encCnt_len {x : CntD} (h : GoodVal x.v_ ∧ (bl x.v_.s).length ≤ 1000 ∧ inI x.n) : (encCnt x).length ≤ 2000 := by
  have h1 := encV1_len h.1 h.2.1
  have h2 := encT_len (encV1 x.v_) (by omega)
  have h3 := encI_len h.2.2
  unfold encCnt
  rw [List.length_append]
  omega
set_option maxHeartbeats 1000000 in
theorem rBytes_g (a : refD p X B) (hf : FitF N X) (hN : N ≤ 1000000) (hl : (encF X).length ≤ 1099511627776) : Gives Tryz.prog B (sCall F_errataref30_Acc_Bytes #[ptr p]) (.string (ofL (encF X))) := by
  refine Gives.intro fun B' w K base h k => ?_
  replace a := base a
  refine errataref30_Acc_Bytes.up (errataref30_Acc_Bytes.call ?_)
  unfold errataref30_Acc_Bytes.pt
  obtain ⟨⟨⟨av, hav⟩, ⟨sv, hsv⟩, ⟨bv, hbv⟩, vs⟩, hvs, hr⟩ := refD.read a
  replace hvs : vs.length = X.bags.length := hvs
  have c0 : cellD p T_errataref30_Acc #[av, .int .i64 X.n, sv, bv] B' := hr 0 _ rfl
  have c1 : rowD T_api_Agg av X.aggs B' := hr 1 _ rfl
  have c2 : rowD T_int sv X.sums B' := hr 2 _ rfl
  have c3 : rowD T_s_errataref30_Counted bv vs B' := hr 3 _ rfl
  have c4 : cntsD vs X.bags B' := hr 4 _ rfl
  clear hr a
  have hx := hf.good
  have hfew := hx.few
  have hpre : ∀ i, i ≤ X.aggs.length → (encI X.n ++ (List.range i).flatMap (encAtF X)).length ≤ 1099511627776 := fun i hi => by
    have h1 := flat_take_le (encAtF X) (List.range X.aggs.length) i
    rw [List.take_range, Nat.min_eq_left hi] at h1
    unfold encF at hl
    rw [List.length_append] at hl ⊢
    omega
  simp -zeta only [nil_ptr, field_addr f_errataref30_Acc_1, field_addr f_errataref30_Acc_0, field_addr f_errataref30_Acc_2, field_addr f_errataref30_Acc_3, field_addr f_api_Agg_0, field_addr f_errataref30_Counted_0, field_addr f_errataref30_Counted_1, Nat.zero_add, Nat.add_zero]
  rw [cellD.ld (h.hereB c0) sc_int (o := 1) (v := .int .i64 X.n) rfl]
  refine h.ask (fun B2 own base2 => fInt_g hf.n) fun w1 h => ?_
  refine LOOP_intro (fun z w' => ∃ (i : Nat), i ≤ X.aggs.length ∧ z = (.string (ofL (encI X.n ++ (List.range i).flatMap (encAtF X))), .int .i64 i, ()) ∧ Rel B' w' [])
    (fun z _ => X.aggs.length - (match z.2.1 with | .int _ n => n.toNat | _ => 0)) ⟨0, Nat.zero_le _, by simp, h⟩ ?_
  clear h
  rintro z w2 ⟨i, hi, rfl, h⟩ next hnext
  rw [cellD.ld (h.hereB c0) sc_s_api_Agg (o := 0) (v := av) rfl, rowR.len (rowD.read c1) sl_s_api_Agg, bin_lss, ifB_dec]
  refine ⟨fun hlt => ?_, fun hge => ?_⟩
  case refine_2 =>
    have : i = X.aggs.length := by omega
    subst this
    exact k _ _ h
  clear k
  have hil : i < X.aggs.length := by omega
  have hgi : X.aggs[i]? = some X.aggs[i] := List.getElem?_eq_getElem hil
  have hbl : i < X.bags.length := by rw [hx.bags]; exact hil
  have hvl : i < vs.length := by omega
  have hsl : i < X.sums.length := by rw [hx.sums]; exact hil
  have hb0 : X.bags[i]? = some X.bags[i] := List.getElem?_eq_getElem hbl
  have hs0 : X.sums[i]? = some X.sums[i] := List.getElem?_eq_getElem hsl
  have hv0 : vs[i]? = some vs[i] := List.getElem?_eq_getElem hvl
  have cl : rowD T_errataref30_Counted vs[i].1 X.bags[i] B' := cnts_get c4 hv0 hb0
  have hlen := hx.len i _ hb0
  have hent := hf.bag i _ hb0
  have hsin := hf.sum i _ hs0
  have eat : encAtF X i = (if X.aggs[i].kind = 1 then encI X.sums[i] else []) ++ (if ordB X.aggs[i] then encI X.bags[i].length ++ X.bags[i].flatMap encCnt else []) := by
    rw [encAtF_eq, hgi, hs0, hb0]
    rfl
  have hp := hpre (i + 1) hil
  rw [List.range_succ, List.flatMap_append, List.flatMap_singleton, ← List.append_assoc] at hp
  obtain ⟨g, o, hix, hc⟩ := rowR.idx (P := Tryz.prog) (rowD.read c1) sl_s_api_Agg hil
  have hc : cellsR g o X.aggs[i].cs B' := hc
  refine LETJ_intro fun J1 hJ1 => ?_
  replace hJ1 : ∀ (w' : World) (τ : List Dat), Rel B' w' τ → J1 (.string (ofL (encI X.n ++ (List.range i).flatMap (encAtF X) ++ encAtF X i)), ()) w' := by
    intro w' τ h
    refine hJ1 _ _ ?_
    show pureK _ _ _
    rw [bin_add, wrap_id (by omega) (by omega)]
    refine hnext _ _ ⟨i + 1, hil, ?_, h.nil⟩ (by simp only; omega)
    rw [List.range_succ, List.flatMap_append, List.flatMap_singleton, List.append_assoc]
    rfl
  clear hnext hpre
  rw [eat] at hJ1 hp
  clear eat
  generalize encI X.n ++ (List.range i).flatMap (encAtF X) = S at *
  generalize hG : X.aggs[i] = G at *
  generalize hL : X.bags[i] = L at *
  generalize hS : X.sums[i] = q at *
  have hq := encI_len hsin
  refine LETJ_intro fun J2 hJ2 => ?_
  replace hJ2 : ∀ (w' : World), Rel B' w' [] → J2 (.string (ofL (S ++ (if G.kind = 1 then encI q else []))), ()) w' := by
    intro w' h
    refine hJ2 _ _ ?_
    clear hJ2
    rw [cellD.ld (h.hereB c0) sc_s_api_Agg (o := 0) (v := av) rfl, hix, cellsR.ldAg (h.hereB hc) ag_api_Agg rfl]
    refine h.ask (fun B2 own base2 => rOrdered_g G) fun w3 h => ?_
    rw [un_not, ifB_not, ifB_bool]
    refine ⟨fun co => ?_, fun co => ?_⟩
    case refine_2 =>
      rw [if_neg (c := ordB G = true) (by rw [co]; decide), List.append_nil] at hJ1
      exact hJ1 _ _ h
    rw [if_pos co] at hJ1 hp
    have hin : inI (L.length : Int) := ⟨by omega, by omega⟩
    have en : encN (L.length : Int) = encI L.length := by unfold encN; rw [if_neg (by omega)]
    have hli := encI_len hin
    obtain ⟨ba, hia, hla⟩ := svIdxB h (rowD.read c3) hvl
    rw [cellD.ld (h.hereB c0) sc_s_s_errataref30_Counted (o := 3) (v := bv) rfl, hia, hla, rowR.len (rowD.read cl) sl_s_errataref30_Counted]
    refine h.ask (fun B2 own base2 => fNum_g hin) fun w4 h => ?_
    rw [en]
    simp only [List.length_append] at hp
    rw [strL_add (by rw [List.length_append]; omega)]
    generalize hS2 : S ++ (if G.kind = 1 then encI q else []) = S2 at *
    have hS2l : S2.length + ((encI (L.length : Int)).length + (L.flatMap encCnt).length) ≤ 1099511627776 := by
      rw [← hS2, List.length_append]; omega
    rw [← List.append_assoc S, hS2] at hJ1
    refine LOOP_intro (fun z w' => ∃ (k : Nat), k ≤ L.length ∧ z = (.string (ofL (S2 ++ encI L.length ++ (L.take k).flatMap encCnt)), .int .i64 k, ()) ∧ Rel B' w' [])
      (fun z _ => L.length - (match z.2.1 with | .int _ n => n.toNat | _ => 0)) ⟨0, Nat.zero_le _, by simp, h⟩ ?_
    clear h
    rintro z w5 ⟨k, hk, rfl, h⟩ next hnext
    obtain ⟨ba, hia, hla⟩ := svIdxB h (rowD.read c3) hvl
    rw [cellD.ld (h.hereB c0) sc_s_s_errataref30_Counted (o := 3) (v := bv) rfl, hia, hla, rowR.len (rowD.read cl) sl_s_errataref30_Counted, bin_lss, ifB_dec]
    refine ⟨fun hlt => ?_, fun hge => ?_⟩
    case refine_2 =>
      have : k = L.length := by omega
      subst this
      rw [List.take_length, List.append_assoc]
      exact hJ1 _ _ h
    clear hJ1
    have hkl : k < L.length := by omega
    have hy := hent L[k] (List.getElem_mem hkl)
    have hstep := flat_take_succ encCnt hkl
    have hle := flat_take_le encCnt L (k + 1)
    rw [hstep, List.length_append] at hle
    have hyl := encCnt_len hy
    rw [cellD.ld (h.hereB c0) sc_s_s_errataref30_Counted (o := 3) (v := bv) rfl, hia, hla]
    obtain ⟨g6, o6, hx6, hc6⟩ := rowR.idx (P := Tryz.prog) (rowD.read cl) sl_s_errataref30_Counted hkl
    have hc6 : cellsR g6 o6 L[k].cs B' := hc6
    rw [hx6, cellsR.ldAg (h.hereB hc6) ag_errataref30_Counted rfl]
    generalize L[k] = y at *
    refine h.allocAg (ds := y.cs.toArray) z_errataref30_Counted rfl ag_errataref30_Counted rfl (fun v hv => Enc.one y v hv) fun b w6 h => ?_
    have h : Rel B' w6 [cellD b T_errataref30_Counted y.cs.toArray] := h
    have h := h.tick
    generalize tick w6 = w6 at *
    have hb : (cellsR b 0 y.cs).here w6 := cellD.sub (h.here (i := 0) rfl) rfl
    simp -zeta only [field_addr f_errataref30_Counted_1, field_addr f_errataref30_Counted_0, Nat.zero_add]
    rw [cellsR.ldAg (cnt_v hb) ag_api_Value rfl, h.ld 0 rfl sc_int (o := 3) (v := .int .i64 y.n) rfl]
    have z1 := encV1_len hy.1 hy.2.1
    have z2 := encT_len (encV1 y.v_) (by omega)
    have z3 := encI_len hy.2.2
    have ey : encCnt y = encT (encV1 y.v_) ++ encI y.n := rfl
    rw [ey] at hstep hle
    simp only [List.length_append] at hle
    refine h.ask (fun B2 own base2 => fBytes_g hy.1 (by omega)) fun w7 h => ?_
    refine ⟨h.is 0 rfl sc_int (o := 3) rfl, ?_⟩
    refine h.ask (fun B2 own base2 => fText_g (by omega)) fun w8 h => ?_
    refine ⟨h.is 0 rfl sc_int (o := 3) rfl, ?_⟩
    rw [strL_add (by simp only [List.length_append]; omega)]
    refine h.ask (fun B2 own base2 => fInt_g hy.2.2) fun w9 h => ?_
    rw [strL_add (by simp only [List.length_append]; omega), bin_add, wrap_id (by omega) (by omega)]
    refine hnext _ _ ⟨k + 1, hkl, ?_, h.nil⟩ (by simp only; omega)
    rw [hstep]
    simp only [List.append_assoc]
    rfl
  clear hJ1
  rw [cellD.ld (h.hereB c0) sc_s_api_Agg (o := 0) (v := av) rfl, hix, field_addr f_api_Agg_0, Nat.add_zero, cellsR.ld0 (h.hereB hc) sc_int (v := .int .i64 G.kind) rfl, bin_eql, ifB_dec]
  refine ⟨fun c1' => ?_, fun c1' => ?_⟩
  · rw [if_pos c1'] at hJ2 hp
    obtain ⟨g7, o7, hx7, hc7⟩ := rowR.idx (P := Tryz.prog) (rowD.read c2) sl_s_int hsl
    rw [cellD.ld (h.hereB c0) sc_s_int (o := 2) (v := sv) rfl, hx7, cellsR.ld0 (h.hereB hc7) sc_int (v := .int .i64 X.sums[i]) rfl, hS]
    refine h.ask (fun B2 own base2 => fInt_g hsin) fun w3 h => ?_
    simp only [List.length_append] at hp
    rw [strL_add (by omega)]
    exact hJ2 _ h
  · rw [if_neg c1', List.append_nil] at hJ2
    exact hJ2 _ h
theorem rEmpty_g (a : refD p X B) (hf : FitF N X) (hN : N ≤ 1000000) (hl : (encF X).length ≤ 1099511627776) (hl2 : (encF (newF X.aggs)).length ≤ 1099511627776) : Gives Tryz.prog B (sCall F_errataref30_Acc_Empty #[ptr p]) (.bool (decide (encF X = encF (newF X.aggs)))) := by
  refine Gives.intro fun B' w K base h k => ?_
  replace a := base a
  refine errataref30_Acc_Empty.up (errataref30_Acc_Empty.call ?_)
  unfold errataref30_Acc_Empty.pt
  obtain ⟨⟨⟨av, hav⟩, ⟨sv, hsv⟩, ⟨bv, hbv⟩, vs⟩, hvs, hr⟩ := refD.read a
  have c0 : cellD p T_errataref30_Acc #[av, .int .i64 X.n, sv, bv] B' := hr 0 _ rfl
  have c1 : rowD T_api_Agg av X.aggs B' := hr 1 _ rfl
  have h := h.tick
  generalize tick w = w at *
  simp -zeta only [nil_ptr, field_addr f_errataref30_Acc_0, Nat.zero_add, Nat.add_zero]
  rw [cellD.ld (h.hereB c0) sc_s_api_Agg (o := 0) (v := av) rfl]
  refine h.ask (fun B2 own base2 => rBytes_g (base2 a) hf hN hl) fun w1 h => ?_
  refine ⟨cellD.is (h.hereB c0) sc_s_api_Agg (o := 0) rfl, ?_⟩
  refine h.make (fun B2 own base2 => rNew_m (rowD.read (base2 c1)) hf.good.few) fun u τ w2 hp h => ?_
  obtain ⟨p2, rfl, rfl⟩ := hp
  have h : Rel B' w2 [refD p2 (newF X.aggs)] := h
  have fn : FitF 0 (newF X.aggs) := ⟨newF_good hf.good.few, ⟨by show _ ≤ (0 : Int); omega, by show (0 : Int) ≤ _; omega⟩, fun i s hs => by
    have hs : (List.replicate X.aggs.length (0 : Int))[i]? = some s := hs
    rw [(List.mem_replicate.1 (List.mem_of_getElem? hs)).2]
    exact ⟨by omega, by omega⟩, fun i l hl x hx => by
    have hl : (List.replicate X.aggs.length ([] : List CntD))[i]? = some l := hl
    rw [(List.mem_replicate.1 (List.mem_of_getElem? hl)).2] at hx
    cases hx⟩
  refine h.ask (fun B2 own base2 => rBytes_g (own (i := 0) rfl) fn (by omega) hl2) fun w3 h => ?_
  have e : decide (ofL (encF X) = ofL (encF (newF X.aggs))) = decide (encF X = encF (newF X.aggs)) := by
    rw [Bool.eq_iff_iff, decide_eq_true_eq, decide_eq_true_eq]
    exact ⟨fun h => by have := congrArg bl h; rw [bl_ofL, bl_ofL] at this; exact this, fun h => by rw [h]⟩
  rw [eql_str, e]
  exact k _ _ h
end
end Go.Proofs.YtoebncgnjbblgaaGreatDoor
/-
  The reference's accumulators in memory: Alike, Merge. No condition.
-/
namespace Go.Proofs.YtoebncgnjbblgaaGreatDoor
open Go.RowKit
set_option maxRecDepth 100000

section
variable {B : Base} {w : World} {σ : List Dat} {p p2 : Nat} {X Y : RF} {N M : Nat}
theorem rAlike_g {u v : Value} {aggs : List AggD} (r1 : rowR u aggs B) (r2 : rowR v aggs B) (hl : aggs.length ≤ 1000) : Gives Tryz.prog B (sCall F_errataref30_Alike #[u, v]) (.bool true) := by
  refine Gives.intro fun B' w K base h k => ?_
  replace r1 := base r1
  replace r2 := base r2
  refine errataref30_Alike.up (errataref30_Alike.call ?_)
  unfold errataref30_Alike.pt
  rw [rowR.len r1 sl_s_api_Agg, rowR.len r2 sl_s_api_Agg, bin_neq, ifB_not, ifB_dec]
  refine ⟨fun _ => ?_, fun hh => absurd rfl hh⟩
  refine LOOP_intro (fun z w' => ∃ (i : Nat), i ≤ aggs.length ∧ z = (.int .i64 i, ()) ∧ Rel B' w' []) (fun z _ => aggs.length - (match z.1 with | .int _ n => n.toNat | _ => 0))
    ⟨0, Nat.zero_le _, rfl, h⟩ ?_
  clear h
  rintro z w1 ⟨i, hi, rfl, h⟩ next hnext
  rw [rowR.len r1 sl_s_api_Agg, bin_lss, ifB_dec]
  refine ⟨fun hlt => ?_, fun hge => k _ _ h⟩
  have hil : i < aggs.length := by omega
  refine LETJ_intro fun J hJ => ?_
  have hJ : ∀ w', Rel B' w' [] → J () w' := fun w' h => hJ _ _ (by
    show pureK _ _ _
    rw [bin_add, wrap_id (by omega) (by omega)]
    exact hnext _ _ ⟨i + 1, hil, rfl, h⟩ (by simp only; omega))
  have h := h.tick
  generalize tick w1 = w1 at *
  obtain ⟨g1, o1, hx1, hc1⟩ := rowR.idx r1 sl_s_api_Agg (P := Tryz.prog) hil
  obtain ⟨g2, o2, hx2, hc2⟩ := rowR.idx r2 sl_s_api_Agg (P := Tryz.prog) hil
  have hc1 : cellsR g1 o1 aggs[i].cs B' := hc1
  have hc2 : cellsR g2 o2 aggs[i].cs B' := hc2
  simp -zeta only [hx1, hx2, field_addr f_api_Agg_0, field_addr f_api_Agg_1, Nat.add_zero]
  rw [cellsR.ld0 (h.hereB hc1) sc_int (v := .int .i64 aggs[i].kind) rfl, cellsR.ld0 (h.hereB hc2) sc_int (v := .int .i64 aggs[i].kind) rfl, bin_neq, ifB_not, ifB_dec]
  refine ⟨fun _ => ?_, fun hh => absurd rfl hh⟩
  rw [cellsR.ld0 (h.hereB hc1) sc_int (v := .int .i64 aggs[i].kind) rfl, bin_neq, ifB_not, ifB_dec]
  refine ⟨fun _ => hJ _ h, fun _ => ?_⟩
  rw [cellsR.ld (h.hereB hc1) sc_int (j := 1) (v := .int .i64 aggs[i].col) rfl, cellsR.ld (h.hereB hc2) sc_int (j := 1) (v := .int .i64 aggs[i].col) rfl, bin_neq, ifB_not, ifB_dec]
  exact ⟨fun _ => hJ _ h, fun hh => absurd rfl hh⟩
theorem mergeBag_len : ∀ (m l : List CntD), (mergeBag l m).length ≤ l.length + m.length
  | [], l => by simp [mergeBag]
  | x :: m, l => by
    have h1 := mergeBag_len m (withS l x.v_ x.n)
    have h2 := withS_len l x.v_ x.n
    show (mergeBag (withS l x.v_ x.n) m).length ≤ _
    rw [List.length_cons]
    omega
theorem GoodF.mergeK (hx : GoodF N X) (hy : GoodF M Y) (k : Nat) : GoodF (N + M) (mergeKF Y X k) := by
  obtain ⟨s1, s2, s3, s4⟩ := mergeKF_same Y X k
  refine ⟨by rw [s1]; exact hx.few, by rw [s3, s1]; exact hx.sums, by rw [s4, s1]; exact hx.bags, fun i l hl => ?_⟩
  rw [(mergeKF_get Y X k i).2] at hl
  split at hl
  · cases hb : X.bags[i]? with
    | none => rw [hb] at hl; cases hl
    | some l0 =>
      rw [hb] at hl
      have h0 := hx.len i l0 hb
      have hl : mergeBag l0 ((Y.bags[i]?).getD []) = l := by simpa using hl
      subst hl
      have h1 := mergeBag_len ((Y.bags[i]?).getD []) l0
      cases hc : Y.bags[i]? with
      | none => rw [hc] at h1; simp at h1 ⊢; omega
      | some m =>
        rw [hc] at h1
        have h2 := hy.len i m hc
        simp at h1 ⊢
        omega
  · have := hx.len i l hl; omega
set_option maxHeartbeats 1000000 in
theorem rMerge_d (b : refD p2 Y B) (hx : GoodF N X) (hy : GoodF M Y) (ha : X.aggs = Y.aggs) (hN : N + M ≤ 1000000) : Does Tryz.prog B (refD p X) (sCall F_errataref30_Acc_Merge #[ptr p, ptr p2]) fun u e' τ => u = .int .i64 0 ∧ e' = refD p (mergeF X Y) ∧ τ = [] := by
  refine Does.intro fun B' w K base h k => ?_
  replace b := base b
  refine errataref30_Acc_Merge.up (errataref30_Acc_Merge.call ?_)
  unfold errataref30_Acc_Merge.pt
  unfold mergeF at k
  obtain ⟨⟨⟨av2, hav2⟩, ⟨sv2, hsv2⟩, ⟨bv2, hbv2⟩, vs2⟩, hvs2, hr⟩ := refD.read b
  have hvs2 : vs2.length = Y.bags.length := hvs2
  have c0 : cellD p2 T_errataref30_Acc #[av2, .int .i64 Y.n, sv2, bv2] B' := hr 0 _ rfl
  have c1 : rowD T_api_Agg av2 Y.aggs B' := hr 1 _ rfl
  have c2 : rowD T_int sv2 Y.sums B' := hr 2 _ rfl
  have c3 : rowD T_s_errataref30_Counted bv2 vs2 B' := hr 3 _ rfl
  have c4 : cntsD vs2 Y.bags B' := hr 4 _ rfl
  clear hr b
  obtain ⟨⟨⟨av, hav⟩, ⟨sv, hsv⟩, ⟨bv, hbv⟩, vs⟩, hvs, h⟩ := refD.open h
  replace hvs : vs.length = X.bags.length := hvs
  have h : Rel B' w [cellD p T_errataref30_Acc #[av, .int .i64 X.n, sv, bv], rowD T_api_Agg av X.aggs, rowD T_int sv X.sums, rowD T_s_errataref30_Counted bv vs, cntsD vs X.bags] := h
  have k : ∀ (w' : World) (vs : List SV), vs.length = (mergeKF Y X X.aggs.length).bags.length → Rel B' w' [cellD p T_errataref30_Acc #[av, .int .i64 (mergeKF Y X X.aggs.length).n, sv, bv], rowD T_api_Agg av (mergeKF Y X X.aggs.length).aggs, rowD T_int sv (mergeKF Y X X.aggs.length).sums, rowD T_s_errataref30_Counted bv vs, cntsD vs (mergeKF Y X X.aggs.length).bags] → K (.int .i64 0) w' := fun w' vs hl h =>
    k _ _ [] w' ⟨rfl, rfl, rfl⟩ (refD.close (p := p) (X := mergeKF Y X X.aggs.length) (τ := []) ⟨⟨av, hav⟩, ⟨sv, hsv⟩, ⟨bv, hbv⟩, vs⟩ hl h)
  have hfew := hx.few
  have h := h.tick
  generalize tick w = w at *
  simp -zeta only [nil_ptr, field_addr f_errataref30_Acc_1, field_addr f_errataref30_Acc_0, field_addr f_errataref30_Acc_2, field_addr f_errataref30_Acc_3, Nat.zero_add]
  rw [h.ld 0 rfl sc_s_api_Agg (o := 0) (v := av) rfl, cellD.ld (h.hereB c0) sc_s_api_Agg (o := 0) (v := av2) rfl]
  refine h.ask (fun B2 own base2 => rAlike_g (aggs := X.aggs) (rowD.read (own (i := 1) rfl)) (by rw [ha]; exact rowD.read (base2 c1)) hfew) fun w1 h => ?_
  rw [un_not, Bool.not_true, ifB_false]
  have h := h.tick
  generalize tick w1 = w1 at *
  rw [h.ld 0 rfl sc_int (o := 1) (v := .int .i64 X.n) rfl, cellD.ld (h.hereB c0) sc_int (o := 1) (v := .int .i64 Y.n) rfl, bin_add]
  refine h.st 0 rfl sc_int (o := 1) (show 1 < 4 by omega) rfl fun w2 h => ?_
  have h : Rel B' w2 [cellD p T_errataref30_Acc #[av, .int .i64 (mergeKF Y X 0).n, sv, bv], rowD T_api_Agg av (mergeKF Y X 0).aggs, rowD T_int sv (mergeKF Y X 0).sums, rowD T_s_errataref30_Counted bv vs, cntsD vs (mergeKF Y X 0).bags] := h
  refine LOOP_intro (fun y w' => ∃ (i : Nat) (vs : List SV), i ≤ X.aggs.length ∧ y = (.int .i64 i, ()) ∧ vs.length = X.bags.length ∧ Rel B' w' [cellD p T_errataref30_Acc #[av, .int .i64 (mergeKF Y X i).n, sv, bv], rowD T_api_Agg av (mergeKF Y X i).aggs, rowD T_int sv (mergeKF Y X i).sums, rowD T_s_errataref30_Counted bv vs, cntsD vs (mergeKF Y X i).bags])
    (fun y _ => X.aggs.length - (match y.1 with | .int _ n => n.toNat | _ => 0)) ⟨0, vs, Nat.zero_le _, rfl, hvs, h⟩ ?_
  clear h
  rintro y w1 ⟨i, vs, hi, rfl, hvs, h⟩ next hnext
  obtain ⟨s1, s2, s3, s4⟩ := mergeKF_same Y X i
  rw [h.ld 0 rfl sc_s_api_Agg (o := 0) (v := av) rfl, rowR.len (rowD.read (h.here (i := 1) rfl)) sl_s_api_Agg, s1]
  simp -zeta only [bin_lss, ifB_dec]
  refine ⟨fun hlt => ?_, fun hge => ?_⟩
  case refine_2 =>
    have : i = X.aggs.length := by omega
    subst this
    exact k _ _ (by rw [s4, hvs]) h
  have hil : i < X.aggs.length := by omega
  have hz := hx.mergeK hy i
  generalize hye : mergeKF Y X i = Z at *
  refine LETJ_intro fun J hJ => ?_
  replace hJ : ∀ (w' : World) (Z' : RF) (vs : List SV), Z' = mergeAtF Y Z i → vs.length = X.bags.length → Rel B' w' [cellD p T_errataref30_Acc #[av, .int .i64 Z'.n, sv, bv], rowD T_api_Agg av Z'.aggs, rowD T_int sv Z'.sums, rowD T_s_errataref30_Counted bv vs, cntsD vs Z'.bags] → J () w' := by
    intro w' Z' vs hz hl h
    refine hJ _ _ ?_
    show pureK _ _ _
    rw [bin_add, wrap_id (by omega) (by omega)]
    have e : Z' = mergeKF Y X (i + 1) := by rw [hz, mergeKF_succ, hye]
    subst e
    exact hnext _ _ ⟨i + 1, vs, hil, rfl, hl, h⟩ (by simp only; omega)
  clear hnext k
  have hsl : i < Z.sums.length := by rw [hz.sums, s1]; exact hil
  have hbl : i < Z.bags.length := by rw [hz.bags, s1]; exact hil
  have hyl : i < Y.aggs.length := by rw [← ha]; exact hil
  have hsl2 : i < Y.sums.length := by rw [hy.sums]; exact hyl
  have hbl2 : i < Y.bags.length := by rw [hy.bags]; exact hyl
  have hvl2 : i < vs2.length := by omega
  have h := h.tick
  generalize tick w1 = w1 at *
  obtain ⟨gs, cap, rfl⟩ := h.open_ (i := 2) rfl (by omega)
  have hel := h.elem (α := Int) (i := 2) rfl hsl
  obtain ⟨g7, o7, hx7, hc7⟩ := rowR.idx (P := Tryz.prog) (rowD.read c2) sl_s_int hsl2
  rw [h.ld 0 rfl sc_s_int (o := 2) (v := .slice (some ⟨gs, 0, none⟩) Z.sums.length cap) rfl, h.ld 0 rfl sc_s_int (o := 2) (v := .slice (some ⟨gs, 0, none⟩) Z.sums.length cap) rfl, idx_own (α := Int) sl_s_int hsl, cellsR.ld0 hel sc_int (v := .int .i64 Z.sums[i]) rfl,
    cellD.ld (h.hereB c0) sc_s_int (o := 2) (v := sv2) rfl, hx7, cellsR.ld0 (h.hereB hc7) sc_int (v := .int .i64 Y.sums[i]) rfl, bin_add, idx_own (α := Int) sl_s_int hsl]
  refine h.set_sc (α := Int) 2 rfl (W64 (Z.sums[i] + Y.sums[i])) (j := i) hsl (f := 0) rfl (by decide) rfl sc_int rfl fun w5 h => ?_
  have e1 : (Z.sums.modify i fun s => W64 (s + (Y.sums[i]?).getD 0)) = Z.sums.set i (W64 (Z.sums[i] + Y.sums[i])) := by
    rw [modify_set _ (List.getElem?_eq_getElem hsl), List.getElem?_eq_getElem hsl2]
    rfl
  have e2 : (Z.bags.modify i fun l => mergeBag l ((Y.bags[i]?).getD [])) = Z.bags.set i (mergeBag Z.bags[i] Y.bags[i]) := by
    rw [modify_set _ (List.getElem?_eq_getElem hbl), List.getElem?_eq_getElem hbl2]
    rfl
  have hm : mergeAtF Y Z i = { Z with sums := Z.sums.set i (W64 (Z.sums[i] + Y.sums[i])), bags := Z.bags.set i (mergeBag Z.bags[i] Y.bags[i]) } := by
    unfold mergeAtF
    rw [e1, e2]
  have hJ : ∀ (w' : World) (vs : List SV), vs.length = X.bags.length → Rel B' w' [cellD p T_errataref30_Acc #[av, .int .i64 Z.n, .slice (some ⟨gs, 0, none⟩) Z.sums.length cap, bv], rowD T_api_Agg av Z.aggs, rowD T_int (.slice (some ⟨gs, 0, none⟩) Z.sums.length cap) (Z.sums.set i (W64 (Z.sums[i] + Y.sums[i]))), rowD T_s_errataref30_Counted bv vs, cntsD vs (Z.bags.set i (mergeBag Z.bags[i] Y.bags[i]))] → J () w' := fun w' vs hl h => hJ w' _ vs hm.symm hl h
  clear e1 e2 hm
  have cl : rowD T_errataref30_Counted vs2[i].1 Y.bags[i] B' := cnts_get c4 (List.getElem?_eq_getElem hvl2) (List.getElem?_eq_getElem hbl2)
  have hlen2 := hy.len i _ (List.getElem?_eq_getElem hbl2)
  have hlen1 := hx.len
  obtain ⟨ba, hia, hla⟩ := svIdxB h (rowD.read c3) hvl2
  rw [cellD.ld (h.hereB c0) sc_s_s_errataref30_Counted (o := 3) (v := bv2) rfl, hia, hla]
  clear hia hla
  have hZb : (Z.bags[i]).length ≤ N := by
    have hX : i < X.bags.length := by rw [hx.bags]; exact hil
    have hg := (mergeKF_get Y X i i).2
    rw [hye, if_neg (Nat.lt_irrefl i)] at hg
    have hq := hx.len i _ (List.getElem?_eq_getElem hX)
    rw [List.getElem?_eq_getElem hbl, List.getElem?_eq_getElem hX] at hg
    rw [Option.some.inj hg]
    exact hq
  generalize hm : Y.bags[i] = m at *
  have hset : Z.bags.set i (mergeBag Z.bags[i] []) = Z.bags := List.set_getElem_self hbl
  refine LOOP_intro (fun z w' => ∃ (k : Nat) (vs : List SV), k ≤ m.length ∧ z = (.int .i64 k, ()) ∧ vs.length = X.bags.length ∧ Rel B' w' [cellD p T_errataref30_Acc #[av, .int .i64 Z.n, .slice (some ⟨gs, 0, none⟩) Z.sums.length cap, bv], rowD T_api_Agg av Z.aggs, rowD T_int (.slice (some ⟨gs, 0, none⟩) Z.sums.length cap) (Z.sums.set i (W64 (Z.sums[i] + Y.sums[i]))), rowD T_s_errataref30_Counted bv vs, cntsD vs (Z.bags.set i (mergeBag Z.bags[i] (m.take k)))])
    (fun z _ => m.length - (match z.1 with | .int _ n => n.toNat | _ => 0)) ⟨0, vs, Nat.zero_le _, rfl, hvs, by rw [List.take_zero, hset]; exact h⟩ ?_
  clear h
  rintro z w6 ⟨k, vs, hk, rfl, hvs, h⟩ next hnext
  rw [rowR.len (rowD.read cl) sl_s_errataref30_Counted, bin_lss, ifB_dec]
  refine ⟨fun hlt => ?_, fun hge => ?_⟩
  case refine_2 =>
    have : k = m.length := by omega
    subst this
    rw [List.take_length] at h
    exact hJ _ vs hvs h
  have hkl : k < m.length := by omega
  have hvl : i < vs.length := by rw [hvs, ← s4]; exact hbl
  have h := h.tick
  generalize tick w6 = w6 at *
  have hmk := mergeBag_len (m.take k) Z.bags[i]
  rw [List.length_take] at hmk
  have hstep : mergeBag Z.bags[i] (m.take (k + 1)) = withS (mergeBag Z.bags[i] (m.take k)) m[k].v_ m[k].n := by
    unfold mergeBag
    rw [List.take_succ_eq_append_getElem hkl, List.foldl_append]
    rfl
  have hnx : ∀ (w' : World) (vs : List SV), vs.length = X.bags.length → Rel B' w' [cellD p T_errataref30_Acc #[av, .int .i64 Z.n, .slice (some ⟨gs, 0, none⟩) Z.sums.length cap, bv], rowD T_api_Agg av Z.aggs, rowD T_int (.slice (some ⟨gs, 0, none⟩) Z.sums.length cap) (Z.sums.set i (W64 (Z.sums[i] + Y.sums[i]))), rowD T_s_errataref30_Counted bv vs, cntsD vs (Z.bags.set i (withS (mergeBag Z.bags[i] (m.take k)) m[k].v_ m[k].n))] → next (.int .i64 ((k : Int) + 1), ()) w' := fun w' vs hl h => by
    rw [← hstep] at h
    exact hnext _ _ ⟨k + 1, vs, hkl, rfl, hl, h⟩ (by simp only; omega)
  clear hnext hJ hstep
  generalize mergeBag Z.bags[i] (m.take k) = L at *
  have hbs : (Z.bags.set i L)[i]? = some L := List.getElem?_set_self hbl
  have hbsl : i < (Z.bags.set i L).length := by rw [List.length_set]; exact hbl
  have hset2 : ∀ L2, (Z.bags.set i L).set i L2 = Z.bags.set i L2 := fun L2 => List.set_set ..
  generalize Z.bags.set i L = ZB at *
  obtain ⟨ba, hia, hla⟩ := svIdx h (rowD.read (h.here (i := 3) rfl)) hvl
  obtain ⟨g6, o6, hx6, hc6⟩ := rowR.idx (P := Tryz.prog) (rowD.read cl) sl_s_errataref30_Counted hkl
  have hc6 : cellsR g6 o6 m[k].cs B' := hc6
  rw [h.ld 0 rfl sc_s_s_errataref30_Counted (o := 3) (v := bv) rfl, h.ld 0 rfl sc_s_s_errataref30_Counted (o := 3) (v := bv) rfl, hia, hla, hx6, field_addr f_errataref30_Counted_0, Nat.add_zero, cellsR.ldAg (h.hereB (cnt_v hc6)) ag_api_Value rfl, hx6, field_addr f_errataref30_Counted_1, cellsR.ld (h.hereB hc6) sc_int (j := 3) (v := .int .i64 m[k].n) rfl]
  clear hia hla
  generalize m[k] = y at *
  refine h.make (fun B2 own base2 => With_m (rowD.read (cnts_get (own (i := 4) rfl) (List.getElem?_eq_getElem hvl) hbs)) y.v_ y.n (by omega)) fun u τ w7 hp h => ?_
  subst hp
  have hu1 : u.oneCell' = true := h.oneCell (i := 5) rfl
  refine ⟨h.is 0 rfl sc_s_s_errataref30_Counted (o := 3) rfl, ?_⟩
  obtain ⟨gb, cap2, rfl⟩ := h.open_ (i := 3) rfl (by omega)
  rw [idx_own (α := SV) sl_s_s_errataref30_Counted hvl]
  refine h.set_sc (α := SV) 3 rfl ⟨u, hu1⟩ (j := i) hvl (f := 0) rfl (by decide) rfl sc_s_errataref30_Counted hu1 fun w8 h => ?_
  have h : Rel B' w8 ([cellD p T_errataref30_Acc #[av, .int .i64 Z.n, .slice (some ⟨gs, 0, none⟩) Z.sums.length cap, .slice (some ⟨gb, 0, none⟩) vs.length cap2], rowD T_api_Agg av Z.aggs, rowD T_int (.slice (some ⟨gs, 0, none⟩) Z.sums.length cap) (Z.sums.set i (W64 (Z.sums[i] + Y.sums[i]))), rowD T_s_errataref30_Counted (.slice (some ⟨gb, 0, none⟩) vs.length cap2) (vs.set i ⟨u, hu1⟩), cntsD vs ZB] ++ [rowD T_errataref30_Counted (⟨u, hu1⟩ : SV).1 (withS L y.v_ y.n)]) := h
  have h := cnts_put (i := i) h 4 rfl hvl hbsl
  rw [bin_add, wrap_id (by omega) (by omega)]
  rw [hset2] at h
  exact hnx _ (vs.set i ⟨u, hu1⟩) (List.length_set.trans hvs) h
end
end Go.Proofs.YtoebncgnjbblgaaGreatDoor
/-
  The reference's types and columns; columns compared. No condition.
-/
namespace Go.Proofs.YtoebncgnjbblgaaGreatDoor
open Go.RowKit
set_option maxRecDepth 100000

section
variable {B : Base} {w : World} {σ : List Dat}
theorem rType_g {v : Value} {cols : List ColD} (r : rowR v cols B) (g : AggD) : Gives Tryz.prog B (sCall F_errataref30_Type #[g.v, v]) (.tuple #[.int .i64 (typeS g cols).1, .int .i64 (typeS g cols).2]) := by
  refine Gives.intro fun B' w K base h k => ?_
  replace r := base r
  refine errataref30_Type.up (errataref30_Type.call ?_)
  unfold errataref30_Type.pt
  refine h.box fun o w1 h => ?_
  have h : Rel B' w1 [cellD o T_api_Agg g.cs.toArray] := h
  unfold typeS at k
  simp -zeta only [field_addr f_api_Agg_0, field_addr f_api_Agg_1, Nat.zero_add]
  simp -zeta only [h.ld 0 rfl sc_int (o := 0) (v := .int .i64 g.kind) rfl, h.ld 0 rfl sc_int (o := 1) (v := .int .i64 g.col) rfl, bin_lss, bin_gtr, bin_geq, bin_eql, ifB_dec, rowR.len r sl_s_api_Col]
  refine ⟨fun c => by rw [if_pos (.inl c)] at k; exact k _ _ h, fun c1 => ⟨fun c => by rw [if_pos (.inr (by omega))] at k; exact k _ _ h, fun c2 => ?_⟩⟩
  rw [if_neg (fun hh => hh.elim (fun h => c1 h) (fun h => by omega))] at k
  refine ⟨fun c => by rw [if_pos c] at k; exact k _ _ h, fun c3 => ?_⟩
  rw [if_neg c3] at k
  refine ⟨fun c => by rw [if_pos (.inl c)] at k; exact k _ _ h, fun c4 => ⟨fun c => by rw [if_pos (.inr c)] at k; exact k _ _ h, fun c5 => ?_⟩⟩
  rw [if_neg (fun hh => hh.elim (fun h => c4 h) (fun h => c5 h))] at k
  obtain ⟨i, hi⟩ : ∃ i : Nat, g.col = i := ⟨g.col.toNat, by omega⟩
  have hil : i < cols.length := by omega
  obtain ⟨gg, oo, hx, hcl⟩ := rowR.idx r sl_s_api_Col (P := Tryz.prog) hil
  have hcl : cellsR gg oo cols[i].cs B' := hcl
  have hct : colT cols g.col = cols[i].type_ := by
    unfold colT
    rw [hi, Int.toNat_natCast, List.getElem?_eq_getElem hil]
    rfl
  rw [hct] at k
  refine LETJ_intro fun J hJ => ?_
  have fin : K (.tuple #[.int .i64 cols[i].type_, .int .i64 0]) w1 → J () w1 := fun hk => by
    refine hJ _ _ ?_
    simp -zeta only [h.ld 0 rfl sc_int (o := 1) (v := .int .i64 g.col) rfl]
    rw [hi, hx, field_addr f_api_Col_1, cellsR.ld (h.hereB hcl) sc_int (j := 1) (v := .int .i64 cols[i].type_) rfl]
    exact hk
  refine ⟨fun c => ?_, fun c => ?_⟩
  · rw [hi, hx, field_addr f_api_Col_1, cellsR.ld (h.hereB hcl) sc_int (j := 1) (v := .int .i64 cols[i].type_) rfl, bin_neq, ifB_not, ifB_dec]
    refine ⟨fun e => ?_, fun e => ?_⟩
    · rw [if_neg (fun hh => hh.2 e)] at k
      exact fin (k _ _ h)
    · rw [if_pos ⟨c, e⟩] at k
      exact k _ _ h
  · rw [if_neg (fun hh => c hh.1)] at k
    exact fin (k _ _ h)
theorem rCols_m {u v : Value} {l : List AggD} {cols : List ColD} (r : rowR u l B) (q : rowR v cols B) (hl : l.length ≤ 1000000) : Makes Tryz.prog B (sCall F_errataref30_Cols #[u, v]) fun x τ => ∃ y, x = .tuple #[y, .int .i64 (colsS cols l).1] ∧ τ = [rowD T_api_Col y (colsS cols l).2] := by
  refine Makes.intro fun B' w K base h k => ?_
  replace r := base r
  replace q := base q
  refine errataref30_Cols.up (errataref30_Cols.call ?_)
  unfold errataref30_Cols.pt
  have h := h.addNil ColD T_api_Col
  refine LOOP_intro (fun x w' => ∃ (i : Nat) (y : Value), i ≤ l.length ∧ x = (y, .int .i64 i, ()) ∧ firstE cols (l.drop i) = firstE cols l ∧ Rel B' w' [rowD T_api_Col y ((l.take i).map (colAt cols))]) (fun x _ => l.length - (match x.2.1 with | .int _ n => n.toNat | _ => 0))
    ⟨0, .slice none 0 0, Nat.zero_le _, rfl, rfl, h⟩ ?_
  clear h
  rintro x w1 ⟨i, y, hi, rfl, hf, h⟩ next hnext
  rw [rowR.len r sl_s_api_Agg]
  simp -zeta only [bin_lss, ifB_dec]
  unfold colsS at k
  refine ⟨fun hlt => ?_, fun hge => ?_⟩
  case refine_2 =>
    have : i = l.length := by omega
    subst this
    rw [List.drop_length] at hf
    have hf : 0 = firstE cols l := hf
    rw [if_neg (fun hh => hh hf.symm)] at k
    rw [List.take_length] at h
    exact k _ _ _ ⟨_, rfl, rfl⟩ h
  have hil : i < l.length := by omega
  obtain ⟨g, o, hx, hcl⟩ := rowR.idx r sl_s_api_Agg (P := Tryz.prog) hil
  have hcl : cellsR g o l[i].cs B' := hcl
  rw [hx, cellsR.ldAg (h.hereB hcl) ag_api_Agg rfl]
  rw [firstE_at hil] at hf
  have htake : (l.take (i + 1)).map (colAt cols) = (l.take i).map (colAt cols) ++ [colAt cols l[i]] := by rw [List.take_succ_eq_append_getElem hil, List.map_append]; rfl
  generalize l[i] = G at *
  refine h.ask (fun B2 own base2 => rType_g (base2 q) G) fun w3 h => ?_
  rw [ext_2_0, ext_2_1, bin_neq, ifB_not, ifB_dec]
  refine ⟨fun e => ?_, fun e => ?_⟩
  case refine_2 =>
    rw [if_pos e] at hf
    rw [← hf, if_pos e] at k
    exact k _ _ _ ⟨_, rfl, rfl⟩ ((h.addNil ColD T_api_Col).pick [1] (by decide))
  rw [if_neg (fun hh => hh e)] at hf
  rw [hx, field_addr f_api_Agg_2, cellsR.ld (h.hereB hcl) sc_string (j := 2) (v := .string G.name) rfl, bd_api_Col_0_1]
  refine h.allocAg (ds := (⟨G.name, (typeS G cols).1, ⟨#[]⟩⟩ : ColD).cs.toArray) z_api_Col rfl ag_api_Col rfl (fun v hv => Enc.one (⟨G.name, (typeS G cols).1, ⟨#[]⟩⟩ : ColD) v hv) fun a2 w4 h => ?_
  have h : Rel B' w4 [rowD T_api_Col y ((l.take i).map (colAt cols)), cellD a2 T_api_Col (⟨G.name, (typeS G cols).1, ⟨#[]⟩⟩ : ColD).cs.toArray] := h
  have hlen : ((l.take i).map (colAt cols)).length = i := by simp; omega
  refine LETJ_intro fun J hJ => ?_
  replace hJ : ∀ w', Rel B' w' [rowD T_api_Col y ((l.take i).map (colAt cols)), cellD a2 T_api_Col (colAt cols G).cs.toArray] → J () w' := by
    intro w' h
    refine hJ _ _ ?_
    rw [h.ldAg 1 rfl ag_api_Col rfl]
    refine h.push1 (α := ColD) 0 rfl (colAt cols G) sl_s_api_Col (by decide) (by omega) (by omega) fun v' w5 h => ?_
    rw [bin_add, wrap_id (by omega) (by omega)]
    refine hnext _ _ ⟨i + 1, v', hil, rfl, hf, ?_⟩ (by simp only; omega)
    rw [htake]
    exact h.take 1
  rw [hx, field_addr f_api_Agg_0, Nat.add_zero, cellsR.ld0 (h.hereB hcl) sc_int (v := .int .i64 G.kind) rfl, bin_neq, ifB_not, ifB_dec]
  refine ⟨fun e0 => ?_, fun e0 => ?_⟩
  · have : colAt cols G = ⟨G.name, (typeS G cols).1, ⟨#[]⟩⟩ := by unfold colAt; rw [if_neg (fun hh => hh e0)]
    exact hJ _ (by rw [this]; exact h)
  · have hca : colAt cols G = ⟨G.name, (typeS G cols).1, colU cols G.col⟩ := by unfold colAt; rw [if_pos e0]
    have hcol : 0 ≤ G.col ∧ G.col < cols.length := by
      unfold typeS at e
      by_cases a1 : G.kind < 0 ∨ 4 ≤ G.kind
      · rw [if_pos a1] at e; exact absurd e (by decide)
      by_cases a2 : G.col < 0 ∨ (cols.length : Int) ≤ G.col
      · rw [if_neg a1, if_neg e0, if_pos a2] at e; exact absurd e (by decide)
      omega
    obtain ⟨j, hj⟩ : ∃ j : Nat, G.col = j := ⟨G.col.toNat, by omega⟩
    have hjl : j < cols.length := by omega
    rw [hx, field_addr f_api_Agg_1, cellsR.ld (h.hereB hcl) sc_int (j := 1) (v := .int .i64 G.col) rfl, hj]
    obtain ⟨g3, o3, hx3, hcl3⟩ := rowR.idx q sl_s_api_Col (P := Tryz.prog) hjl
    have hcl3 : cellsR g3 o3 cols[j].cs B' := hcl3
    rw [hx3, field_addr f_api_Col_2, cellsR.ld (h.hereB hcl3) sc_string (j := 2) (v := .string cols[j].unit_) rfl]
    have hu : colU cols G.col = cols[j].unit_ := by
      unfold colU
      rw [hj, Int.toNat_natCast, List.getElem?_eq_getElem hjl]
      rfl
    rw [field_addr f_api_Col_2, Nat.zero_add]
    refine h.st (K := fun _ w' => J () w') (v := .string cols[j].unit_) 1 rfl sc_string (o := 2) (show 2 < 3 by omega) rfl fun w5 h => hJ _ ?_
    rw [hca, hu]
    exact h
theorem rSame_g {u v : Value} {l m : List ColD} (r : rowR u l B) (q : rowR v m B) (hl : l.length ≤ 1000000) : Gives Tryz.prog B (sCall F_errataref13_Same #[u, v]) (.bool (decide (l = m))) := by
  refine Gives.intro fun B' w K base h k => ?_
  replace r := base r
  replace q := base q
  refine errataref13_Same.up (errataref13_Same.call ?_)
  unfold errataref13_Same.pt
  rw [rowR.len r sl_s_api_Col, rowR.len q sl_s_api_Col, bin_neq, ifB_not, ifB_dec]
  refine ⟨fun c => ?_, fun c => ?_⟩
  case refine_2 =>
    rw [decide_eq_false (fun hh => c (by rw [hh]))] at k
    exact k _ _ h
  have hlen : l.length = m.length := by omega
  refine LOOP_intro (fun z w' => ∃ (i : Nat), i ≤ l.length ∧ z = (.int .i64 i, ()) ∧ l.take i = m.take i ∧ Rel B' w' []) (fun z _ => l.length - (match z.1 with | .int _ n => n.toNat | _ => 0))
    ⟨0, Nat.zero_le _, rfl, rfl, h⟩ ?_
  clear h
  rintro z w1 ⟨i, hi, rfl, hs, h⟩ next hnext
  rw [rowR.len r sl_s_api_Col, bin_lss, ifB_dec]
  refine ⟨fun hlt => ?_, fun hge => ?_⟩
  case refine_2 =>
    have : i = l.length := by omega
    subst this
    rw [List.take_length, hlen, List.take_length] at hs
    rw [decide_eq_true hs] at k
    exact k _ _ h
  have hil : i < l.length := by omega
  have him : i < m.length := by omega
  have h := h.tick
  generalize tick w1 = w1 at *
  obtain ⟨g1, o1, hx1, hc1⟩ := rowR.idx r sl_s_api_Col (P := Tryz.prog) hil
  obtain ⟨g2, o2, hx2, hc2⟩ := rowR.idx q sl_s_api_Col (P := Tryz.prog) him
  have hc1 : cellsR g1 o1 l[i].cs B' := hc1
  have hc2 : cellsR g2 o2 m[i].cs B' := hc2
  rw [hx1, cellsR.ldAg (h.hereB hc1) ag_api_Col rfl, hx2, cellsR.ldAg (h.hereB hc2) ag_api_Col rfl]
  rw [neq_api_Col, ifB_not, ifB_dec]
  refine ⟨fun e => ?_, fun e => ?_⟩
  · rw [bin_add, wrap_id (by omega) (by omega)]
    refine hnext _ _ ⟨i + 1, hil, rfl, ?_, h⟩ (by simp only; omega)
    rw [List.take_succ_eq_append_getElem hil, List.take_succ_eq_append_getElem him, hs, e]
  · rw [decide_eq_false (fun hh => e (by subst hh; rfl))] at k
    exact k _ _ h
end
end Go.Proofs.YtoebncgnjbblgaaGreatDoor
/-
  The reference's accumulators in memory: Read. No condition.
-/
namespace Go.Proofs.YtoebncgnjbblgaaGreatDoor
open Go.RowKit
set_option maxRecDepth 100000

section
variable {B : Base} {w : World} {σ : List Dat} {vs : List SV} {bs : List (List CntD)} {i : Nat}
theorem cnts_pull {v : SV} {l : List CntD} (h : Rel B w σ) (q : Nat) (hq : σ[q]? = some (cntsD vs bs)) (hv : vs[i]? = some v) (hl : bs[i]? = some l) : Rel B w (σ.set q (starL ((List.zipWith (fun v l => rowD T_errataref30_Counted v.1 l) vs bs).set i emp)) ++ [rowD T_errataref30_Counted v.1 l]) := by
  have hz : (List.zipWith (fun (v : SV) (l : List CntD) => rowD T_errataref30_Counted v.1 l) vs bs)[i]? = some (rowD T_errataref30_Counted v.1 l) := by rw [List.getElem?_zipWith, hv, hl]
  have h1 := h.imp hq (e := (starL ((List.zipWith (fun (v : SV) (l : List CntD) => rowD T_errataref30_Counted v.1 l) vs bs).set i emp)).star (rowD T_errataref30_Counted v.1 l)) fun B hB => starL.pull hB hz
  have hlt : q < σ.length := (List.getElem?_eq_some_iff.1 hq).1
  have h2 := h1.split (i := q) (by rw [List.getElem?_set_self hlt])
  rw [List.set_set] at h2
  exact h2
theorem cnts_give {v : SV} {l : List CntD} (h : Rel B w (σ ++ [rowD T_errataref30_Counted v.1 l])) (q : Nat) (hq : σ[q]? = some (starL ((List.zipWith (fun (v : SV) (l : List CntD) => rowD T_errataref30_Counted v.1 l) vs bs).set i emp))) (hm : i < vs.length) (hi : i < bs.length) : Rel B w (σ.set q (cntsD (vs.set i v) (bs.set i l))) := by
  have h1 := h.fuse q hq
  have hlt : q < σ.length := (List.getElem?_eq_some_iff.1 hq).1
  have h2 := h1.imp (i := q) (e := cntsD (vs.set i v) (bs.set i l)) (by rw [List.getElem?_set_self hlt]) fun B hB => by
    have := starL.give hB (j := i) (by simp; omega)
    have e : ((List.zipWith (fun (v : SV) (l : List CntD) => rowD T_errataref30_Counted v.1 l) vs bs).set i emp).set i (rowD T_errataref30_Counted v.1 l) = List.zipWith (fun (v : SV) (l : List CntD) => rowD T_errataref30_Counted v.1 l) (vs.set i v) (bs.set i l) := by
      rw [List.set_set]
      apply List.ext_getElem?
      intro j
      rw [List.getElem?_zipWith, List.getElem?_set, List.getElem?_set, List.getElem?_set]
      by_cases c : i = j
      · subst c
        rw [if_pos rfl, if_pos rfl, if_pos rfl, if_pos (by simp; omega), if_pos hi, if_pos hm]
      · rw [if_neg c, if_neg c, if_neg c, List.getElem?_zipWith]
    unfold cntsD
    rw [← e]
    exact this
  rw [List.set_set] at h2
  exact h2
theorem readF_ok {aggs : List AggD} {t : Bs} {X : RF} {s : RS} (h : readNF aggs t aggs.length = some (X, s)) : readF aggs t = if doneR s = true then some X else none := by
  unfold readF
  rw [h]
set_option maxHeartbeats 4000000 in
theorem rRead_m {v : Value} {aggs : List AggD} {t : Bs} (r : rowR v aggs B) (hl : aggs.length ≤ 1000) (ht : t.length ≤ 1000000) :
    Makes Tryz.prog B (sCall F_errataref30_Read #[v, .string (ofL t)]) fun u τ => (∃ X p, readF aggs t = some X ∧ u = .tuple #[ptr p, .bool true] ∧ τ = [refD p X]) ∨ (readF aggs t = none ∧ u = .tuple #[.pointer none, .bool false] ∧ τ = []) := by
  refine Makes.intro fun B' w K base h k => ?_
  replace r := base r
  refine errataref30_Read.up (errataref30_Read.call ?_)
  unfold errataref30_Read.pt
  have no : readF aggs t = none → ∀ w' σ, Rel B' w' σ → K (.tuple #[.pointer none, .bool false]) w' := fun hn w' σ h => k _ _ _ (.inr ⟨hn, rfl, rfl⟩) h.nil
  refine h.make (fun B2 own base2 => rNew_m (base2 r) hl) fun u τ w1 hp h => ?_
  obtain ⟨p, rfl, rfl⟩ := hp
  refine h.make (fun B2 own base2 => fopen_m) fun u τ w2 hp h => ?_
  obtain ⟨q, rfl, rfl⟩ := hp
  have h : Rel B' w2 [refD p (newF aggs), rfD q ⟨t, false⟩] := h
  refine h.rf_ 1 rfl (fun B2 own base2 => fIntR_d (by show t.length ≤ _; omega)) fun w3 h => ?_
  have h : Rel B' w3 (refD p (newF aggs) :: [rfD q (intR ⟨t, false⟩).2]) := h
  obtain ⟨⟨⟨av, hav⟩, ⟨sv, hsv⟩, ⟨bv, hbv⟩, vs⟩, hvs, h⟩ := refD.open h
  replace hvs : vs.length = aggs.length := by
    have : vs.length = (newF aggs).bags.length := hvs
    rw [this]
    simp [newF]
  have h : Rel B' w3 [cellD p T_errataref30_Acc #[av, .int .i64 0, sv, bv], rowD T_api_Agg av aggs, rowD T_int sv (newF aggs).sums, rowD T_s_errataref30_Counted bv vs, cntsD vs (newF aggs).bags, rfD q (intR ⟨t, false⟩).2] := h
  simp -zeta only [nil_ptr, field_addr f_errataref30_Acc_1, field_addr f_errataref30_Acc_0, field_addr f_errataref30_Acc_2, field_addr f_errataref30_Acc_3, Nat.zero_add]
  refine h.st 0 rfl sc_int (o := 1) (show 1 < 4 by omega) rfl fun w4 h => ?_
  have hsn0 : Sane (intR ⟨t, false⟩).2 := intR_sane fun hb => by cases hb
  have hle0 : (intR ⟨t, false⟩).2.rest.length ≤ t.length := intR_le ⟨t, false⟩
  have h : Rel B' w4 [cellD p T_errataref30_Acc #[av, .int .i64 ({ newF aggs with n := (intR ⟨t, false⟩).1 } : RF).n, sv, bv], rowD T_api_Agg av aggs, rowD T_int sv ({ newF aggs with n := (intR ⟨t, false⟩).1 } : RF).sums, rowD T_s_errataref30_Counted bv vs, cntsD vs ({ newF aggs with n := (intR ⟨t, false⟩).1 } : RF).bags, rfD q (intR ⟨t, false⟩).2] := h
  refine LOOP_intro (fun z w' => ∃ (i : Nat) (vs : List SV) (Y : RF) (s : RS), i ≤ aggs.length ∧ vs.length = aggs.length ∧ z = (.int .i64 i, ()) ∧ readNF aggs t i = some (Y, s) ∧ Y.aggs = aggs ∧ Y.sums.length = aggs.length ∧ Y.bags.length = aggs.length ∧ (∀ j, i ≤ j → j < aggs.length → Y.bags[j]? = some []) ∧ Sane s ∧ s.rest.length ≤ t.length ∧
      Rel B' w' [cellD p T_errataref30_Acc #[av, .int .i64 Y.n, sv, bv], rowD T_api_Agg av aggs, rowD T_int sv Y.sums, rowD T_s_errataref30_Counted bv vs, cntsD vs Y.bags, rfD q s])
    (fun z _ => aggs.length - (match z.1 with | .int _ n => n.toNat | _ => 0)) ⟨0, vs, _, _, Nat.zero_le _, hvs, rfl, rfl, rfl, by simp [newF], by simp [newF], fun j _ hj => newF_bag hj, hsn0, hle0, h⟩ ?_
  clear h hsn0 hle0
  rintro z w5 ⟨i, vs, Y, s, hi, hvs, rfl, hrd, hya, hys, hyb, hnil, hsn, hle, h⟩ next hnext
  rw [rowR.len r sl_s_api_Agg, bin_lss, ifB_dec]
  refine ⟨fun hlt => ?_, fun hge => ?_⟩
  case refine_2 =>
    have : i = aggs.length := by omega
    subst this
    have hrf := readF_ok hrd
    refine h.ask (fun B2 own base2 => fDone_g (own (i := 5) rfl)) fun w6 h => ?_
    rw [un_not, ifB_not, ifB_bool]
    refine ⟨fun cd => ?_, fun cd => ?_⟩
    · rw [if_pos cd] at hrf
      obtain ⟨A, n, S, Bg⟩ := Y
      have hya : A = aggs := hya
      subst hya
      exact k _ _ _ (.inl ⟨_, p, hrf, rfl, rfl⟩) (refD.close (p := p) (X := ⟨A, n, S, Bg⟩) (τ := []) ⟨⟨av, hav⟩, ⟨sv, hsv⟩, ⟨bv, hbv⟩, vs⟩ (by show vs.length = Bg.length; rw [hvs]; exact hyb.symm) (h.take 5))
    · rw [if_neg (by rw [cd]; decide)] at hrf
      exact no hrf _ _ h
  clear k
  have hil : i < aggs.length := by omega
  have hgi : aggs[i]? = some aggs[i] := List.getElem?_eq_getElem hil
  have hstep : readNF aggs t (i + 1) = ordFR aggs[i] (sumFR aggs[i] Y i s).1 i (sumFR aggs[i] Y i s).2 := by
    show (match readNF aggs t i with
      | none => none
      | some q => match aggs[i]? with
        | none => none
        | some g => ordFR g (sumFR g q.1 i q.2).1 i (sumFR g q.1 i q.2).2) = _
    rw [hrd, hgi]
  have no1 : ordFR aggs[i] (sumFR aggs[i] Y i s).1 i (sumFR aggs[i] Y i s).2 = none → ∀ w' σ, Rel B' w' σ → K (.tuple #[.pointer none, .bool false]) w' := fun hn => no (readF_none (k := i + 1) hil (hstep.trans hn))
  obtain ⟨g, o, hix, hc⟩ := rowR.idx r sl_s_api_Agg (P := Tryz.prog) hil
  have hc : cellsR g o aggs[i].cs B' := hc
  refine LETJ_intro fun J1 hJ1 => ?_
  replace hJ1 : ∀ (w' : World) (vs : List SV) (Z : RF) (s' : RS), vs.length = aggs.length → ordFR aggs[i] (sumFR aggs[i] Y i s).1 i (sumFR aggs[i] Y i s).2 = some (Z, s') → Z.aggs = aggs → Z.sums.length = aggs.length → Z.bags.length = aggs.length → (∀ j, i + 1 ≤ j → j < aggs.length → Z.bags[j]? = some []) → Sane s' → s'.rest.length ≤ t.length →
      Rel B' w' [cellD p T_errataref30_Acc #[av, .int .i64 Z.n, sv, bv], rowD T_api_Agg av aggs, rowD T_int sv Z.sums, rowD T_s_errataref30_Counted bv vs, cntsD vs Z.bags, rfD q s'] → J1 () w' := by
    intro w' vs Z s' h1 h2 h3 h4 h5 h6 h7 h8 h
    refine hJ1 _ _ ?_
    show pureK _ _ _
    rw [bin_add, wrap_id (by omega) (by omega)]
    exact hnext _ _ ⟨i + 1, vs, Z, s', hil, h1, rfl, hstep.trans h2, h3, h4, h5, h6, h7, h8, h⟩ (by simp only; omega)
  clear hnext hstep no
  generalize hG : aggs[i] = G at *
  refine LETJ_intro fun J2 hJ2 => ?_
  replace hJ2 : ∀ (w' : World) (Z : RF) (s' : RS), sumFR G Y i s = (Z, s') → Z.aggs = Y.aggs → Z.n = Y.n → Z.bags = Y.bags → Z.sums.length = Y.sums.length → Sane s' → s'.rest.length ≤ t.length →
      Rel B' w' [cellD p T_errataref30_Acc #[av, .int .i64 Z.n, sv, bv], rowD T_api_Agg av aggs, rowD T_int sv Z.sums, rowD T_s_errataref30_Counted bv vs, cntsD vs Z.bags, rfD q s'] → J2 () w' := by
    intro w' Z s' e1 ea en eb el hsn' hle' h
    refine hJ2 _ _ ?_
    clear hJ2
    rw [e1] at hJ1 no1
    simp only at hJ1 no1
    have hza : Z.aggs = aggs := ea.trans hya
    have hzs : Z.sums.length = aggs.length := el.trans hys
    have hzb : Z.bags.length = aggs.length := by rw [eb]; exact hyb
    have hznil : ∀ j, i ≤ j → j < aggs.length → Z.bags[j]? = some [] := by rw [eb]; exact hnil
    clear e1 ea en eb el hya hys hyb hnil hrd
    rw [hix, cellsR.ldAg (h.hereB hc) ag_api_Agg rfl]
    refine h.ask (fun B2 own base2 => rOrdered_g G) fun w6 h => ?_
    rw [un_not, ifB_not, ifB_bool]
    refine ⟨fun co => ?_, fun co => ?_⟩
    case refine_2 =>
      refine hJ1 _ vs Z s' hvs ?_ hza hzs hzb (fun j hj => hznil j (by omega)) hsn' hle' h
      unfold ordFR
      rw [if_neg (by rw [co]; decide)]
    unfold ordFR at hJ1 no1
    rw [if_pos co] at hJ1 no1
    have hbl : i < Z.bags.length := by rw [hzb]; exact hil
    have hvl : i < vs.length := by rw [hvs]; exact hil
    have hb0 : Z.bags[i]? = some [] := hznil i (Nat.le_refl _) hil
    have hv0 : vs[i]? = some vs[i] := List.getElem?_eq_getElem hvl
    refine h.rf_ 5 rfl (fun B2 own base2 => fNumR_d (by omega)) fun w7 h => ?_
    have n0 := (natR_in s').2
    have n1 : (natR s').1 ≤ 9223372036854775807 := (natR_in s').1.2
    have hsn2 := natR_sane hsn'
    have hle2 : (natR s').2.rest.length ≤ t.length := Nat.le_trans (natR_le s') hle'
    have h : Rel B' w7 [cellD p T_errataref30_Acc #[av, .int .i64 Z.n, sv, bv], rowD T_api_Agg av aggs, rowD T_int sv Z.sums, rowD T_s_errataref30_Counted bv vs, cntsD vs Z.bags, rfD q (natR s').2] := h
    generalize natR s' = nq at *
    obtain ⟨n, s0⟩ := nq
    simp only at n0 n1 hsn2 hle2 hJ1 no1 h ⊢
    obtain ⟨m, rfl⟩ : ∃ m : Nat, n = m := ⟨n.toNat, by omega⟩
    rw [Int.toNat_natCast] at hJ1 no1
    have h := cnts_pull h 4 rfl hv0 hb0
    have h : Rel B' w7 [cellD p T_errataref30_Acc #[av, .int .i64 Z.n, sv, bv], rowD T_api_Agg av aggs, rowD T_int sv Z.sums, rowD T_s_errataref30_Counted bv vs, starL ((List.zipWith (fun (v : SV) (l : List CntD) => rowD T_errataref30_Counted v.1 l) vs Z.bags).set i emp), rfD q s0, rowD T_errataref30_Counted vs[i].1 ([] : List CntD)] := h
    have no2 : entsF m [] 0 s0 = none → ∀ w' σ, Rel B' w' σ → K (.tuple #[.pointer none, .bool false]) w' := fun hn => no1 (by rw [hn])
    refine LETJ_intro fun J3 hJ3 => ?_
    replace hJ3 : ∀ (w' : World) (u : SV) (acc : List CntD) (all : Int) (s1 : RS), entsF m [] 0 s0 = some (acc, all, s1) → acc.length ≤ t.length → Sane s1 → s1.rest.length ≤ t.length →
        Rel B' w' [cellD p T_errataref30_Acc #[av, .int .i64 Z.n, sv, bv], rowD T_api_Agg av aggs, rowD T_int sv Z.sums, rowD T_s_errataref30_Counted bv (vs.set i u), starL ((List.zipWith (fun (v : SV) (l : List CntD) => rowD T_errataref30_Counted v.1 l) vs Z.bags).set i emp), rfD q s1, rowD T_errataref30_Counted u.1 acc] → J3 (.int .i64 all, ()) w' := by
      intro w' u acc all s1 he hal hs1 hl1 h
      refine hJ3 _ _ ?_
      clear hJ3
      rw [he] at hJ1 no1
      simp only at hJ1 no1
      have hvl2 : i < (vs.set i u).length := by rw [List.length_set]; exact hvl
      obtain ⟨ba, hia, hla⟩ := svIdx h (rowD.read (h.here (i := 3) rfl)) hvl2
      have eu : (vs.set i u)[i] = u := List.getElem_set_self hvl2
      rw [eu] at hla
      rw [h.ld 0 rfl sc_s_s_errataref30_Counted (o := 3) (v := bv) rfl, hia, hla, rowR.len (rowD.read (h.here (i := 6) rfl)) sl_s_errataref30_Counted, bin_neq, ifB_not, ifB_dec]
      refine ⟨fun e1 => ?_, fun e1 => no1 (if_neg fun hh => e1 hh.1) _ _ h⟩
      rw [h.ld 0 rfl sc_int (o := 1) (v := .int .i64 Z.n) rfl, bin_neq, ifB_not, ifB_dec]
      refine ⟨fun e2 => ?_, fun e2 => no1 (if_neg fun hh => e2 hh.2) _ _ h⟩
      have h : Rel B' w' ([cellD p T_errataref30_Acc #[av, .int .i64 Z.n, sv, bv], rowD T_api_Agg av aggs, rowD T_int sv Z.sums, rowD T_s_errataref30_Counted bv (vs.set i u), starL ((List.zipWith (fun (v : SV) (l : List CntD) => rowD T_errataref30_Counted v.1 l) vs Z.bags).set i emp), rfD q s1] ++ [rowD T_errataref30_Counted u.1 acc]) := h
      have h := cnts_give h 4 rfl hvl hbl
      refine hJ1 _ (vs.set i u) _ s1 (List.length_set.trans hvs) (if_pos ⟨e1, e2⟩) hza hzs (by show (Z.bags.set i acc).length = _; rw [List.length_set]; exact hzb) (fun j hj hj2 => ?_) hs1 hl1 h
      show (Z.bags.set i acc)[j]? = _
      rw [List.getElem?_set_ne (by omega)]
      exact hznil j (by omega) hj2
    clear hJ1 no1
    have hvset : vs.set i vs[i] = vs := List.set_getElem_self hvl
    refine LOOP_intro (fun z w' => ∃ (acc : List CntD) (u : SV) (all : Int) (s1 : RS), acc.length ≤ m ∧ z = (.int .i64 all, .int .i64 acc.length, ()) ∧ entsF (m - acc.length) acc all s1 = entsF m [] 0 s0 ∧ acc.length + s1.rest.length ≤ t.length ∧ Sane s1 ∧
        Rel B' w' [cellD p T_errataref30_Acc #[av, .int .i64 Z.n, sv, bv], rowD T_api_Agg av aggs, rowD T_int sv Z.sums, rowD T_s_errataref30_Counted bv (vs.set i u), starL ((List.zipWith (fun (v : SV) (l : List CntD) => rowD T_errataref30_Counted v.1 l) vs Z.bags).set i emp), rfD q s1, rowD T_errataref30_Counted u.1 acc])
      (fun z _ => m - (match z.2.1 with | .int _ n => n.toNat | _ => 0)) ⟨[], vs[i], 0, s0, Nat.zero_le _, rfl, rfl, by simpa using hle2, hsn2, by rw [hvset]; exact h⟩ ?_
    clear h hsn2 hle2
    rintro z w8 ⟨acc, u, all, s1, hacc, rfl, hent, hbud, hs1, h⟩ next hnext
    rw [bin_lss, ifB_dec]
    refine ⟨fun clt => ?_, fun clt => ?_⟩
    case refine_2 =>
      have e : m - acc.length = 0 := by omega
      rw [e, entsF] at hent
      exact hJ3 _ u acc all s1 hent.symm (by omega) hs1 (by omega) h
    obtain ⟨d, hd⟩ : ∃ d, m - acc.length = d + 1 := ⟨m - acc.length - 1, by omega⟩
    rw [hd, entsF] at hent
    refine h.ask (fun B2 own base2 => fLeft_g (own (i := 5) rfl)) fun w9 h => ?_
    rw [bin_gtr, ifB_dec]
    refine ⟨fun cl => ?_, fun cl => ?_⟩
    case refine_2 =>
      have e : s1.rest = [] := List.eq_nil_of_length_eq_zero (by omega)
      rw [if_pos e] at hent
      exact hJ3 _ u acc all s1 hent.symm (by omega) hs1 (by omega) h
    have hne : s1.rest ≠ [] := fun e => by rw [e] at cl; simp at cl
    rw [if_neg hne] at hent
    refine h.rf_ 5 rfl (fun B2 own base2 => fTextR_d hs1 (by omega)) fun w10 h => ?_
    have hs2 := textR_sane hs1
    have l2 := textR_le s1
    have hs3 := intR_sane hs2
    have l3 := intR_le (textR s1).2
    have hcons : readV1 (textR s1).1 ≠ none → (intR (textR s1).2).2.rest.length + 1 ≤ s1.rest.length := fun hv => by
      by_cases hb : (textR s1).2.bad = true
      · have e := hs2 hb
        have : 0 < s1.rest.length := List.length_pos_iff.2 hne
        rw [e] at l3
        simp only [List.length_nil] at l3
        omega
      · obtain ⟨_, b2, _⟩ := textR_rd.back s1 (by simpa using hb)
        have := encT_pos (textR s1).1
        rw [b2, List.length_append]
        omega
    have ec : entC s1 = (intR (textR s1).2).1 := rfl
    have es : entS s1 = (intR (textR s1).2).2 := rfl
    refine h.ask (fun B2 own base2 => fRead_g (by omega)) fun w11 h => ?_
    rw [ext_2_0, ext_2_1]
    generalize hV : (readV1 (textR s1).1).getD vZero = V at *
    refine h.allocAg (ds := V.cs.toArray) z_api_Value rfl ag_api_Value rfl (fun v hv => Enc.one V v hv) fun a1 w12 h => ?_
    have h : Rel B' w12 [cellD p T_errataref30_Acc #[av, .int .i64 Z.n, sv, bv], rowD T_api_Agg av aggs, rowD T_int sv Z.sums, rowD T_s_errataref30_Counted bv (vs.set i u), starL ((List.zipWith (fun (v : SV) (l : List CntD) => rowD T_errataref30_Counted v.1 l) vs Z.bags).set i emp), rfD q (textR s1).2, rowD T_errataref30_Counted u.1 acc, cellD a1 T_api_Value V.cs.toArray] := h
    refine LETJ_intro fun J4 hJ4 => ?_
    replace hJ4 : ∀ (w' : World) (a2 : Nat), Rel B' w' [cellD p T_errataref30_Acc #[av, .int .i64 Z.n, sv, bv], rowD T_api_Agg av aggs, rowD T_int sv Z.sums, rowD T_s_errataref30_Counted bv (vs.set i u), starL ((List.zipWith (fun (v : SV) (l : List CntD) => rowD T_errataref30_Counted v.1 l) vs Z.bags).set i emp), rfD q (entS s1), rowD T_errataref30_Counted u.1 acc, cellD a1 T_api_Value V.cs.toArray, cellD a2 T_errataref30_Counted (⟨V, entC s1⟩ : CntD).cs.toArray] → J4 (ptr a2, ()) w' := by
      intro w' a2 h
      refine hJ4 _ _ ?_
      clear hJ4
      generalize entS s1 = s2 at *
      generalize entC s1 = c at *
      cases hv : readV1 (textR s1).1 with
      | none =>
        rw [hv] at hent
        rw [un_not, ifB_not]
        show ifB (.bool false) _ _
        rw [ifB_false]
        exact no2 hent.symm _ _ h
      | some V2 =>
        have hcons := hcons (by rw [hv]; exact fun hh => by cases hh)
        rw [hv] at hent hV
        have hV : V2 = V := hV
        subst hV
        simp only at hent
        rw [un_not, ifB_not]
        show ifB (.bool true) _ _
        rw [ifB_true, h.ldAg 7 rfl ag_api_Value rfl]
        refine h.ask (fun B2 own base2 => fRight_g V2) fun w13 h => ?_
        rw [un_not, ifB_not, ifB_bool]
        refine ⟨fun cr => ?_, fun cr => ?_⟩
        case refine_2 =>
          rw [if_neg (fun hh => by rw [cr] at hh; cases hh.1)] at hent
          exact no2 hent.symm _ _ h
        simp -zeta only [field_addr f_errataref30_Counted_1, Nat.zero_add]
        rw [h.ld 8 rfl sc_int (o := 3) (v := .int .i64 c) rfl, bin_eql, ifB_dec]
        refine ⟨fun c0 => ?_, fun c0 => ?_⟩
        · rw [if_neg (fun hh => hh.2.1 c0)] at hent
          exact no2 hent.symm _ _ h
        refine LETJ_intro fun J5 hJ5 => ?_
        replace hJ5 : ∀ (w' : World), nextOk acc V2 → Rel B' w' [cellD p T_errataref30_Acc #[av, .int .i64 Z.n, sv, bv], rowD T_api_Agg av aggs, rowD T_int sv Z.sums, rowD T_s_errataref30_Counted bv (vs.set i u), starL ((List.zipWith (fun (v : SV) (l : List CntD) => rowD T_errataref30_Counted v.1 l) vs Z.bags).set i emp), rfD q s2, rowD T_errataref30_Counted u.1 acc, cellD a1 T_api_Value V2.cs.toArray, cellD a2 T_errataref30_Counted (⟨V2, c⟩ : CntD).cs.toArray] → J5 () w' := by
          intro w' hok h
          refine hJ5 _ _ ?_
          rw [if_pos ⟨cr, c0, hok⟩] at hent
          have hvl2 : i < (vs.set i u).length := by rw [List.length_set]; exact hvl
          have h := h.tick
          generalize tick w' = w' at *
          obtain ⟨gb, cap, rfl⟩ := h.open_ (i := 3) rfl (by omega)
          have eu : (vs.set i u)[i] = u := List.getElem_set_self hvl2
          have hel := h.elem (α := SV) (i := 3) rfl hvl2
          rw [eu] at hel
          rw [h.ld 0 rfl sc_s_s_errataref30_Counted (o := 3) (v := .slice (some ⟨gb, 0, none⟩) (vs.set i u).length cap) rfl, h.ld 0 rfl sc_s_s_errataref30_Counted (o := 3) (v := .slice (some ⟨gb, 0, none⟩) (vs.set i u).length cap) rfl, idx_own (α := SV) sl_s_s_errataref30_Counted hvl2, cellsR.ld0 hel sc_s_errataref30_Counted (v := u.1) rfl, h.ldAg 8 rfl ag_errataref30_Counted rfl]
          refine h.build1 (α := CntD) ⟨V2, c⟩ sl_s_errataref30_Counted (by decide) fun tv w14 h => ?_
          have hel := h.elem (α := SV) (i := 3) rfl hvl2
          rw [eu] at hel
          refine ⟨cellsR.is (j := 0) hel sc_s_errataref30_Counted rfl, h.is 0 rfl sc_s_s_errataref30_Counted (o := 3) rfl, h.is 0 rfl sc_s_s_errataref30_Counted (o := 3) rfl, ?_⟩
          refine h.append (α := CntD) 6 rfl sl_s_errataref30_Counted (l2 := [⟨V2, c⟩]) (Rd.at 9 (E := T_errataref30_Counted) rfl (by decide)) (by simp; omega) (by simp; omega) fun u' w15 h => ?_
          have hu1 : u'.oneCell' = true := h.oneCell (i := 6) rfl
          refine ⟨h.is 0 rfl sc_s_s_errataref30_Counted (o := 3) rfl, ?_⟩
          rw [idx_own (α := SV) sl_s_s_errataref30_Counted hvl2]
          refine h.set_sc (α := SV) 3 rfl ⟨u', hu1⟩ (j := i) hvl2 (f := 0) rfl (by decide) rfl sc_s_errataref30_Counted hu1 fun w16 h => ?_
          rw [h.ld 8 rfl sc_int (o := 3) (v := .int .i64 c) rfl, bin_add, bin_add, wrap_id (n := (acc.length : Int) + 1) (by omega) (by omega)]
          refine hnext _ _ ⟨acc ++ [⟨V2, c⟩], ⟨u', hu1⟩, W64 (all + c), s2, by rw [List.length_append, List.length_singleton]; omega, by rw [List.length_append, List.length_singleton]; rfl, ?_, ?_, (by rw [es]; exact hs3), ?_⟩ (by simp only; omega)
          · rw [List.length_append, List.length_singleton, show m - (acc.length + 1) = d by omega]
            exact hent
          · rw [List.length_append, List.length_singleton]
            rw [es]
            omega
          · have e : (vs.set i u).set i ⟨u', hu1⟩ = vs.set i ⟨u', hu1⟩ := List.set_set ..
            rw [← e]
            exact h.take 7
        clear hnext hJ3
        rw [bin_gtr, ifB_dec]
        refine ⟨fun ck => ?_, fun ck => ?_⟩
        case refine_2 =>
          refine hJ5 _ (fun y hy => ?_) h
          have : acc = [] := List.eq_nil_of_length_eq_zero (by omega)
          rw [this] at hy
          cases hy
        have h := h.tick
        generalize tick w13 = w13 at *
        have hvl2 : i < (vs.set i u).length := by rw [List.length_set]; exact hvl
        obtain ⟨ba, hia, hla⟩ := svIdx h (rowD.read (h.here (i := 3) rfl)) hvl2
        have eu : (vs.set i u)[i] = u := List.getElem_set_self hvl2
        rw [eu] at hla
        have hkl : acc.length - 1 < acc.length := by omega
        rw [h.ld 0 rfl sc_s_s_errataref30_Counted (o := 3) (v := bv) rfl, hia, hla, bin_sub, wrap_id (by omega) (by omega), show (acc.length : Int) - 1 = ((acc.length - 1 : Nat) : Int) by omega]
        obtain ⟨g6, o6, hx6, hc6⟩ := rowR.idx (P := Tryz.prog) (rowD.read (h.here (i := 6) rfl)) sl_s_errataref30_Counted hkl
        have hc6 : (cellsR g6 o6 acc[acc.length - 1].cs).here w13 := hc6
        rw [hx6, field_addr f_errataref30_Counted_0, Nat.add_zero, cellsR.ldAg (cnt_v hc6) ag_api_Value rfl, h.ldAg 7 rfl ag_api_Value rfl]
        refine h.ask (fun B2 own base2 => fCompare_g acc[acc.length - 1].v_ V2) fun w17 h => ?_
        have hlast : acc.getLast? = some acc[acc.length - 1] := by rw [List.getLast?_eq_getElem?, List.getElem?_eq_getElem hkl]
        rw [bin_geq, ifB_dec]
        refine ⟨fun cge => ?_, fun cge => ?_⟩
        · rw [if_neg (fun hh => by have := hh.2.2 _ hlast; omega)] at hent
          exact no2 hent.symm _ _ h
        · refine hJ5 _ (fun y hy => ?_) h
          rw [hlast] at hy
          rw [← Option.some.inj hy]
          omega
    clear hnext hJ3 hent
    have h := h.tick
    generalize tick w12 = w12 at *
    rw [h.ldAg 7 rfl ag_api_Value rfl]
    refine ⟨?_, ?_⟩
    · refine h.rf_ 5 rfl (fun B2 own base2 => fIntR_d (by omega)) fun w13 h => ?_
      refine ⟨h.isAg 7 rfl ag_api_Value rfl, ?_⟩
      rw [cntBd]
      refine h.alloc z_errataref30_Counted fun a2 w14 h => ?_
      refine ⟨h.isAg 7 rfl ag_api_Value rfl, ?_⟩
      refine h.stAll 8 (ds := (⟨V, entC s1⟩ : CntD).cs.toArray) rfl ag_errataref30_Counted rfl rfl (fun v hv => Enc.one (⟨V, entC s1⟩ : CntD) v hv) fun w15 h => ?_
      exact hJ4 _ a2 h
    · refine h.alloc z_errataref30_Counted fun a2 w14 h => ?_
      refine ⟨h.isAg 7 rfl ag_api_Value rfl, ?_⟩
      refine h.rf_ 5 rfl (fun B2 own base2 => fIntR_d (by omega)) fun w13 h => ?_
      refine ⟨h.isAg 7 rfl ag_api_Value rfl, ?_⟩
      rw [cntBd]
      refine h.stAll 8 (ds := (⟨V, entC s1⟩ : CntD).cs.toArray) rfl ag_errataref30_Counted rfl rfl (fun v hv => Enc.one (⟨V, entC s1⟩ : CntD) v hv) fun w15 h => ?_
      exact hJ4 _ a2 h
  clear hJ1 no1
  rw [hix, field_addr f_api_Agg_0, Nat.add_zero, cellsR.ld0 (h.hereB hc) sc_int (v := .int .i64 G.kind) rfl, bin_eql, ifB_dec]
  unfold sumFR at hJ2
  refine ⟨fun c1 => ?_, fun c1 => ?_⟩
  · rw [if_pos c1] at hJ2
    have hsl : i < Y.sums.length := by rw [hys]; exact hil
    have h := h.tick
    generalize tick w5 = w5 at *
    obtain ⟨gs, cap, rfl⟩ := h.open_ (i := 2) rfl (by omega)
    rw [h.ld 0 rfl sc_s_int (o := 2) (v := .slice (some ⟨gs, 0, none⟩) Y.sums.length cap) rfl]
    refine h.rf_ 5 rfl (fun B2 own base2 => fIntR_d (by omega)) fun w6 h => ?_
    refine ⟨h.is 0 rfl sc_s_int (o := 2) rfl, ?_⟩
    rw [idx_own (α := Int) sl_s_int hsl]
    refine h.set_sc (α := Int) 2 rfl (intR s).1 (j := i) hsl (f := 0) rfl (by decide) rfl sc_int rfl fun w7 h => ?_
    exact hJ2 _ _ _ rfl rfl rfl rfl (by show (Y.sums.set i _).length = _; rw [List.length_set]) (intR_sane hsn) (Nat.le_trans (intR_le s) hle) h
  · rw [if_neg c1] at hJ2
    exact hJ2 _ _ _ rfl rfl rfl rfl rfl hsn hle h
end
end Go.Proofs.YtoebncgnjbblgaaGreatDoor
