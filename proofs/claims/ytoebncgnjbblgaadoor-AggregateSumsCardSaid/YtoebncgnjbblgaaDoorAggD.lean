/-
  Accumulators: New. No condition.
-/
import Derived.Test.YtoebncgnjbblgaaDoorAggC
--@auto
namespace Go.Proofs.YtoebncgnjbblgaaDoor
open Go.RowKit
set_option maxRecDepth 100000

def nb (g : AggD) : Option Bag := if ordB g then some ([], 0) else none
/-- The empty accumulator. -/
def newS (aggs : List AggD) : ACC := ⟨aggs, 0, List.replicate aggs.length 0, aggs.map nb⟩
theorem newS_good {aggs : List AggD} (h : aggs.length ≤ 1000) : GoodA 0 (newS aggs) := by
  refine ⟨h, by simp [newS], by simp [newS], fun i g b hg hb => ?_, fun i b hb => ?_⟩
  · have hg : aggs[i]? = some g := hg
    have hb : (aggs.map nb)[i]? = some b := hb
    rw [List.getElem?_map, hg] at hb
    have hb : nb g = b := by simpa using hb
    rw [← hb]
    unfold nb
    split
    · rename_i c; rw [c]; rfl
    · rename_i c; simp at c; rw [c]; rfl
  · have hb : (aggs.map nb)[i]? = some (some b) := hb
    rw [List.getElem?_map] at hb
    cases hg : aggs[i]? with
    | none => rw [hg] at hb; cases hb
    | some g =>
      rw [hg] at hb
      have hb : nb g = some b := by simpa using hb
      unfold nb at hb
      split at hb
      · have hb : (([], 0) : Bag) = b := by simpa using hb
        subst hb
        exact ⟨WfE.nil, Nat.le_refl _⟩
      · cases hb
def newB (aggs : List AggD) (i : Nat) : List (Option Bag) := (aggs.take i).map nb ++ List.replicate (aggs.length - i) none
theorem newB_len (aggs : List AggD) {i : Nat} (h : i ≤ aggs.length) : (newB aggs i).length = aggs.length := by
  unfold newB
  simp
  omega
theorem newB_succ {aggs : List AggD} {i : Nat} (h : i < aggs.length) : newB aggs (i + 1) = (newB aggs i).set i (nb aggs[i]) := by
  unfold newB
  have hr : List.replicate (aggs.length - i) (none : Option Bag) = none :: List.replicate (aggs.length - (i + 1)) none := by
    rw [show aggs.length - i = (aggs.length - (i + 1)) + 1 by omega, List.replicate_succ]
  rw [hr, List.set_append_right _ _ (by simp; omega), List.take_succ_eq_append_getElem h, List.map_append, List.length_map, List.length_take, Nat.min_eq_left (by omega), Nat.sub_self]
  simp
theorem newB_get {aggs : List AggD} {i : Nat} (h : i < aggs.length) : (newB aggs i)[i]? = some none := by
  unfold newB
  rw [List.getElem?_append_right (by simp; omega), List.length_map, List.length_take, Nat.min_eq_left (by omega), Nat.sub_self, List.getElem?_replicate, if_pos (by omega)]
section
variable {B : Base} {w : World} {σ : List Dat} {ms : List MP} {bs : List (Option Bag)} {i q : Nat} {M : MP} {b b' : Option Bag}
theorem bags_put (h : Rel B w (σ ++ [bagD M b'])) (q : Nat) (hq : σ[q]? = some (bagsD ms bs)) (hm : i < ms.length) (hi : i < bs.length) : Rel B w (σ.set q (bagsD (ms.set i M) (bs.set i b'))) := by
  have h1 := h.fuse q hq
  have hlt : q < σ.length := (List.getElem?_eq_some_iff.1 hq).1
  have h2 := h1.imp (i := q) (e := bagsD (ms.set i M) (bs.set i b')) (by rw [List.getElem?_set_self hlt]) fun B hB => by
    have := starL.give hB (j := i) (by simp; omega)
    have e : (List.zipWith bagD ms bs).set i (bagD M b') = List.zipWith bagD (ms.set i M) (bs.set i b') := by
      apply List.ext_getElem?
      intro j
      rw [List.getElem?_zipWith, List.getElem?_set, List.getElem?_set, List.getElem?_set]
      by_cases c : i = j
      · subst c
        rw [if_pos rfl, if_pos rfl, if_pos rfl, if_pos (by simp; omega), if_pos hi, if_pos hm]
      · rw [if_neg c, if_neg c, if_neg c, List.getElem?_zipWith]
    unfold bagsD
    rw [← e]
    exact this
  rw [List.set_set] at h2
  exact h2
theorem bags_nil {n : Nat} {B : Base} : bagsD (List.replicate n ⟨none⟩) (List.replicate n none) B := by
  refine ⟨fun _ => 0, fun j d hj => ?_⟩
  obtain ⟨x, y, hx, hy, rfl⟩ := List.getElem?_zipWith_eq_some.1 hj
  have hx := (List.mem_replicate.1 (List.mem_of_getElem? hx)).2
  have hy := (List.mem_replicate.1 (List.mem_of_getElem? hy)).2
  subst hx hy
  trivial
theorem shapeD {E : TypeId} {v : Value} {α : Type} [Enc α] {l : List α} (h : Rel B w σ) (i : Nat) (hi : σ[i]? = some (rowD E v l)) : ∃ x n c, v = .slice x n c := by
  rcases h.here hi with ⟨rfl, _⟩ | ⟨g, cap, _, rfl, _⟩
  · exact ⟨_, _, _, rfl⟩
  · exact ⟨_, _, _, rfl⟩
theorem Rel.addPure {d : Dat} (h : Rel B w σ) (hd : ∀ B, d B) : Rel B w (σ ++ [d]) := by
  obtain ⟨c, h⟩ := h
  refine ⟨c, h.os, h.tape, h.output, h.size, h.keepc, h.same, fun j e hj => ?_⟩
  by_cases hl : j < σ.length
  · rw [List.getElem?_append_left hl] at hj; exact h.own j e hj
  · rw [List.getElem?_append_right (by omega)] at hj
    have : j = σ.length := by
      rcases Nat.lt_trichotomy j σ.length with c | c | c
      · omega
      · exact c
      · rw [List.getElem?_eq_none (by simp; omega)] at hj; cases hj
    subst this
    simp at hj
    subst hj
    exact hd _

theorem New_m {v : Value} {aggs : List AggD} (r : rowR v aggs B) (hl : aggs.length ≤ 1000) : Makes Tryd.prog B (sCall F_aggregate_New #[v]) fun u τ => ∃ p, u = ptr p ∧ τ = [accD p (newS aggs)] := by
  refine Makes.intro fun B' w K base h k => ?_
  replace r := base r
  refine aggregate_New.up (aggregate_New.call ?_)
  unfold aggregate_New.pt
  refine LETJ_intro fun J hJ => ?_
  replace hJ : ∀ (w1 : World) (p gs gb : Nat) (xa : Option Addr) (na ca : Nat), Rel B' w1 [cellD p T_aggregate_Acc #[.slice xa na ca, .int .i64 0, .slice (some ⟨gs, 0, none⟩) aggs.length aggs.length, .slice (some ⟨gb, 0, none⟩) aggs.length aggs.length], rowD T_api_Agg (.slice xa na ca) aggs, rowD T_int (.slice (some ⟨gs, 0, none⟩) aggs.length aggs.length) (List.replicate aggs.length (0 : Int)), rowD T_map_api_Value_int (.slice (some ⟨gb, 0, none⟩) aggs.length aggs.length) (List.replicate aggs.length (⟨none⟩ : MP))] → J (ptr p, ()) w1 := by
    intro w1 p gs gb xa na ca h
    refine hJ _ _ ?_
    clear hJ
    simp -zeta only [nil_ptr, field_addr f_aggregate_Acc_3, Nat.zero_add]
    rw [rowR.len r sl_s_api_Agg]
    have h := h.addPure (d := bagsD (List.replicate aggs.length ⟨none⟩) (List.replicate aggs.length none)) fun B => bags_nil
    refine LOOP_intro (fun y w' => ∃ (i : Nat) (ms : List MP), i ≤ aggs.length ∧ ms.length = aggs.length ∧ y = (.int .i64 i, ()) ∧ Rel B' w' [cellD p T_aggregate_Acc #[.slice xa na ca, .int .i64 0, .slice (some ⟨gs, 0, none⟩) aggs.length aggs.length, .slice (some ⟨gb, 0, none⟩) aggs.length aggs.length], rowD T_api_Agg (.slice xa na ca) aggs, rowD T_int (.slice (some ⟨gs, 0, none⟩) aggs.length aggs.length) (List.replicate aggs.length (0 : Int)), rowD T_map_api_Value_int (.slice (some ⟨gb, 0, none⟩) aggs.length aggs.length) ms, bagsD ms (newB aggs i)])
      (fun y _ => aggs.length - (match y.1 with | .int _ n => n.toNat | _ => 0)) ⟨0, List.replicate aggs.length ⟨none⟩, Nat.zero_le _, by simp, rfl, ?_⟩ ?_
    · have e : newB aggs 0 = List.replicate aggs.length none := by simp [newB]
      rw [e]
      exact h
    clear h
    rintro y w1 ⟨i, ms, hi, hms, rfl, h⟩ next hnext
    simp -zeta only [bin_lss, ifB_dec]
    refine ⟨fun hlt => ?_, fun hge => ?_⟩
    case refine_2 =>
      have : i = aggs.length := by omega
      subst this
      have e : newB aggs aggs.length = aggs.map nb := by simp [newB]
      rw [e] at h
      exact k _ _ _ ⟨p, rfl, rfl⟩ (accD.close (p := p) (x := newS aggs) (τ := []) ⟨⟨.slice xa na ca, rfl⟩, ⟨.slice (some ⟨gs, 0, none⟩) aggs.length aggs.length, rfl⟩, ⟨.slice (some ⟨gb, 0, none⟩) aggs.length aggs.length, rfl⟩, ms⟩ (by show ms.length = (aggs.map nb).length; rw [hms]; simp) h)
    have hil : i < aggs.length := by omega
    refine LETJ_intro fun J2 hJ2 => ?_
    replace hJ2 : ∀ (w' : World) (ms' : List MP), ms'.length = aggs.length → Rel B' w' [cellD p T_aggregate_Acc #[.slice xa na ca, .int .i64 0, .slice (some ⟨gs, 0, none⟩) aggs.length aggs.length, .slice (some ⟨gb, 0, none⟩) aggs.length aggs.length], rowD T_api_Agg (.slice xa na ca) aggs, rowD T_int (.slice (some ⟨gs, 0, none⟩) aggs.length aggs.length) (List.replicate aggs.length (0 : Int)), rowD T_map_api_Value_int (.slice (some ⟨gb, 0, none⟩) aggs.length aggs.length) ms', bagsD ms' (newB aggs (i + 1))] → J2 () w' := by
      intro w' ms' hm h
      refine hJ2 _ _ ?_
      show pureK _ _ _
      rw [bin_add, wrap_id (by omega) (by omega)]
      exact hnext _ _ ⟨i + 1, ms', hil, hm, rfl, h⟩ (by simp only; omega)
    clear hnext k
    obtain ⟨g, o, hix, hc⟩ := rowR.idx (P := Tryd.prog) r sl_s_api_Agg hil
    have hc : cellsR g o aggs[i].cs B' := hc
    rw [hix, cellsR.ldAg (h.hereB hc) ag_api_Agg rfl]
    refine h.allocAg (ds := aggs[i].cs.toArray) z_api_Agg rfl ag_api_Agg rfl (fun v hv => Enc.one aggs[i] v hv) fun a1 w2 h => ?_
    rw [h.ldAg 5 rfl ag_api_Agg rfl]
    refine h.ask (fun B2 own base2 => ordered_g aggs[i]) fun w3 h => ?_
    have hsucc := newB_succ hil
    unfold nb at hsucc
    rw [ifB_bool]
    refine ⟨fun c2 => ?_, fun c2 => ?_⟩
    case refine_2 =>
      rw [if_neg (by rw [c2]; decide)] at hsucc
      have e : (newB aggs i).set i none = newB aggs i := by
        have hg := newB_get hil
        obtain ⟨h1, h2⟩ := List.getElem?_eq_some_iff.1 hg
        rw [← h2]
        exact List.set_getElem_self h1
      rw [e] at hsucc
      exact hJ2 _ ms hms (by rw [hsucc]; exact h.take 5)
    rw [if_pos c2] at hsucc
    rw [h.ld 0 rfl sc_s_map_api_Value_int (o := 3) (v := .slice (some ⟨gb, 0, none⟩) aggs.length aggs.length) rfl]
    refine h.mkMap ValD Int fun m w4 h => ?_
    rw [idx_own (α := MP) sl_s_map_api_Value_int hil]
    refine h.set_sc (α := MP) 3 rfl ⟨some m⟩ (j := i) (by omega) (f := 0) rfl (by decide) rfl sc_map_api_Value_int rfl fun w5 h => ?_
    have h : Rel B' w5 ([cellD p T_aggregate_Acc #[.slice xa na ca, .int .i64 0, .slice (some ⟨gs, 0, none⟩) aggs.length aggs.length, .slice (some ⟨gb, 0, none⟩) aggs.length aggs.length], rowD T_api_Agg (.slice xa na ca) aggs, rowD T_int (.slice (some ⟨gs, 0, none⟩) aggs.length aggs.length) (List.replicate aggs.length (0 : Int)), rowD T_map_api_Value_int (.slice (some ⟨gb, 0, none⟩) aggs.length aggs.length) (ms.set i ⟨some m⟩), bagsD ms (newB aggs i), cellD a1 T_api_Agg aggs[i].cs.toArray] ++ [bagD ⟨some m⟩ (some ([], 0))]) := h
    have h := bags_put (i := i) h 4 rfl (by omega) (by rw [newB_len aggs hi]; exact hil)
    refine hJ2 _ (ms.set i ⟨some m⟩) (by simp [hms]) ?_
    rw [hsucc]
    exact h.take 5
  clear k
  rw [rowR.len r sl_s_api_Agg, rowR.len r sl_s_api_Agg]
  have isl : ∀ w, Is Tryd.prog (sBlt .len #[T_s_api_Agg] T_int #[false] #[v]) (.int .i64 aggs.length) w := fun w => by
    have := rowR.len (P := Tryd.prog) (w := w) (T := T_s_api_Agg) (U := T_int) (bs := #[false]) (Kp := fun x => x = .int .i64 aggs.length) r sl_s_api_Agg
    obtain ⟨x, h1, rfl⟩ := this.mpr rfl
    exact h1
  have fin : ∀ (w1 : World) (gs gb : Nat) (xa : Option Addr) (na ca : Nat), Rel B' w1 [rowD T_api_Agg (.slice xa na ca) aggs, rowD T_int (.slice (some ⟨gs, 0, none⟩) aggs.length aggs.length) (List.replicate aggs.length (0 : Int)), rowD T_map_api_Value_int (.slice (some ⟨gb, 0, none⟩) aggs.length aggs.length) (List.replicate aggs.length (⟨none⟩ : MP))] →
      pureK Tryd.prog (sBuild T_aggregate_Acc #[(0, .slice xa na ca), (2, .slice (some ⟨gs, 0, none⟩) aggs.length aggs.length), (3, .slice (some ⟨gb, 0, none⟩) aggs.length aggs.length)]) fun t14 => upK Tryd.prog (sBox T_aggregate_Acc t14) w1 fun t15 w12 => J (t15, ()) w12 := by
    intro w1 gs gb xa na ca h
    rw [bd_aggregate_Acc_0_2_3]
    refine h.box fun p w2 h => ?_
    exact hJ w2 p gs gb xa na ca (h.pick [3, 0, 1, 2] (by decide))
  clear hJ
  have h := h.tick
  generalize tick w = w at *
  refine ⟨?_, ?_, ?_⟩
  · skip
    refine h.make (fun B2 own base2 => gslices_Clone_s_api_Agg_api_Agg (base2 r) (by omega) (by omega)) fun u τ w1 hp h => ?_
    subst hp
    obtain ⟨xa, na, ca, rfl⟩ := shapeD h 0 rfl
    refine ⟨isl _, isl _, ?_, ?_⟩
    · skip
      refine h.mkSliceV (0 : Int) sl_s_int (by kernel_rfl) (by omega) (by omega) fun gs w1 h => ?_
      refine ⟨isl _, ?_⟩
      refine h.mkSliceV (⟨none⟩ : MP) sl_s_map_api_Value_int (by kernel_rfl) (by omega) (by omega) fun gb w1 h => ?_
      refine ⟨isl _, ?_⟩
      exact fin _ _ _ _ _ _ (h.pick [0, 1, 2] (by decide))
    · skip
      refine h.mkSliceV (⟨none⟩ : MP) sl_s_map_api_Value_int (by kernel_rfl) (by omega) (by omega) fun gb w1 h => ?_
      refine ⟨isl _, ?_⟩
      refine h.mkSliceV (0 : Int) sl_s_int (by kernel_rfl) (by omega) (by omega) fun gs w1 h => ?_
      refine ⟨isl _, ?_⟩
      exact fin _ _ _ _ _ _ (h.pick [0, 2, 1] (by decide))
  · skip
    refine h.mkSliceV (0 : Int) sl_s_int (by kernel_rfl) (by omega) (by omega) fun gs w1 h => ?_
    refine ⟨isl _, ?_, ?_⟩
    · skip
      refine h.make (fun B2 own base2 => gslices_Clone_s_api_Agg_api_Agg (base2 r) (by omega) (by omega)) fun u τ w1 hp h => ?_
      subst hp
      obtain ⟨xa, na, ca, rfl⟩ := shapeD h 1 rfl
      refine ⟨isl _, isl _, ?_⟩
      refine h.mkSliceV (⟨none⟩ : MP) sl_s_map_api_Value_int (by kernel_rfl) (by omega) (by omega) fun gb w1 h => ?_
      refine ⟨isl _, ?_⟩
      exact fin _ _ _ _ _ _ (h.pick [1, 0, 2] (by decide))
    · skip
      refine h.mkSliceV (⟨none⟩ : MP) sl_s_map_api_Value_int (by kernel_rfl) (by omega) (by omega) fun gb w1 h => ?_
      refine ⟨isl _, ?_⟩
      refine h.make (fun B2 own base2 => gslices_Clone_s_api_Agg_api_Agg (base2 r) (by omega) (by omega)) fun u τ w1 hp h => ?_
      subst hp
      obtain ⟨xa, na, ca, rfl⟩ := shapeD h 2 rfl
      refine ⟨isl _, isl _, ?_⟩
      exact fin _ _ _ _ _ _ (h.pick [2, 0, 1] (by decide))
  · skip
    refine h.mkSliceV (⟨none⟩ : MP) sl_s_map_api_Value_int (by kernel_rfl) (by omega) (by omega) fun gb w1 h => ?_
    refine ⟨isl _, ?_, ?_⟩
    · skip
      refine h.make (fun B2 own base2 => gslices_Clone_s_api_Agg_api_Agg (base2 r) (by omega) (by omega)) fun u τ w1 hp h => ?_
      subst hp
      obtain ⟨xa, na, ca, rfl⟩ := shapeD h 1 rfl
      refine ⟨isl _, isl _, ?_⟩
      refine h.mkSliceV (0 : Int) sl_s_int (by kernel_rfl) (by omega) (by omega) fun gs w1 h => ?_
      refine ⟨isl _, ?_⟩
      exact fin _ _ _ _ _ _ (h.pick [1, 2, 0] (by decide))
    · skip
      refine h.mkSliceV (0 : Int) sl_s_int (by kernel_rfl) (by omega) (by omega) fun gs w1 h => ?_
      refine ⟨isl _, ?_⟩
      refine h.make (fun B2 own base2 => gslices_Clone_s_api_Agg_api_Agg (base2 r) (by omega) (by omega)) fun u τ w1 hp h => ?_
      subst hp
      obtain ⟨xa, na, ca, rfl⟩ := shapeD h 2 rfl
      refine ⟨isl _, isl _, ?_⟩
      exact fin _ _ _ _ _ _ (h.pick [2, 1, 0] (by decide))
end
end Go.Proofs.YtoebncgnjbblgaaDoor
