/-
  Accumulators: clones of bags, Merge. No condition.
-/
import Derived.Test.YtoebncgnjbblgaaGreatDoorAgX
import Derived.Shelf.SlMaps.Clone
--@auto
namespace Go.Proofs.YtoebncgnjbblgaaGreatDoor
open Go.RowKit Go.Shelf
set_option maxRecDepth 100000

def alikeS (g h : AggD) : Bool := decide (g.kind = h.kind) && (decide (g.col = h.col) || decide (g.kind = 0))
section
variable {B : Base} {w : World} {σ : List Dat}
theorem mk_iface {P : Program} {Kp : Value → Prop} {T k E : TypeId} {v : Value} (hT : P.underlying T = some (.map k E)) : pureK P (sMkIface T v) Kp = Kp (.iface T v) := pureK_eq fun w => by
  refine vN_run ?_
  unfold Instr.makeInterface
  rw [Sem.run_bind, run_underlying hT]
  rfl
theorem as_map {P : Program} {K : Value → World → Prop} {T xT k E : TypeId} {v : Value} (hT : P.underlying T = some (.map k E)) (kk : K v w) : upK P (sTypeAssert (.iface T v) xT T false) w K :=
  upK_of (vN_run (run_typeAssert_map_sl w T xT k E v hT)) kk
theorem Rel.mapsClone {κ ν : Type} [Enc κ] [Enc ν] {K : Value → World → Prop} {m c : Nat} {l : List (Ent κ ν)} {T : TypeId} (h : Rel B w σ) (hm : mapE m l c B) (kk : ∀ m' w', Rel B w' (σ ++ [mapE m' l c]) → K (.iface T (mapV m')) w') : upK Tryz.prog (sCall F_maps_clone #[.iface T (mapV m)]) w K := by
  have hb : w.heap[m]? = some (.map (l.map entV).toArray c) := (h.hereB hm).2
  have hrun : (sCall F_maps_clone #[.iface T (mapV m)]).run Tryz.prog w = .ok (.value (.iface T (mapV w.heap.size))) (w.alloc (.map (l.map entV).toArray c)) := by
    unfold sCall
    rw [run_callFunc_extern (P := Tryz.prog) (f := F_maps_clone) (fn := (Tryz.prog.funcs[F_maps_clone]?).get (by kernel_rfl)) (Option.some_get _).symm (by kernel_rfl) (by kernel_rfl) (by kernel_rfl) (e := Extern.MapsClone.clone) (by kernel_rfl), run_maps_clone_sl w T hb]
    rfl
  obtain ⟨cc, h⟩ := h
  exact upK_of hrun (kk _ _ ⟨paint cc w.heap.size (σ.length + 1), h.push (Step.alloc nobody cc w _ _) ⟨by simp [paint], heap_alloc_new w _⟩⟩)
theorem cloneV_m {m c : Nat} {l : List EntV} (hm : mapE m l c B) : Makes Tryz.prog B (sCall F_maps_Clone_map_api_Value_int_api_Value_int #[mapV m]) fun v τ => ∃ m', v = mapV m' ∧ τ = [mapE m' l c] := by
  refine Makes.intro fun B' w K base h k => ?_
  replace hm := base hm
  refine maps_Clone_map_api_Value_int_api_Value_int.up (maps_Clone_map_api_Value_int_api_Value_int.call ?_)
  unfold maps_Clone_map_api_Value_int_api_Value_int.pt
  rw [eql_map_nil U_map_api_Value_int, ifB_false, mk_iface U_map_api_Value_int]
  refine h.mapsClone hm fun m' w1 h => ?_
  exact as_map U_map_api_Value_int (k _ _ _ ⟨m', rfl, rfl⟩ h)
theorem run_equalIn_nil_nil {P : Program} {T k E : TypeId} (d : Nat) (hT : P.underlying T = some (.map k E)) : (Op.equalIn (d + 1) T (.map none) (.map none)).run P w = .ok true w := by simp [Op.equalIn, run_underlying hT]
theorem eql_nil_nil {P : Program} {Kp : Value → Prop} {T k E : TypeId} {xo yo : Operand} (hT : P.underlying T = some (.map k E)) : pureK P (sBin .eql T xo yo (.map none) (.map none)) Kp = Kp (.bool true) := pureK_eq fun w => sBin_eq rfl (by
  have h2 : (Op.equal T (.map none) (.map none)).run P w = .ok true w := run_equalIn_nil_nil 9999 hT
  simp only [binOp]
  simp [h2])
theorem cloneN_g : Gives Tryz.prog B (sCall F_maps_Clone_map_api_Value_int_api_Value_int #[.map none]) (.map none) := by
  refine Gives.intro fun B' w K base h k => ?_
  refine maps_Clone_map_api_Value_int_api_Value_int.up (maps_Clone_map_api_Value_int_api_Value_int.call ?_)
  unfold maps_Clone_map_api_Value_int_api_Value_int.pt
  rw [eql_nil_nil U_map_api_Value_int, ifB_true]
  exact k _ _ h
theorem alike_g (g g2 : AggD) : Gives Tryz.prog B (sCallV (.func (.func F_aggregate_alike) #[] #[]) #[g.v, g2.v]) (.bool (alikeS g g2)) := by
  refine Gives.intro fun B' w K base h k => ?_
  refine call_v ?_
  show upK Tryz.prog (sCall F_aggregate_alike #[g.v, g2.v]) w K
  refine aggregate_alike.up (aggregate_alike.call ?_)
  unfold aggregate_alike.pt
  unfold alikeS at k
  refine h.box fun o w1 h => ?_
  refine h.box fun o2 w2 h => ?_
  have h : Rel B' w2 [cellD o T_api_Agg g.cs.toArray, cellD o2 T_api_Agg g2.cs.toArray] := h
  simp -zeta only [field_addr f_api_Agg_0, field_addr f_api_Agg_1, Nat.zero_add, h.ld 0 rfl sc_int (o := 0) (v := .int .i64 g.kind) rfl, h.ld 1 rfl sc_int (o := 0) (v := .int .i64 g2.kind) rfl, h.ld 0 rfl sc_int (o := 1) (v := .int .i64 g.col) rfl, h.ld 1 rfl sc_int (o := 1) (v := .int .i64 g2.col) rfl, bin_eql, ifB_dec]
  refine ⟨fun c => ⟨fun c2 => ?_, fun c2 => ?_⟩, fun c => ?_⟩
  · rw [decide_eq_true c, decide_eq_true c2, Bool.true_or, Bool.true_and] at k; exact k _ _ h
  · rw [decide_eq_true c, decide_eq_false c2, Bool.false_or, Bool.true_and] at k; exact k _ _ h
  · rw [decide_eq_false c, Bool.false_and] at k; exact k _ _ h
theorem alike_refl (g : AggD) : alikeS g g = true := by unfold alikeS; simp
theorem equalA_no {u v : Value} {l m : List AggD} (r : rowR u l B) (q : rowR v m B) (h : l.length ≠ m.length) {f : Value} : Gives Tryz.prog B (sCall F_slices_EqualFunc_s_api_Agg_s_api_Agg_api_Agg_api_Agg #[u, v, f]) (.bool false) := by
  refine Gives.intro fun B' w K base hr k => ?_
  replace r := base r
  replace q := base q
  refine slices_EqualFunc_s_api_Agg_s_api_Agg_api_Agg_api_Agg.up (slices_EqualFunc_s_api_Agg_s_api_Agg_api_Agg_api_Agg.call ?_)
  unfold slices_EqualFunc_s_api_Agg_s_api_Agg_api_Agg_api_Agg.pt
  rw [rowR.len r sl_s_api_Agg, rowR.len q sl_s_api_Agg, bin_neq, ifB_not, ifB_dec]
  exact ⟨fun hh => absurd (by omega) h, fun _ => k _ _ hr⟩
theorem equalA_yes {u v : Value} {l : List AggD} (r : rowR u l B) (q : rowR v l B) (hl : l.length ≤ 1000000) : Gives Tryz.prog B (sCall F_slices_EqualFunc_s_api_Agg_s_api_Agg_api_Agg_api_Agg #[u, v, .func (.func F_aggregate_alike) #[] #[]]) (.bool true) := by
  refine Gives.intro fun B' w K base h k => ?_
  replace r := base r
  replace q := base q
  refine slices_EqualFunc_s_api_Agg_s_api_Agg_api_Agg_api_Agg.up (slices_EqualFunc_s_api_Agg_s_api_Agg_api_Agg_api_Agg.call ?_)
  unfold slices_EqualFunc_s_api_Agg_s_api_Agg_api_Agg_api_Agg.pt
  rw [rowR.len r sl_s_api_Agg, rowR.len q sl_s_api_Agg, bin_neq, ifB_not, ifB_dec]
  refine ⟨fun _ => ?_, fun hh => absurd rfl hh⟩
  rw [rowR.len r sl_s_api_Agg]
  refine LOOP_intro (fun x w' => ∃ i : Nat, i ≤ l.length ∧ x = (.int .i64 i, ()) ∧ Rel B' w' []) (fun x _ => l.length - (match x.1 with | .int _ n => n.toNat | _ => 0))
    ⟨0, Nat.zero_le _, rfl, h⟩ ?_
  clear h
  rintro x w1 ⟨i, hi, rfl, h⟩ next hnext
  simp -zeta only [bin_lss, ifB_dec]
  refine ⟨fun hlt => ?_, fun hge => k _ _ h⟩
  have hil : i < l.length := by omega
  obtain ⟨g1, o1, hx1, hc1⟩ := rowR.idx r sl_s_api_Agg (P := Tryz.prog) hil
  obtain ⟨g2, o2, hx2, hc2⟩ := rowR.idx q sl_s_api_Agg (P := Tryz.prog) hil
  have hc1 : cellsR g1 o1 l[i].cs B' := hc1
  have hc2 : cellsR g2 o2 l[i].cs B' := hc2
  rw [hx1, cellsR.ldAg (h.hereB hc1) ag_api_Agg rfl]
  refine h.allocAg (ds := l[i].cs.toArray) z_api_Agg rfl ag_api_Agg rfl (fun v hv => Enc.one l[i] v hv) fun a1 w2 h => ?_
  rw [hx2, cellsR.ldAg (h.hereB hc2) ag_api_Agg rfl]
  refine h.allocAg (ds := l[i].cs.toArray) z_api_Agg rfl ag_api_Agg rfl (fun v hv => Enc.one l[i] v hv) fun a2 w3 h => ?_
  have h : Rel B' w3 [cellD a1 T_api_Agg l[i].cs.toArray, cellD a2 T_api_Agg l[i].cs.toArray] := h
  rw [h.ldAg 0 rfl ag_api_Agg rfl, h.ldAg 1 rfl ag_api_Agg rfl]
  refine h.ask (fun B2 own base2 => alike_g l[i] l[i]) fun w4 h => ?_
  rw [alike_refl, un_not, Bool.not_true, ifB_false, bin_add, wrap_id (by omega) (by omega)]
  exact hnext _ _ ⟨i + 1, hil, rfl, h.nil⟩ (by simp only; omega)
end

/-! ### Sums of bags -/
structure SumB (b b' bz : Bag) : Prop where
  wf : WfE bz.1 bz.2
  len : bz.1.length ≤ b.1.length + b'.1.length
  get : ∀ v, getE v bz.1 = match getE v b'.1 with
    | some n => nz (W64 (cntV b v + n))
    | none => getE v b.1
def putAll (b : Bag) (es : List EntV) : Bag := es.foldl (fun b e => putS b e.1 e.2.1) b
theorem putAll_snoc (b : Bag) (es : List EntV) (e : EntV) : putAll b (es ++ [e]) = putS (putAll b es) e.1 e.2.1 := by unfold putAll; rw [List.foldl_append]; rfl
theorem putAll_spec {b : Bag} (hw : WfE b.1 b.2) : ∀ es : List EntV, (es.map (·.1)).Nodup → WfE (putAll b es).1 (putAll b es).2 ∧ (putAll b es).1.length ≤ b.1.length + es.length ∧ ∀ v, getE v (putAll b es).1 = match getE v es with
    | some n => nz (W64 (cntV b v + n))
    | none => getE v b.1 := by
  refine snoc_ind ?_ fun es e ih hn => ?_
  · intro _
    refine ⟨hw, Nat.le_refl _, fun v => ?_⟩
    show getE v b.1 = _
    rfl
  · rw [List.map_append, List.nodup_append] at hn
    obtain ⟨h1, h2, h3⟩ := ih hn.1
    have hne : ∀ x ∈ es, x.1 ≠ e.1 := fun x hx => hn.2.2 x.1 (List.mem_map.2 ⟨x, hx, rfl⟩) e.1 (by simp)
    rw [putAll_snoc]
    have hp := putS_wf (v := e.1) (n := e.2.1) h1 h2
    refine ⟨hp.1, by rw [List.length_append, List.length_singleton]; have := hp.2; omega, fun v => ?_⟩
    rw [putS_get h1, h3]
    obtain ⟨k, n, s⟩ := e
    rw [getE_append]
    by_cases c : v = k
    · subst c
      have hnone : getE v es = none := getE_none.2 hne
      have hv := h3 v
      rw [hnone] at hv
      rw [if_pos rfl, if_pos rfl, hnone]
      rfl
    · rw [if_neg c, if_neg c, h3]
      cases getE v es <;> rfl
theorem sumB_of {b b' : Bag} {es : List EntV} (hw : WfE b.1 b.2) (hw' : WfE b'.1 b'.2) (hp : es.Perm b'.1) : SumB b b' (putAll b es) := by
  have hn : (es.map (·.1)).Nodup := (hp.map _).nodup_iff.2 hw'.keys
  obtain ⟨h1, h2, h3⟩ := putAll_spec hw es hn
  refine ⟨h1, by rw [← hp.length_eq]; exact h2, fun v => ?_⟩
  rw [h3]
  have : getE v es = getE v b'.1 := by
    cases hg : getE v b'.1 with
    | none => exact getE_none.2 fun e he => getE_none.1 hg e (hp.mem_iff.1 he)
    | some n =>
      obtain ⟨s, hs⟩ := hw'.getE_iff.1 hg
      exact getE_mem hn (hp.mem_iff.2 hs)
  rw [this]
end Go.Proofs.YtoebncgnjbblgaaGreatDoor
