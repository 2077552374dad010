/-
  Accumulators: sorted, best, Result, Rows, Empty. No condition.
-/
import Derived.Test.YtoebncgnjbblgaaDoorAggD
--@auto
namespace Go.Proofs.YtoebncgnjbblgaaDoor
open Go.RowKit
set_option maxRecDepth 100000

theorem sortV_sorted (l : List ValD) : (sortV l).Pairwise fun a b => compareV a b ≤ 0 := by
  have o := compareV_ord
  have h := List.pairwise_mergeSort (le := fun x y => !ltV y x) (fun a b c h1 h2 => by
    simp only [ltV, Bool.not_eq_true', decide_eq_false_iff_not] at *
    have a1 := o.anti a b
    have a2 := o.anti b c
    have a3 := o.anti a c
    have := o.trans a b c (by omega) (by omega)
    omega) (fun a b => by
    simp only [ltV, Bool.or_eq_true, Bool.not_eq_true', decide_eq_false_iff_not]
    have := o.anti a b
    omega) l
  refine h.imp fun {a b} hab => ?_
  simp only [ltV, Bool.not_eq_true', decide_eq_false_iff_not] at hab
  have := o.anti a b
  omega
theorem sortV_perm {l m : List ValD} (h : l.Perm m) : sortV l = sortV m := by
  have o := compareV_ord
  refine List.Perm.eq_of_pairwise (le := fun a b => compareV a b ≤ 0) (fun a b _ _ h1 h2 => ?_) (sortV_sorted l) (sortV_sorted m) (((List.mergeSort_perm l _).trans h).trans (List.mergeSort_perm m _).symm)
  have := o.anti a b
  exact (o.eq a b).1 (by omega)
/-- A bag's values in order. -/
def keysV (b : Bag) : List ValD := sortV (b.1.map (·.1))
def cntV (b : Bag) (v : ValD) : Int := (getE v b.1).getD 0
def posV (b : Bag) : List ValD := (keysV b).filter fun v => decide (0 < cntV b v)
def bestS (g : AggD) (b : Bag) : ValD :=
  match posV b with
  | [] => vInt 0
  | a :: r => if g.kind = 2 then a else (a :: r).getLast (by simp)
def resAt (x : ACC) (i : Nat) : ValD :=
  match x.aggs[i]? with
  | none => vZero
  | some g => if g.kind = 0 then vInt x.count else if g.kind = 1 then vInt ((x.sums[i]?).getD 0) else match x.bags[i]? with
    | some (some b) => bestS g b
    | _ => vInt 0
def resultS (x : ACC) : List ValD := (List.range x.aggs.length).map (resAt x)
def rowsAt (b : Option Bag) : Nat := match b with
  | none => 0
  | some b => b.1.length
def rowsS (x : ACC) : Nat := (x.bags.map rowsAt).sum
def emptyS (x : ACC) : Bool := decide (x.count = 0) && (decide (rowsS x = 0) && !x.sums.any fun n => decide (n ≠ 0))
def Kinds (aggs : List AggD) : Prop := ∀ g ∈ aggs, 0 ≤ g.kind ∧ g.kind < 4

section
variable {B : Base} {w : World} {σ : List Dat} {p N : Nat} {x : ACC}
theorem accD.map {ms : List MP} {bs : List (Option Bag)} (h : bagsD ms bs B) (hm : ms.length = bs.length) {i : Nat} {b : Bag} (hb : bs[i]? = some (some b)) : ∃ m, ms[i]? = some ⟨some m⟩ ∧ mapE m b.1 b.2 B := by
  have hi : i < ms.length := by rw [hm]; exact (List.getElem?_eq_some_iff.1 hb).1
  have hM : ms[i]? = some ms[i] := List.getElem?_eq_getElem hi
  have hd : bagD ms[i] (some b) B := starL.get h (j := i) (by rw [List.getElem?_zipWith, hM, hb])
  obtain ⟨m, e⟩ := bagD_some hd
  rw [e] at hd hM
  exact ⟨m, hM, hd⟩
theorem sorted_m (a : accD p x B) (hx : GoodA N x) (hN : N ≤ 1000000) {i : Nat} {b : Bag} (hb : x.bags[i]? = some (some b)) :
    Makes Tryd.prog B (sCall F_aggregate_Acc_sorted #[ptr p, .int .i64 i]) fun u τ => τ = [rowD T_api_Value u (keysV b)] := by
  refine Makes.intro fun B' w K base h k => ?_
  replace a := base a
  refine aggregate_Acc_sorted.up (aggregate_Acc_sorted.call ?_)
  unfold aggregate_Acc_sorted.pt
  obtain ⟨⟨⟨av, hav⟩, ⟨sv, hsv⟩, ⟨bv, hbv⟩, ms⟩, hms, hr⟩ := accD.read a
  have c0 : cellD p T_aggregate_Acc #[av, .int .i64 x.count, sv, bv] B' := hr 0 _ rfl
  have c3 : rowD T_map_api_Value_int bv ms B' := hr 3 _ rfl
  have c4 : bagsD ms x.bags B' := hr 4 _ rfl
  have hms : ms.length = x.bags.length := hms
  obtain ⟨m, hM, hmap⟩ := accD.map c4 hms hb
  obtain ⟨hwf, hlen⟩ := hx.wf i b hb
  simp -zeta only [nil_ptr, field_addr f_aggregate_Acc_3, Nat.zero_add]
  rw [cellD.ld (h.hereB c0) sc_s_map_api_Value_int (o := 3) (v := bv) rfl]
  obtain ⟨hml, hMi⟩ := List.getElem?_eq_some_iff.1 hM
  obtain ⟨g3, o3, hix, hc⟩ := rowR.idx (P := Tryd.prog) (rowD.read c3) sl_s_map_api_Value_int hml
  rw [hMi] at hc
  rw [hix, cellsR.ld0 (h.hereB hc) sc_map_api_Value_int (v := mapV m) rfl]
  refine h.make (fun B2 own base2 => keysV_m m) fun u τ w1 hp h => ?_
  obtain ⟨b0, rfl, rfl⟩ := hp
  have h : Rel B' w1 [cellD b0 T_map_api_Value_int #[mapV m]] := h
  refine slices_SortedFunc_api_Value.up (slices_SortedFunc_api_Value.call ?_)
  unfold slices_SortedFunc_api_Value.pt
  refine h.make (fun B2 own base2 => collectV_m (own (i := 0) rfl) (base2 hmap) hwf (by omega)) fun u τ w2 hp h => ?_
  obtain ⟨ss, hss, rfl⟩ := hp
  have h : Rel B' w2 [cellD b0 T_map_api_Value_int #[mapV m], rowD T_api_Value u ss] := h
  have hsl : ss.length = b.1.length := by rw [hss.length_eq, List.length_map]
  refine h.act 1 rfl (fun B2 own base2 => SortV_d (by omega)) fun u2 e' τ w3 hp h => ?_
  obtain ⟨rfl, rfl, rfl⟩ := hp
  have h : Rel B' w3 [cellD b0 T_map_api_Value_int #[mapV m], rowD T_api_Value u (sortV ss)] := h
  rw [sortV_perm hss] at h
  exact k _ _ _ rfl (h.pick [1] (by decide))
theorem best1_g (a : accD p x B) {i a2 i3 : Nat} {b : Bag} (hb : x.bags[i]? = some (some b)) (h2 : cellD a2 T_p_aggregate_Acc #[ptr p] B) (h3 : cellD i3 T_int #[.int .i64 i] B) (v : ValD) :
    Gives Tryd.prog B (sCallV (.func (.func F_aggregate_Acc_best_1) #[] #[ptr a2, ptr i3]) #[v.v]) (.bool (decide (cntV b v ≤ 0))) := by
  refine Gives.intro fun B' w K base h k => ?_
  replace a := base a
  replace h2 := base h2
  replace h3 := base h3
  refine call_v ?_
  show upK Tryd.prog (sCall F_aggregate_Acc_best_1 #[v.v, ptr a2, ptr i3]) w K
  refine aggregate_Acc_best_1.up (aggregate_Acc_best_1.call ?_)
  unfold aggregate_Acc_best_1.pt
  obtain ⟨⟨⟨av, hav⟩, ⟨sv, hsv⟩, ⟨bv, hbv⟩, ms⟩, hms, hr⟩ := accD.read a
  have c0 : cellD p T_aggregate_Acc #[av, .int .i64 x.count, sv, bv] B' := hr 0 _ rfl
  have c3 : rowD T_map_api_Value_int bv ms B' := hr 3 _ rfl
  have c4 : bagsD ms x.bags B' := hr 4 _ rfl
  have hms : ms.length = x.bags.length := hms
  obtain ⟨m, hM, hmap⟩ := accD.map c4 hms hb
  refine h.box fun o w1 h => ?_
  have h : Rel B' (tick w1) [cellD o T_api_Value v.cs.toArray] := h.tick
  generalize tick w1 = w1 at *
  rw [cellD.ld (h.hereB h2) sc_p_aggregate_Acc (o := 0) (v := ptr p) rfl]
  simp -zeta only [nil_ptr, field_addr f_aggregate_Acc_3, Nat.zero_add]
  rw [cellD.ld (h.hereB c0) sc_s_map_api_Value_int (o := 3) (v := bv) rfl, cellD.ld (h.hereB h3) sc_int (o := 0) (v := .int .i64 i) rfl]
  obtain ⟨hml, hMi⟩ := List.getElem?_eq_some_iff.1 hM
  obtain ⟨g3, o3, hix, hc⟩ := rowR.idx (P := Tryd.prog) (rowD.read c3) sl_s_map_api_Value_int hml
  rw [hMi] at hc
  rw [hix, cellsR.ld0 (h.hereB hc) sc_map_api_Value_int (v := mapV m) rfl, h.ldAg 0 rfl ag_api_Value rfl]
  rw [mapE.look (h.hereB hmap) U_map_api_Value_int kV 0 z_int v]
  rw [show (Enc.val ((getE v b.1).getD 0) : Value) = .int .i64 (cntV b v) from rfl, bin_leq]
  exact k _ _ h
theorem best_g (a : accD p x B) (hx : GoodA N x) (hN : N ≤ 1000000) {i : Nat} {b : Bag} {g : AggD} (hb : x.bags[i]? = some (some b)) (hg : x.aggs[i]? = some g) :
    Gives Tryd.prog B (sCall F_aggregate_Acc_best #[ptr p, .int .i64 i]) (bestS g b).v := by
  refine Gives.intro fun B' w K base h k => ?_
  replace a := base a
  refine aggregate_Acc_best.up (aggregate_Acc_best.call ?_)
  unfold aggregate_Acc_best.pt
  refine h.box fun a2 w1 h => ?_
  refine h.box fun i3 w2 h => ?_
  refine h.alloc z_api_Value fun t4 w3 h => ?_
  have h : Rel B' w3 [cellD a2 T_p_aggregate_Acc #[ptr p], cellD i3 T_int #[.int .i64 i], cellD t4 T_api_Value #[.int .i64 0, .int .i64 0, .string ⟨#[]⟩]] := h
  rw [h.ld 0 rfl sc_p_aggregate_Acc (o := 0) (v := ptr p) rfl, h.ld 1 rfl sc_int (o := 0) (v := .int .i64 i) rfl]
  refine h.make (fun B2 own base2 => sorted_m (base2 a) hx hN hb) fun u τ w4 hp h => ?_
  subst hp
  have h : Rel B' w4 [cellD a2 T_p_aggregate_Acc #[ptr p], cellD i3 T_int #[.int .i64 i], cellD t4 T_api_Value #[.int .i64 0, .int .i64 0, .string ⟨#[]⟩], rowD T_api_Value u (keysV b)] := h
  rw [mk_func]
  have hkl : (keysV b).length = b.1.length := by unfold keysV sortV; rw [List.length_mergeSort, List.length_map]
  have hlen := (hx.wf i b hb).2
  refine h.act 3 rfl (fun B2 own base2 => dslices_DeleteFunc_s_api_Value_api_Value (by omega) (fun v => decide (cntV b v ≤ 0)) fun B3 base3 v _ => best1_g (base3 (base2 a)) hb (base3 (own (j := 0) (by decide) rfl)) (base3 (own (j := 1) (by decide) rfl)) v) fun u2 e' τ w5 hp h => ?_
  obtain ⟨rfl, rfl⟩ := hp
  have hf : ((keysV b).filter fun v => !decide (cntV b v ≤ 0)) = posV b := by
    unfold posV
    apply List.filter_congr
    intro v _
    rw [Bool.eq_iff_iff]
    simp
  rw [hf] at h
  have h : Rel B' w5 [cellD a2 T_p_aggregate_Acc #[ptr p], cellD i3 T_int #[.int .i64 i], cellD t4 T_api_Value #[.int .i64 0, .int .i64 0, .string ⟨#[]⟩], rowD T_api_Value u2 (posV b)] := h
  have hpl : (posV b).length ≤ 1000000 := by
    have := List.length_filter_le (fun v => decide (0 < cntV b v)) (keysV b)
    unfold posV
    omega
  rw [rowR.len (rowD.read (h.here (i := 3) rfl)) sl_s_api_Value, bin_eql, ifB_dec]
  unfold bestS at k
  refine ⟨fun c => ?_, fun c => ?_⟩
  · have hnil : posV b = [] := List.eq_nil_of_length_eq_zero (by omega)
    rw [hnil] at k
    refine h.ask (fun B2 own base2 => vInt_g 0) fun w6 h => ?_
    refine h.stAll 2 (ds := (vInt 0).cs.toArray) rfl ag_api_Value rfl rfl (fun v hv => Enc.one (vInt 0) v hv) fun w7 h => ?_
    rw [rv_ag h 2 rfl ag_api_Value rfl]
    exact k _ _ (h.take 0)
  have h := h.tick
  generalize tick w5 = w5 at *
  obtain ⟨⟨⟨av, hav⟩, ⟨sv, hsv⟩, ⟨bv, hbv⟩, ms⟩, hms, hr⟩ := accD.read a
  have c0 : cellD p T_aggregate_Acc #[av, .int .i64 x.count, sv, bv] B' := hr 0 _ rfl
  have c1 : rowD T_api_Agg av x.aggs B' := hr 1 _ rfl
  rw [h.ld 0 rfl sc_p_aggregate_Acc (o := 0) (v := ptr p) rfl]
  simp -zeta only [nil_ptr, field_addr f_aggregate_Acc_0, Nat.zero_add]
  rw [cellD.ld (h.hereB c0) sc_s_api_Agg (o := 0) (v := av) rfl, h.ld 1 rfl sc_int (o := 0) (v := .int .i64 i) rfl]
  obtain ⟨hgl, hgi⟩ := List.getElem?_eq_some_iff.1 hg
  obtain ⟨g3, o3, hix, hc⟩ := rowR.idx (P := Tryd.prog) (rowD.read c1) sl_s_api_Agg hgl
  rw [hgi] at hc
  have hc : cellsR g3 o3 g.cs B' := hc
  rw [hix, field_addr f_api_Agg_0, cellsR.ld (h.hereB hc) sc_int (j := 0) (v := .int .i64 g.kind) rfl, bin_eql, ifB_dec]
  obtain ⟨y, r, hyr⟩ : ∃ y r, posV b = y :: r := by
    cases hq : posV b with
    | nil => rw [hq] at c; exact absurd rfl c
    | cons y r => exact ⟨y, r, rfl⟩
  rw [hyr] at k h hpl
  simp only at k
  have fin : ∀ (w : World) (z : ValD), Rel B' w [cellD a2 T_p_aggregate_Acc #[ptr p], cellD i3 T_int #[.int .i64 i], cellD t4 T_api_Value #[.int .i64 0, .int .i64 0, .string ⟨#[]⟩], rowD T_api_Value u2 (y :: r)] → (∀ w', Rel B' w' [] → K z.v w') → upK Tryd.prog (sStore T_api_Value (ptr t4) (.agg z.cs.toArray)) w fun tu w7 => readV Tryd.prog (do loadVar T_api_Value (← asAddr (ptr t4))) w7 fun t => K t w7 := by
    intro w z h k
    refine h.stAll 2 (ds := z.cs.toArray) rfl ag_api_Value rfl rfl (fun v hv => Enc.one z v hv) fun w7 h => ?_
    rw [rv_ag h 2 rfl ag_api_Value rfl]
    exact k _ (h.take 0)
  have hrd := rowD.read (h.here (i := 3) rfl)
  refine ⟨fun c2 => ?_, fun c2 => ?_⟩
  · rw [if_pos c2] at k
    obtain ⟨g4, o4, hix, hc⟩ := rowR.idx (P := Tryd.prog) hrd sl_s_api_Value (i := 0) (by simp)
    have hc : (cellsR g4 o4 y.cs).here w5 := hc
    rw [show (Value.int .i64 0) = .int .i64 ((0 : Nat) : Int) from rfl, hix, cellsR.ldAg hc ag_api_Value rfl]
    exact fin _ y h fun w' h => k _ _ h
  · rw [if_neg c2] at k
    have hl1 : (y :: r).length = r.length + 1 := rfl
    rw [rowR.len hrd sl_s_api_Value, bin_sub, wrap_id (by omega) (by omega)]
    obtain ⟨g4, o4, hix, hc⟩ := rowR.idx (P := Tryd.prog) hrd sl_s_api_Value (i := r.length) (by simp)
    have hla : (y :: r)[r.length] = (y :: r).getLast (by simp) := by rw [List.getLast_eq_getElem]; rfl
    rw [hla] at hc
    have hc : (cellsR g4 o4 ((y :: r).getLast (by simp)).cs).here w5 := hc
    rw [show (((y :: r).length : Int) - 1) = ((r.length : Nat) : Int) by omega, hix, cellsR.ldAg hc ag_api_Value rfl]
    exact fin _ _ h fun w' h => k _ _ h
end
end Go.Proofs.YtoebncgnjbblgaaDoor
