/-
  Accumulators: the encoding. No condition.
-/
import Derived.Test.YtoebncgnjbblgaaGreatDoorAgA
import Derived.Test.YtoebncgnjbblgaaGreatDoorValB
import Derived.Test.YtoebncgnjbblgaaGreatDoorWireBldR
--@auto
namespace Go.Proofs.YtoebncgnjbblgaaGreatDoor
open Go.RowKit
set_option maxRecDepth 100000

def encE (b : Bag) (v : ValD) : Bs := encT (encV1 v) ++ encI (cntV b v)
def encBag (b : Bag) : Bs := encI b.1.length ++ (keysV b).flatMap (encE b)
def encSum (x : ACC) (g : AggD) (i : Nat) : Bs := if g.kind = 1 then encI ((x.sums[i]?).getD 0) else []
def encOrd (x : ACC) (g : AggD) (i : Nat) : Bs := if ordB g then (match x.bags[i]? with
  | some (some b) => encBag b
  | _ => []) else []
def encAt (x : ACC) (i : Nat) : Bs := match x.aggs[i]? with
  | none => []
  | some g => encSum x g i ++ encOrd x g i
/-- The encoding of an accumulator. -/
def encA (x : ACC) : Bs := encI x.count ++ (List.range x.aggs.length).flatMap (encAt x)
/-- What can be written. -/
structure FitA (N : Nat) (x : ACC) : Prop where
  good : GoodA N x
  count : inI x.count
  sum : ∀ (i : Nat) (s : Int), x.sums[i]? = some s → inI s
  bag : ∀ (i : Nat) (b : Bag), x.bags[i]? = some (some b) → ∀ u ∈ keysV b, GoodVal u ∧ (bl u.s).length ≤ 1000 ∧ inI (cntV b u)
theorem encE_len {b : Bag} {u : ValD} (h : GoodVal u ∧ (bl u.s).length ≤ 1000 ∧ inI (cntV b u)) : (encE b u).length ≤ 1200 := by
  have h1 := encV1_len h.1 h.2.1
  have h2 := encT_len (encV1 u) (by omega)
  have h3 := encI_len h.2.2
  unfold encE
  rw [List.length_append]
  omega
theorem keysV_len (b : Bag) : (keysV b).length = b.1.length := by unfold keysV sortV; rw [List.length_mergeSort, List.length_map]
theorem encBag_len {N : Nat} {x : ACC} (h : FitA N x) (hN : N ≤ 1000000) {i : Nat} {b : Bag} (hb : x.bags[i]? = some (some b)) : (encBag b).length ≤ 1200000100 := by
  have hl := (h.good.wf i b hb).2
  have h1 := flat_len (encE b) (keysV b) 1200 fun u hu => encE_len (h.bag i b hb u hu)
  rw [keysV_len] at h1
  have h2 := encI_len (n := (b.1.length : Int)) ⟨by omega, by omega⟩
  unfold encBag
  rw [List.length_append]
  omega
theorem encAt_len {N : Nat} {x : ACC} (h : FitA N x) (hN : N ≤ 1000000) (i : Nat) : (encAt x i).length ≤ 1200000200 := by
  unfold encAt
  split
  · simp
  · rw [List.length_append]
    have h1 : (encSum x ‹_› i).length ≤ 21 := by
      unfold encSum
      split
      · cases hs : x.sums[i]? with
        | none => exact encI_len (n := 0) ⟨by omega, by omega⟩
        | some s => exact encI_len (h.sum i s hs)
      · simp
    have h2 : (encOrd x ‹_› i).length ≤ 1200000100 := by
      unfold encOrd
      split
      · split
        · rename_i b hb; exact encBag_len h hN hb
        · simp
      · simp
    omega
section
variable {B : Base} {w : World} {σ : List Dat} {p N : Nat} {x : ACC}
theorem cell_row {lo b a : Nat} {l : Bs} {G : AggD} (h : Rel B w [bldD lo b l, cellD a T_api_Agg G.cs.toArray]) : Rel B w [bldD lo b l, rowD T_api_Agg (.slice (some ⟨a, 0, none⟩) 1 1) [G]] :=
  h.imp (i := 1) rfl fun B hB => .inr ⟨a, 1, G.cs.toArray, rfl, hB, Nat.le_refl _, by unfold maxLen; omega, rfl, rfl⟩
theorem row_cell {lo b a : Nat} {l : Bs} {G : AggD} (h : Rel B w [bldD lo b l, rowD T_api_Agg (.slice (some ⟨a, 0, none⟩) 1 1) [G]]) : Rel B w [bldD lo b l, cellD a T_api_Agg G.cs.toArray] :=
  h.imp (i := 1) rfl fun B hB => by
    rcases hB with ⟨h1, _⟩ | ⟨g, cap, cur, h1, h2, _, _, h3, h4⟩
    · cases h1
    · have hg : a = g ∧ 1 = cap := by injection h1 with h1 _ h3; injection h1 with h1; injection h1 with h1; exact ⟨h1, h3⟩
      obtain ⟨rfl, rfl⟩ := hg
      have h3 : cur.size = 3 := h3
      have h4 : cur.toList.take 3 = flat [G] := h4
      have e : cur = G.cs.toArray := by
        apply Array.ext'
        rw [List.take_of_length_le (by simp [h3])] at h4
        rw [h4]
        simp [flat]
        rfl
      rw [← e]
      exact h2
theorem Bytes_g (hB : powD B) (a : accD p x B) (hx : FitA N x) (hN : N ≤ 1000000) : Gives Tryz.prog B (sCall F_aggregate_Acc_Bytes #[ptr p]) (.string (ofL (encA x))) := by
  refine Gives.introB fun B' w K base h start k => ?_
  replace a := base a
  replace hB := base hB
  refine aggregate_Acc_Bytes.up (aggregate_Acc_Bytes.call ?_)
  unfold aggregate_Acc_Bytes.pt
  obtain ⟨⟨⟨av, hav⟩, ⟨sv, hsv⟩, ⟨bv, hbv⟩, ms⟩, hms, hr⟩ := accD.read a
  have c0 : cellD p T_aggregate_Acc #[av, .int .i64 x.count, sv, bv] B' := hr 0 _ rfl
  have c1 : rowD T_api_Agg av x.aggs B' := hr 1 _ rfl
  have c2 : rowD T_int sv x.sums B' := hr 2 _ rfl
  have c3 : rowD T_map_api_Value_int bv ms B' := hr 3 _ rfl
  have c4 : bagsD ms x.bags B' := hr 4 _ rfl
  have hms : ms.length = x.bags.length := hms
  have hfew := hx.good.few
  have hcl := encI_len hx.count
  refine h.alloc z_strings_Builder fun b w1 h => ?_
  have h := start w1 b h
  simp -zeta only [nil_ptr, field_addr f_aggregate_Acc_0, field_addr f_aggregate_Acc_1, field_addr f_aggregate_Acc_2, field_addr f_aggregate_Acc_3, Nat.zero_add]
  rw [cellD.ld (h.hereB c0) sc_int (o := 1) (v := .int .i64 x.count) rfl]
  refine h.ask (fun B2 own base2 => wInt_g (base2 hB) hx.count) fun w2 h => ?_
  refine h.bldWrite (Nat.le_refl _) (by rw [ofL_size, List.length_nil]; omega) fun _ w3 h => ?_
  rw [cellD.ld (h.hereB c0) sc_s_api_Agg (o := 0) (v := av) rfl, rowR.len (rowD.read c1) sl_s_api_Agg]
  refine LOOP_intro (fun y w' => ∃ i : Nat, i ≤ x.aggs.length ∧ y = (.int .i64 i, ()) ∧ Rel B' w' [bldD B'.W.heap.size b (encI x.count ++ (List.range i).flatMap (encAt x))]) (fun y _ => x.aggs.length - (match y.1 with | .int _ n => n.toNat | _ => 0))
    ⟨0, Nat.zero_le _, rfl, by simpa [bl, ofL] using h⟩ ?_
  clear h
  rintro y w4 ⟨i, hi, rfl, h⟩ next hnext
  simp -zeta only [bin_lss, ifB_dec]
  refine ⟨fun hlt => ?_, fun hge => ?_⟩
  case refine_2 =>
    have : i = x.aggs.length := by omega
    subst this
    exact h.bldString (Nat.le_refl _) fun w7 h => k _ _ h.nil
  have hil : i < x.aggs.length := by omega
  have hig : x.aggs[i]? = some x.aggs[i] := List.getElem?_eq_getElem hil
  have hpre : (encI x.count ++ (List.range i).flatMap (encAt x)).length ≤ 1300000000000 := by
    have := flat_len (encAt x) (List.range i) 1200000200 fun j _ => encAt_len hx hN j
    rw [List.length_range] at this
    rw [List.length_append]
    omega
  have hstep : (encI x.count ++ (List.range (i + 1)).flatMap (encAt x)) = (encI x.count ++ (List.range i).flatMap (encAt x)) ++ (encSum x x.aggs[i] i ++ encOrd x x.aggs[i] i) := by
    have e : encAt x i = encSum x x.aggs[i] i ++ encOrd x x.aggs[i] i := by unfold encAt; rw [hig]
    rw [List.range_succ, List.flatMap_append, List.flatMap_singleton, e, List.append_assoc]
  generalize (encI x.count ++ (List.range i).flatMap (encAt x)) = pre at *
  refine LETJ_intro fun J hJ => ?_
  replace hJ : ∀ w', Rel B' w' [bldD B'.W.heap.size b (pre ++ (encSum x x.aggs[i] i ++ encOrd x x.aggs[i] i))] → J () w' := by
    intro w' h
    refine hJ _ _ ?_
    show pureK _ _ _
    rw [bin_add, wrap_id (by omega) (by omega)]
    rw [← hstep] at h
    exact hnext _ _ ⟨i + 1, hil, rfl, h⟩ (by simp only; omega)
  clear hnext k hstep
  obtain ⟨g, o, hix, hc⟩ := rowR.idx (P := Tryz.prog) (rowD.read c1) sl_s_api_Agg hil
  have hc : cellsR g o x.aggs[i].cs B' := hc
  rw [hix, cellsR.ldAg (h.hereB hc) ag_api_Agg rfl]
  clear hc hix
  generalize hG : x.aggs[i] = G at *
  refine h.allocAg (ds := G.cs.toArray) z_api_Agg rfl ag_api_Agg rfl (fun v hv => Enc.one G v hv) fun a1 w5 h => ?_
  have h : Rel B' w5 [bldD B'.W.heap.size b pre, cellD a1 T_api_Agg G.cs.toArray] := h
  refine LETJ_intro fun J2 hJ2 => ?_
  have hsl : (encSum x G i).length ≤ 21 := by
    unfold encSum
    split
    · cases hs : x.sums[i]? with
      | none => exact encI_len (n := 0) ⟨by omega, by omega⟩
      | some s => exact encI_len (hx.sum i s hs)
    · simp
  replace hJ2 : ∀ w', Rel B' w' [bldD B'.W.heap.size b (pre ++ encSum x G i), cellD a1 T_api_Agg G.cs.toArray] → J2 () w' := by
    intro w6 h
    refine hJ2 _ _ ?_
    clear hJ2
    rw [h.ldAg 1 rfl ag_api_Agg rfl]
    refine h.ask (fun B2 own base2 => ordered_g G) fun w7 h => ?_
    rw [un_not, ifB_not, ifB_bool]
    refine ⟨fun co => ?_, fun co => ?_⟩
    case refine_2 =>
      refine hJ _ ?_
      have : encOrd x G i = [] := by unfold encOrd; rw [if_neg (by rw [co]; decide)]
      rw [this, List.append_nil]
      exact h.take 1
    have h := h.take 1
    have h : Rel B' w7 [bldD B'.W.heap.size b (pre ++ encSum x G i)] := h
    have hbl : i < x.bags.length := by rw [hx.good.bags]; exact hil
    obtain ⟨b0, hb0⟩ : ∃ b0, x.bags[i]? = some b0 := ⟨_, List.getElem?_eq_getElem hbl⟩
    have hso := hx.good.ord i G b0 hig hb0
    rw [co] at hso
    obtain ⟨bg, rfl⟩ := Option.isSome_iff_exists.1 hso
    have heo : encOrd x G i = encI bg.1.length ++ (keysV bg).flatMap (encE bg) := by unfold encOrd; rw [if_pos co, hb0]; rfl
    obtain ⟨m, hM, hmap⟩ := accD.map c4 hms hb0
    obtain ⟨hml, hMi⟩ := List.getElem?_eq_some_iff.1 hM
    obtain ⟨g3, o3, hix, hc⟩ := rowR.idx (P := Tryz.prog) (rowD.read c3) sl_s_map_api_Value_int hml
    rw [hMi] at hc
    have hlen := (hx.good.wf i bg hb0).2
    have hin : inI (bg.1.length : Int) := ⟨by omega, by omega⟩
    have en : encN (bg.1.length : Int) = encI bg.1.length := by unfold encN; rw [if_neg (by omega)]
    have hnl := encI_len hin
    rw [cellD.ld (h.hereB c0) sc_s_map_api_Value_int (o := 3) (v := bv) rfl, hix, cellsR.ld0 (h.hereB hc) sc_map_api_Value_int (v := mapV m) rfl, len_mapE (h.hereB hmap) U_map_api_Value_int]
    refine h.ask (fun B2 own base2 => wNum_g (base2 hB) hin) fun w8 h => ?_
    rw [en]
    refine h.bldWrite (Nat.le_refl _) (by rw [ofL_size, List.length_append]; omega) fun _ w9 h => ?_
    refine h.make (fun B2 own base2 => sorted_m (base2 a) hx.good (by omega) hb0) fun u τ w10 hp h => ?_
    subst hp
    rw [bl_ofL] at h
    have h : Rel B' w10 [bldD B'.W.heap.size b (pre ++ encSum x G i ++ encI bg.1.length), rowD T_api_Value u (keysV bg)] := h
    rw [heo] at hJ
    generalize hP : pre ++ encSum x G i ++ encI bg.1.length = P at *
    have hPl : P.length ≤ 1300000000100 := by rw [← hP]; simp only [List.length_append]; omega
    have hPe : ∀ q : Bs, pre ++ (encSum x G i ++ (encI bg.1.length ++ q)) = P ++ q := fun q => by rw [← hP]; simp only [List.append_assoc]
    rw [hPe] at hJ
    have hkl := keysV_len bg
    have hall := flat_len (encE bg) (keysV bg) 1200 fun u hu => encE_len (hx.bag i bg hb0 u hu)
    rw [rowR.len (rowD.read (h.here (i := 1) rfl)) sl_s_api_Value]
    refine LOOP_intro (fun y w' => ∃ j : Nat, j ≤ (keysV bg).length ∧ y = (.int .i64 j, ()) ∧ Rel B' w' [bldD B'.W.heap.size b (P ++ ((keysV bg).take j).flatMap (encE bg)), rowD T_api_Value u (keysV bg)]) (fun y _ => (keysV bg).length - (match y.1 with | .int _ n => n.toNat | _ => 0))
      ⟨0, Nat.zero_le _, rfl, by simpa using h⟩ ?_
    clear h
    rintro y w11 ⟨j, hj, rfl, h⟩ next hnext
    simp -zeta only [bin_lss, ifB_dec]
    refine ⟨fun hlt => ?_, fun hge => ?_⟩
    case refine_2 =>
      have : j = (keysV bg).length := by omega
      subst this
      rw [List.take_length] at h
      exact hJ _ (h.take 1)
    have hjl : j < (keysV bg).length := by omega
    obtain ⟨v1, v2, v3⟩ := hx.bag i bg hb0 _ (List.getElem_mem hjl)
    have hstep2 := flat_take_succ (encE bg) hjl
    have hle2 := flat_take_le (encE bg) (keysV bg) j
    have hel := encE_len (hx.bag i bg hb0 _ (List.getElem_mem hjl))
    obtain ⟨g4, o4, hix4, hc4⟩ := rowR.idx (P := Tryz.prog) (rowD.read (h.here (i := 1) rfl)) sl_s_api_Value hjl
    have hc4 : (cellsR g4 o4 (keysV bg)[j].cs).here w11 := hc4
    rw [hix4, cellsR.ldAg hc4 ag_api_Value rfl]
    clear hc4 hix4
    generalize hV : (keysV bg)[j] = V at *
    refine h.allocAg (ds := V.cs.toArray) z_api_Value rfl ag_api_Value rfl (fun v hv => Enc.one V v hv) fun a2 w12 h => ?_
    have h : Rel B' (tick w12) [bldD B'.W.heap.size b (P ++ ((keysV bg).take j).flatMap (encE bg)), rowD T_api_Value u (keysV bg), cellD a2 T_api_Value V.cs.toArray] := h.tick
    generalize tick w12 = w12 at *
    have is2 : ∀ {w : World} {σ : List Dat}, Rel B' w σ → Is Tryz.prog (sLoad T_s_map_api_Value_int (.pointer (some ⟨p, 3, none⟩))) bv w := fun h => cellD.is (h.hereB c0) sc_s_map_api_Value_int (o := 3) rfl
    have is3 : ∀ {w : World} {σ : List Dat}, Rel B' w σ → Is Tryz.prog (sLoad T_map_api_Value_int (.pointer (some ⟨g3, o3, none⟩))) (mapV m) w := fun h => by
      have := cellsR.is (P := Tryz.prog) (T := T_map_api_Value_int) (j := 0) (h.hereB hc) sc_map_api_Value_int (v := mapV m) rfl
      exact this
    have is4 : ∀ {w : World} {σ : List Dat}, Rel B' w σ → Is Tryz.prog (sLookup T_map_api_Value_int (mapV m) V.v false) (.int .i64 (cntV bg V)) w := fun {w σ} h => by
      have := mapE.look (P := Tryz.prog) (T := T_map_api_Value_int) (Kp := fun x => x = .int .i64 (cntV bg V)) (h.hereB hmap) U_map_api_Value_int kV 0 z_int V
      obtain ⟨z, h1, rfl⟩ := this.mpr rfl
      exact h1
    rw [h.ldAg 2 rfl ag_api_Value rfl, cellD.ld (h.hereB c0) sc_s_map_api_Value_int (o := 3) (v := bv) rfl, hix, cellsR.ld0 (h.hereB hc) sc_map_api_Value_int (v := mapV m) rfl, h.ldAg 2 rfl ag_api_Value rfl, mapE.look (h.hereB hmap) U_map_api_Value_int kV 0 z_int V, show (Enc.val ((getE V bg.1).getD 0) : Value) = .int .i64 (cntV bg V) from rfl]
    refine h.ask (fun B2 own base2 => vBytes_g (base2 hB) v1 (by omega)) fun w13 h => ?_
    refine ⟨is4 h, h.isAg 2 rfl ag_api_Value rfl, is3 h, is2 h, ?_⟩
    have hv1 := encV1_len v1 v2
    have hv2 := encT_len (encV1 V) (by omega)
    have hv3 := encI_len v3
    refine h.ask (fun B2 own base2 => wText_g (base2 hB) (by omega)) fun w14 h => ?_
    refine ⟨is4 h, h.isAg 2 rfl ag_api_Value rfl, is3 h, is2 h, ?_⟩
    refine h.ask (fun B2 own base2 => wInt_g (base2 hB) v3) fun w15 h => ?_
    rw [strL_add (by omega)]
    have h := h.take 2
    have h : Rel B' w15 [bldD B'.W.heap.size b (P ++ ((keysV bg).take j).flatMap (encE bg)), rowD T_api_Value u (keysV bg)] := h
    refine h.bldWriteR (by decide) (Nat.le_refl _) (by rw [ofL_size]; simp only [List.length_append]; omega) fun _ w16 h => ?_
    rw [bin_add, wrap_id (by omega) (by omega)]
    refine hnext _ _ ⟨j + 1, hjl, rfl, ?_⟩ (by simp only; omega)
    rw [hstep2, ← List.append_assoc]
    rw [bl_ofL] at h
    exact h
  rw [field_addr f_api_Agg_0, Nat.zero_add, h.ld 1 rfl sc_int (o := 0) (v := .int .i64 G.kind) rfl, bin_eql, ifB_dec]
  refine ⟨fun e1 => ?_, fun e1 => ?_⟩
  case refine_2 =>
    have : encSum x G i = [] := by unfold encSum; rw [if_neg e1]
    rw [this, List.append_nil] at hJ2
    exact hJ2 _ h
  have hsl2 : i < x.sums.length := by rw [hx.good.sums]; exact hil
  have hes : encSum x G i = encI x.sums[i] := by unfold encSum; rw [if_pos e1, List.getElem?_eq_getElem hsl2]; rfl
  have hsi : inI x.sums[i] := hx.sum i _ (List.getElem?_eq_getElem hsl2)
  obtain ⟨g3, o3, hix, hc⟩ := rowR.idx (P := Tryz.prog) (rowD.read c2) sl_s_int hsl2
  rw [cellD.ld (h.hereB c0) sc_s_int (o := 2) (v := sv) rfl, hix, cellsR.ld0 (h.hereB hc) sc_int (v := .int .i64 x.sums[i]) rfl]
  refine h.ask (fun B2 own base2 => wInt_g (base2 hB) hsi) fun w6 h => ?_
  have hsl3 := encI_len hsi
  refine (cell_row h).bldWriteR (by decide) (Nat.le_refl _) (by rw [ofL_size]; omega) fun _ w7 h => ?_
  refine hJ2 _ ?_
  rw [bl_ofL] at h
  rw [hes]
  exact row_cell h
end
end Go.Proofs.YtoebncgnjbblgaaGreatDoor
