/-
  Aggregates' types, columns; shapes; right aggregates. No condition.
-/
import Derived.Test.YtoebncgnjbblgaaGreatDoorAggS
import Derived.Test.YtoebncgnjbblgaaGreatDoorAggQ
--@auto
namespace Go.Proofs.YtoebncgnjbblgaaGreatDoor
open Go.RowKit
set_option maxRecDepth 100000

abbrev ColD := D_api_Col
def colT (cols : List ColD) (c : Int) : Int := ((cols[c.toNat]?).map (·.type_)).getD 0
def colU (cols : List ColD) (c : Int) : ByteArray := ((cols[c.toNat]?).map (·.unit_)).getD ⟨#[]⟩
/-- An aggregate's type, or an error. -/
def typeS (g : AggD) (cols : List ColD) : Int × Int :=
  if g.kind < 0 ∨ 4 ≤ g.kind then (0, 1) else if g.kind = 0 then (0, 0) else if g.col < 0 ∨ (cols.length : Int) ≤ g.col then (0, 3)
  else if g.kind = 1 ∧ colT cols g.col ≠ 0 then (0, 13) else (colT cols g.col, 0)
def colAt (cols : List ColD) (g : AggD) : ColD := ⟨g.name, (typeS g cols).1, if g.kind ≠ 0 then colU cols g.col else ⟨#[]⟩⟩
def firstE (cols : List ColD) : List AggD → Int
  | [] => 0
  | g :: l => if (typeS g cols).2 ≠ 0 then (typeS g cols).2 else firstE cols l
def colsS (cols : List ColD) (l : List AggD) : Int × List ColD := if firstE cols l ≠ 0 then (firstE cols l, []) else (0, l.map (colAt cols))
def fitsS (row : List ValD) (cols : List ColD) : Bool := decide (row.length = cols.length) && (rowRight row && decide (∀ i : Nat, i < cols.length → (row[i]?).map (·.kind) = (cols[i]?).map (·.type_)))
theorem firstE_at {cols : List ColD} {l : List AggD} {i : Nat} (hi : i < l.length) : firstE cols (l.drop i) = if (typeS l[i] cols).2 ≠ 0 then (typeS l[i] cols).2 else firstE cols (l.drop (i + 1)) := by
  rw [List.drop_eq_getElem_cons hi, firstE]
section
variable {B : Base} {w : World} {σ : List Dat}
theorem type_g {v : Value} {cols : List ColD} (r : rowR v cols B) (g : AggD) : Gives Tryz.prog B (sCall F_aggregate_Type #[g.v, v]) (.tuple #[.int .i64 (typeS g cols).1, .int .i64 (typeS g cols).2]) := by
  refine Gives.intro fun B' w K base h k => ?_
  replace r := base r
  refine aggregate_Type.up (aggregate_Type.call ?_)
  unfold aggregate_Type.pt
  refine h.box fun o w1 h => ?_
  have h : Rel B' w1 [cellD o T_api_Agg g.cs.toArray] := h
  unfold typeS at k
  refine LETJ_intro fun J hJ => ?_
  simp -zeta only [field_addr f_api_Agg_0, field_addr f_api_Agg_1, Nat.zero_add] at hJ ⊢
  simp -zeta only [h.ld 0 rfl sc_int (o := 0) (v := .int .i64 g.kind) rfl, h.ld 0 rfl sc_int (o := 1) (v := .int .i64 g.col) rfl, bin_lss, bin_geq, bin_eql, ifB_dec, rowR.len r sl_s_api_Col]
  refine ⟨fun c => by rw [if_pos (.inl c)] at k; exact k _ _ h, fun c1 => ⟨fun c => by rw [if_pos (.inr c)] at k; exact k _ _ h, fun c2 => ?_⟩⟩
  rw [if_neg (fun hh => hh.elim (fun h => c1 h) (fun h => c2 h))] at k
  refine ⟨fun c => by rw [if_pos c] at k; exact k _ _ h, fun c3 => ?_⟩
  rw [if_neg c3] at k
  refine ⟨fun c => by rw [if_pos (.inl c)] at k; exact k _ _ h, fun c4 => ⟨fun c => by rw [if_pos (.inr c)] at k; exact k _ _ h, fun c5 => ?_⟩⟩
  rw [if_neg (fun hh => hh.elim (fun h => c4 h) (fun h => c5 h))] at k
  obtain ⟨i, hi⟩ : ∃ i : Nat, g.col = i := ⟨g.col.toNat, by omega⟩
  have hil : i < cols.length := by omega
  obtain ⟨gg, oo, hx, hcl⟩ := rowR.idx r sl_s_api_Col (P := Tryz.prog) hil
  have hcl : cellsR gg oo cols[i].cs B' := hcl
  have hct : colT cols g.col = cols[i].type_ := by
    unfold colT
    rw [hi, Int.toNat_natCast, List.getElem?_eq_getElem hil]
    rfl
  rw [hct] at k
  have fin : K (.tuple #[.int .i64 cols[i].type_, .int .i64 0]) w1 → J () w1 := fun hk => by
    refine hJ _ _ ?_
    rw [h.ld 0 rfl sc_int (o := 1) (v := .int .i64 g.col) rfl, hi, hx, field_addr f_api_Col_1, cellsR.ld (h.hereB hcl) sc_int (j := 1) (v := .int .i64 cols[i].type_) rfl]
    exact hk
  refine ⟨fun c => ?_, fun c => ?_⟩
  · rw [hi, hx, field_addr f_api_Col_1, cellsR.ld (h.hereB hcl) sc_int (j := 1) (v := .int .i64 cols[i].type_) rfl, bin_neq, ifB_not, ifB_dec]
    refine ⟨fun e => ?_, fun e => ?_⟩
    · rw [if_neg (fun hh => hh.2 e)] at k
      exact fin (k _ _ h)
    · rw [if_pos ⟨c, e⟩] at k
      exact k _ _ h
  · rw [if_neg (fun hh => c hh.1)] at k
    exact fin (k _ _ h)
theorem cols_m {u v : Value} {l : List AggD} {cols : List ColD} (r : rowR u l B) (q : rowR v cols B) (hl : l.length ≤ 1000000) : Makes Tryz.prog B (sCall F_aggregate_Cols #[u, v]) fun x τ => ∃ y, x = .tuple #[y, .int .i64 (colsS cols l).1] ∧ τ = [rowD T_api_Col y (colsS cols l).2] := by
  refine Makes.intro fun B' w K base h k => ?_
  replace r := base r
  replace q := base q
  refine aggregate_Cols.up (aggregate_Cols.call ?_)
  unfold aggregate_Cols.pt
  rw [rowR.len r sl_s_api_Agg]
  have h := h.addNil ColD T_api_Col
  refine LOOP_intro (fun x w' => ∃ (i : Nat) (y : Value), i ≤ l.length ∧ x = (y, .int .i64 i, ()) ∧ firstE cols (l.drop i) = firstE cols l ∧ Rel B' w' [rowD T_api_Col y ((l.take i).map (colAt cols))]) (fun x _ => l.length - (match x.2.1 with | .int _ n => n.toNat | _ => 0))
    ⟨0, .slice none 0 0, Nat.zero_le _, rfl, rfl, h⟩ ?_
  clear h
  rintro x w1 ⟨i, y, hi, rfl, hf, h⟩ next hnext
  simp -zeta only [bin_lss, ifB_dec]
  unfold colsS at k
  refine ⟨fun hlt => ?_, fun hge => ?_⟩
  case refine_2 =>
    have : i = l.length := by omega
    subst this
    rw [List.drop_length] at hf
    have hf : 0 = firstE cols l := hf
    rw [if_neg (fun hh => hh hf.symm)] at k
    rw [List.take_length] at h
    exact k _ _ _ ⟨_, rfl, rfl⟩ h
  have hil : i < l.length := by omega
  obtain ⟨g, o, hx, hcl⟩ := rowR.idx r sl_s_api_Agg (P := Tryz.prog) hil
  have hcl : cellsR g o l[i].cs B' := hcl
  rw [hx, cellsR.ldAg (h.hereB hcl) ag_api_Agg rfl]
  rw [firstE_at hil] at hf
  have htake : (l.take (i + 1)).map (colAt cols) = (l.take i).map (colAt cols) ++ [colAt cols l[i]] := by rw [List.take_succ_eq_append_getElem hil, List.map_append]; rfl
  generalize l[i] = G at *
  clear hcl hx
  refine h.allocAg (ds := G.cs.toArray) z_api_Agg rfl ag_api_Agg rfl (fun v hv => Enc.one G v hv) fun a1 w2 h => ?_
  rw [h.ldAg 1 rfl ag_api_Agg rfl]
  refine h.ask (fun B2 own base2 => type_g (base2 q) G) fun w3 h => ?_
  rw [ext_2_0, ext_2_1, bin_neq, ifB_not, ifB_dec]
  refine ⟨fun e => ?_, fun e => ?_⟩
  case refine_2 =>
    rw [if_pos e] at hf
    rw [← hf, if_pos e] at k
    exact k _ _ _ ⟨_, rfl, rfl⟩ ((h.addNil ColD T_api_Col).pick [2] (by decide))
  rw [if_neg (fun hh => hh e)] at hf
  simp -zeta only [field_addr f_api_Agg_0, field_addr f_api_Agg_1, field_addr f_api_Agg_2, field_addr f_api_Col_2, Nat.zero_add]
  rw [h.ld 1 rfl sc_string (o := 2) (v := .string G.name) rfl, bd_api_Col_0_1]
  refine h.allocAg (ds := (⟨G.name, (typeS G cols).1, ⟨#[]⟩⟩ : ColD).cs.toArray) z_api_Col rfl ag_api_Col rfl (fun v hv => Enc.one (⟨G.name, (typeS G cols).1, ⟨#[]⟩⟩ : ColD) v hv) fun a2 w4 h => ?_
  have h : Rel B' w4 [rowD T_api_Col y ((l.take i).map (colAt cols)), cellD a1 T_api_Agg G.cs.toArray, cellD a2 T_api_Col (⟨G.name, (typeS G cols).1, ⟨#[]⟩⟩ : ColD).cs.toArray] := h
  have hlen : ((l.take i).map (colAt cols)).length = i := by simp; omega
  refine LETJ_intro fun J hJ => ?_
  replace hJ : ∀ w', Rel B' w' [rowD T_api_Col y ((l.take i).map (colAt cols)), cellD a1 T_api_Agg G.cs.toArray, cellD a2 T_api_Col (colAt cols G).cs.toArray] → J () w' := by
    intro w' h
    refine hJ _ _ ?_
    rw [h.ldAg 2 rfl ag_api_Col rfl]
    refine h.push1 (α := ColD) 0 rfl (colAt cols G) sl_s_api_Col (by decide) (by omega) (by omega) fun v' w5 h => ?_
    rw [bin_add, wrap_id (by omega) (by omega)]
    refine hnext _ _ ⟨i + 1, v', hil, rfl, hf, ?_⟩ (by simp only; omega)
    rw [htake]
    exact h.take 1
  rw [h.ld 1 rfl sc_int (o := 0) (v := .int .i64 G.kind) rfl, bin_neq, ifB_not, ifB_dec]
  refine ⟨fun e0 => ?_, fun e0 => ?_⟩
  · have : colAt cols G = ⟨G.name, (typeS G cols).1, ⟨#[]⟩⟩ := by unfold colAt; rw [if_neg (fun hh => hh e0)]
    exact hJ _ (by rw [this]; exact h)
  · have hca : colAt cols G = ⟨G.name, (typeS G cols).1, colU cols G.col⟩ := by unfold colAt; rw [if_pos e0]
    have hcol : 0 ≤ G.col ∧ G.col < cols.length := by
      unfold typeS at e
      by_cases a1 : G.kind < 0 ∨ 4 ≤ G.kind
      · rw [if_pos a1] at e; exact absurd e (by decide)
      by_cases a2 : G.col < 0 ∨ (cols.length : Int) ≤ G.col
      · rw [if_neg a1, if_neg e0, if_pos a2] at e; exact absurd e (by decide)
      omega
    obtain ⟨j, hj⟩ : ∃ j : Nat, G.col = j := ⟨G.col.toNat, by omega⟩
    have hjl : j < cols.length := by omega
    rw [h.ld 1 rfl sc_int (o := 1) (v := .int .i64 G.col) rfl, hj]
    obtain ⟨g3, o3, hx, hcl⟩ := rowR.idx q sl_s_api_Col (P := Tryz.prog) hjl
    have hcl : cellsR g3 o3 cols[j].cs B' := hcl
    rw [hx, field_addr f_api_Col_2, cellsR.ld (h.hereB hcl) sc_string (j := 2) (v := .string cols[j].unit_) rfl]
    have hu : colU cols G.col = cols[j].unit_ := by
      unfold colU
      rw [hj, Int.toNat_natCast, List.getElem?_eq_getElem hjl]
      rfl
    rw [field_addr f_api_Col_2, Nat.zero_add]
    refine h.st (K := fun _ w' => J () w') (v := .string cols[j].unit_) 2 rfl sc_string (o := 2) (show 2 < 3 by omega) rfl fun w5 h => hJ _ ?_
    rw [hca, hu]
    exact h
end
end Go.Proofs.YtoebncgnjbblgaaGreatDoor
