/-
  The laws' own definition of an aggregate, and that it is the result. No condition.
-/
import Derived.Test.YtoebncgnjbblgaaDoorAggX
--@auto
namespace Go.Proofs.YtoebncgnjbblgaaDoor
open Go.RowKit
set_option maxRecDepth 100000

def bestStep (g : AggD) (o : Option ValD) (v : ValD) : Option ValD :=
  match o with
  | none => some v
  | some u => some (if g.kind = 2 ∧ compareV v u < 0 ∨ g.kind = 3 ∧ 0 < compareV v u then v else u)
def goodV (C : List Chg) (g : AggD) (v : ValD) : Bool := decide (0 < W64 (tot C (fCnt g.col v)))
def foldW (C : List Chg) (g : AggD) (M : List Chg) : Option ValD := M.foldl (fun o p => if goodV C g (atS p.1 g.col) then bestStep g o (atS p.1 g.col) else o) none
def wantF (C : List Chg) (g : AggD) (M : List Chg) : Bool := if g.kind = 0 ∨ g.kind = 1 then false else (foldW C g M).isSome
def wantO (C : List Chg) (g : AggD) (M : List Chg) : ValD := if g.kind = 0 then vInt (W64 (tot M fun _ => 1)) else if g.kind = 1 then vInt (W64 (tot M (fSum g.col))) else (foldW C g M).getD vZero
def wantedS (C : List Chg) (g : AggD) : ValD := wantO C g C
theorem foldW_snoc (C : List Chg) (g : AggD) (M : List Chg) (p : Chg) : foldW C g (M ++ [p]) = if goodV C g (atS p.1 g.col) then bestStep g (foldW C g M) (atS p.1 g.col) else foldW C g M := by
  unfold foldW
  rw [List.foldl_append]
  rfl
section
variable {B : Base} {w : World} {σ : List Dat} {v : Value} {L : ChL}
set_option maxHeartbeats 1000000 in
theorem wanted_g (r : rowR v (raws L) B) (q : chR L B) (hl : L.length ≤ 9223372036854775807) (G : AggD) : Gives Tryd.prog B (sCall F_erratalaw30_wanted #[v, G.v]) (wantedS (chs L) G).v := by
  refine Gives.intro fun B' w K base h k => ?_
  replace r := base r
  replace q := base q
  refine erratalaw30_wanted.up (erratalaw30_wanted.call ?_)
  unfold erratalaw30_wanted.pt
  refine h.box fun g3 w1 h => ?_
  refine h.alloc z_api_Value fun t4 w2 h => ?_
  rw [bd_api_Value_]
  refine h.allocAg (ds := vZero.cs.toArray) z_api_Value rfl ag_api_Value rfl (fun v hv => Enc.one vZero v hv) fun o5 w3 h => ?_
  have h : Rel B' w3 [cellD g3 T_api_Agg G.cs.toArray, cellD t4 T_api_Value vZero.cs.toArray, cellD o5 T_api_Value vZero.cs.toArray] := h
  have h0 : wantO (chs L) G [] = vZero := by
    unfold wantO foldW
    rw [tot_nil, tot_nil, W_zero]
    split
    · rfl
    · split <;> rfl
  have h0f : wantF (chs L) G [] = false := by
    unfold wantF foldW
    split <;> rfl
  refine LOOP_intro (fun x w' => ∃ i : Nat, i ≤ L.length ∧ x = (.bool (wantF (chs L) G (chs (L.take i))), .int .i64 i, ()) ∧ Rel B' w' [cellD g3 T_api_Agg G.cs.toArray, cellD t4 T_api_Value vZero.cs.toArray, cellD o5 T_api_Value (wantO (chs L) G (chs (L.take i))).cs.toArray]) (fun x _ => L.length - (match x.2.1 with | .int _ n => n.toNat | _ => 0))
    ⟨0, Nat.zero_le _, by rw [List.take_zero, show chs [] = [] from rfl, h0f]; rfl, by rw [List.take_zero, show chs [] = [] from rfl, h0]; exact h⟩ ?_
  clear h
  rintro x w4 ⟨i, hi, rfl, h⟩ next hnext
  simp -zeta only [rowR.len r sl_s_erratalaw30_Change, raws_len, bin_lss, ifB_dec]
  refine ⟨fun hlt => ?_, fun hge => ?_⟩
  case refine_2 =>
    have : i = L.length := by omega
    subst this
    rw [List.take_length] at h
    rw [h.ldAg 2 rfl ag_api_Value rfl]
    refine h.stAll 1 (ds := (wantedS (chs L) G).cs.toArray) rfl ag_api_Value rfl rfl (fun v hv => Enc.one (wantedS (chs L) G) v hv) fun w5 h => ?_
    rw [rv_ag h 1 rfl ag_api_Value rfl]
    exact k _ _ h
  have hil : i < L.length := by omega
  refine LETJ_intro fun J hJ => ?_
  replace hJ : ∀ w', Rel B' w' [cellD g3 T_api_Agg G.cs.toArray, cellD t4 T_api_Value vZero.cs.toArray, cellD o5 T_api_Value (wantO (chs L) G (chs (L.take (i + 1)))).cs.toArray] → J (.bool (wantF (chs L) G (chs (L.take (i + 1)))), ()) w' := by
    intro w' h
    refine hJ _ _ ?_
    show pureK _ _ _
    rw [bin_add, wrap_id (by omega) (by omega)]
    exact hnext _ _ ⟨i + 1, hil, rfl, h⟩ (by simp only; omega)
  clear hnext k h0 h0f
  rw [chs_take_succ hil] at hJ
  have hoft := fun (B2 : Base) (r2 : rowR v (raws L) B2) (q2 : chR L B2) => often_g (v := v) r2 q2 hl hil G.col
  obtain ⟨g1, o1, hx1, hc1⟩ := ch_idx r hil
  have qi := chR.at q hil
  generalize chs (L.take i) = X at *
  generalize hC : chs L = C at *
  generalize hrow : L[i].2 = row at *
  generalize hV : atS row G.col = V at *
  generalize hn : L[i].1.n = n at *
  have hwO : ∀ (_ : ¬ G.kind = 0) (_ : ¬ G.kind = 1), wantO C G (X ++ [(row, n)]) = (if goodV C G V then bestStep G (foldW C G X) V else foldW C G X).getD vZero ∧ wantF C G (X ++ [(row, n)]) = (if goodV C G V then bestStep G (foldW C G X) V else foldW C G X).isSome ∧ wantO C G X = (foldW C G X).getD vZero ∧ wantF C G X = (foldW C G X).isSome := by
    intro k0 k1
    have hno : ¬ (G.kind = 0 ∨ G.kind = 1) := fun hh => hh.elim k0 k1
    unfold wantO wantF
    rw [if_neg k0, if_neg k0, if_neg k1, if_neg k1, if_neg hno, if_neg hno, foldW_snoc, hV]
    exact ⟨rfl, rfl, rfl, rfl⟩
  refine LETJ_intro fun J2 hJ2 => ?_
  replace hJ2 : ∀ w' v8, Rel B' w' [cellD g3 T_api_Agg G.cs.toArray, cellD t4 T_api_Value vZero.cs.toArray, cellD o5 T_api_Value (wantO C G X).cs.toArray, cellD v8 T_api_Value V.cs.toArray] → J2 (ptr v8, ()) w' := by
    intro w5 v8 h
    refine hJ2 _ _ ?_
    clear hJ2
    simp -zeta only [field_addr f_api_Agg_0, field_addr f_api_Agg_1, field_addr f_api_Value_1, Nat.zero_add]
    have ht := h.tick
    rw [h.ld 0 rfl sc_int (o := 0) (v := .int .i64 G.kind) rfl, bin_eql, ifB_dec]
    refine ⟨fun k0 => ?_, fun k0 => ?_⟩
    · have e1 : wantO C G X = vInt (W64 (tot X fun _ => 1)) := by unfold wantO; rw [if_pos k0]
      have e2 : wantO C G (X ++ [(row, n)]) = vInt (W64 (W64 (tot X fun _ => 1) + n)) := by unfold wantO; rw [if_pos k0, tot_append, tot_one, Int.mul_one, W_addl]
      have e3 : wantF C G X = false ∧ wantF C G (X ++ [(row, n)]) = false := ⟨by unfold wantF; rw [if_pos (.inl k0)], by unfold wantF; rw [if_pos (.inl k0)]⟩
      rw [e1] at ht
      rw [ht.ld 2 rfl sc_int (o := 1) (v := .int .i64 (W64 (tot X fun _ => 1))) rfl, hx1, field_addr f_erratalaw30_Change_1, cellsR.ld (ht.hereB hc1) sc_int (j := 1) (v := .int .i64 n) (by rw [← hn]; rfl), bin_add]
      refine ht.st (K := fun _ w' => J (.bool (wantF C G X), ()) w') (v := .int .i64 (W64 (W64 (tot X fun _ => 1) + n))) 2 rfl sc_int (o := 1) (show 1 < 3 by omega) rfl fun w8 h => ?_
      rw [e3.1, ← e3.2]
      refine hJ _ ?_
      rw [e2]
      exact h.take 3
    rw [h.ld 0 rfl sc_int (o := 0) (v := .int .i64 G.kind) rfl, bin_eql, ifB_dec]
    refine ⟨fun k1 => ?_, fun k1 => ?_⟩
    · have e1 : wantO C G X = vInt (W64 (tot X (fSum G.col))) := by unfold wantO; rw [if_neg k0, if_pos k1]
      have e2 : wantO C G (X ++ [(row, n)]) = vInt (W64 (W64 (tot X (fSum G.col)) + W64 (n * V.n))) := by
        unfold wantO
        rw [if_neg k0, if_pos k1, tot_append, tot_one, W_addr, W_addl]
        unfold fSum
        rw [hV]
      have e3 : wantF C G X = false ∧ wantF C G (X ++ [(row, n)]) = false := ⟨by unfold wantF; rw [if_pos (.inr k1)], by unfold wantF; rw [if_pos (.inr k1)]⟩
      rw [e1] at ht
      rw [ht.ld 2 rfl sc_int (o := 1) (v := .int .i64 (W64 (tot X (fSum G.col)))) rfl, hx1, field_addr f_erratalaw30_Change_1, cellsR.ld (ht.hereB hc1) sc_int (j := 1) (v := .int .i64 n) (by rw [← hn]; rfl), ht.ld 3 rfl sc_int (o := 1) (v := .int .i64 V.n) rfl, bin_mul, bin_add]
      refine ht.st (K := fun _ w' => J (.bool (wantF C G X), ()) w') (v := .int .i64 (W64 (W64 (tot X (fSum G.col)) + W64 (n * V.n)))) 2 rfl sc_int (o := 1) (show 1 < 3 by omega) rfl fun w8 h => ?_
      rw [e3.1, ← e3.2]
      refine hJ _ ?_
      rw [e2]
      exact h.take 3
    clear ht
    obtain ⟨a1, a2, a3, a4⟩ := hwO k0 k1
    rw [a1, a2] at hJ
    rw [a3] at h
    rw [a4]
    rw [h.ld 0 rfl sc_int (o := 1) (v := .int .i64 G.col) rfl]
    refine h.ask (fun B2 own base2 => hoft B2 (base2 r) (base2 q)) fun w10 h => ?_
    rw [bin_gtr, ifB_dec]
    have hgv : goodV C G V = decide (0 < W64 (tot C (fCnt G.col V))) := rfl
    refine ⟨fun c => ?_, fun c => ?_⟩
    case refine_2 =>
      rw [hgv, decide_eq_false c] at hJ
      exact hJ _ (h.take 3)
    rw [hgv, decide_eq_true c] at hJ
    have hJ : ∀ w', Rel B' w' [cellD g3 T_api_Agg G.cs.toArray, cellD t4 T_api_Value vZero.cs.toArray, cellD o5 T_api_Value ((bestStep G (foldW C G X) V).getD vZero).cs.toArray] → J (.bool (bestStep G (foldW C G X) V).isSome, ()) w' := hJ
    rw [h.ldAg 3 rfl ag_api_Value rfl, h.ldAg 2 rfl ag_api_Value rfl]
    refine h.ask (fun B2 own base2 => fCompare_g V _) fun w11 h => ?_
    refine LETJ_intro fun J3 hJ3 => ?_
    generalize foldW C G X = O at *
    have set : ∀ w', Rel B' w' [cellD g3 T_api_Agg G.cs.toArray, cellD t4 T_api_Value vZero.cs.toArray, cellD o5 T_api_Value (O.getD vZero).cs.toArray, cellD v8 T_api_Value V.cs.toArray] → bestStep G O V = some V → upK Tryd.prog (sStore T_api_Value (ptr o5) (.agg V.cs.toArray)) w' fun tu w => J3 () w := by
      intro w' h e
      refine h.stAll (K := fun _ w => J3 () w) 2 (ds := V.cs.toArray) rfl ag_api_Value rfl rfl (fun v hv => Enc.one V v hv) fun w2 h => ?_
      refine hJ3 _ _ ?_
      rw [e] at hJ
      exact hJ _ (h.take 3)
    have keep : ∀ w', Rel B' w' [cellD g3 T_api_Agg G.cs.toArray, cellD t4 T_api_Value vZero.cs.toArray, cellD o5 T_api_Value (O.getD vZero).cs.toArray, cellD v8 T_api_Value V.cs.toArray] → ∀ u, O = some u → bestStep G O V = some u → J3 () w' := by
      intro w' h u hu e
      refine hJ3 _ _ ?_
      rw [e] at hJ
      rw [hu] at h
      exact hJ _ (h.take 3)
    cases hO : O with
    | none =>
      rw [hO] at set h
      rw [show (Option.isSome (none : Option ValD)) = false from rfl, un_not, Bool.not_false, ifB_true, h.ldAg 3 rfl ag_api_Value rfl]
      exact set _ h rfl
    | some u =>
      have hb : bestStep G O V = some (if G.kind = 2 ∧ compareV V u < 0 ∨ G.kind = 3 ∧ 0 < compareV V u then V else u) := by rw [hO]; rfl
      have keep := fun w' h => keep w' h u hO
      rw [hO] at set keep h hb
      rw [show (Option.isSome (some u)) = true from rfl, un_not, Bool.not_true, ifB_false]
      rw [show (Option.getD (some u) vZero) = u from rfl]
      rw [h.ld 0 rfl sc_int (o := 0) (v := .int .i64 G.kind) rfl, bin_eql, ifB_dec]
      refine ⟨fun k2 => ?_, fun k2 => ?_⟩
      · rw [bin_lss, ifB_dec]
        refine ⟨fun c2 => ?_, fun c2 => ?_⟩
        · rw [h.ldAg 3 rfl ag_api_Value rfl]
          exact set _ h (by rw [hb, if_pos (.inl ⟨k2, c2⟩)])
        · rw [h.ld 0 rfl sc_int (o := 0) (v := .int .i64 G.kind) rfl, bin_eql, ifB_dec]
          refine ⟨fun k3 => absurd (k2.symm.trans k3) (by decide), fun k3 => ?_⟩
          exact keep _ h (by rw [hb, if_neg (fun hh => hh.elim (fun a => c2 a.2) (fun a => k3 a.1))])
      · rw [h.ld 0 rfl sc_int (o := 0) (v := .int .i64 G.kind) rfl, bin_eql, ifB_dec]
        refine ⟨fun k3 => ?_, fun k3 => ?_⟩
        · rw [bin_gtr, ifB_dec]
          refine ⟨fun c2 => ?_, fun c2 => ?_⟩
          · rw [h.ldAg 3 rfl ag_api_Value rfl]
            exact set _ h (by rw [hb, if_pos (.inr ⟨k3, c2⟩)])
          · exact keep _ h (by rw [hb, if_neg (fun hh => hh.elim (fun a => k2 a.1) (fun a => c2 a.2))])
        · exact keep _ h (by rw [hb, if_neg (fun hh => hh.elim (fun a => k2 a.1) (fun a => k3 a.1))])
  have h := h.tick
  generalize tick w4 = w4 at *
  have hisc : ∀ {w : World} {σ : List Dat}, Rel B' w σ → Is Tryd.prog (sLoad T_s_api_Value (.pointer (some ⟨g1, o1 + 0, none⟩))) L[i].1.row.1 w := fun h => cellsR.is (h.hereB hc1) sc_s_api_Value (j := 0) rfl
  rw [hx1, field_addr f_erratalaw30_Change_0, cellsR.ld (h.hereB hc1) sc_s_api_Value (j := 0) (v := L[i].1.row.1) rfl, field_addr f_api_Agg_1, Nat.zero_add, h.ld 0 rfl sc_int (o := 1) (v := .int .i64 G.col) rfl]
  refine ⟨?_, ?_⟩
  · refine h.ask (fun B2 own base2 => refAt_g (base2 qi) G.col) fun w17 h => ?_
    refine h.alloc z_api_Value fun v8 w18 h => ?_
    refine ⟨h.is 0 rfl sc_int (o := 1) (v := .int .i64 G.col) rfl, hisc h, ?_⟩
    rw [hV]
    refine h.stAll (K := fun _ w => J2 (ptr v8, ()) w) 3 (ds := V.cs.toArray) rfl ag_api_Value rfl rfl (fun v hv => Enc.one V v hv) fun w19 h => ?_
    exact hJ2 _ _ h
  · refine h.alloc z_api_Value fun v8 w18 h => ?_
    refine ⟨h.is 0 rfl sc_int (o := 1) (v := .int .i64 G.col) rfl, hisc h, ?_⟩
    refine h.ask (fun B2 own base2 => refAt_g (base2 qi) G.col) fun w17 h => ?_
    rw [hV]
    refine h.stAll (K := fun _ w => J2 (ptr v8, ()) w) 3 (ds := V.cs.toArray) rfl ag_api_Value rfl rfl (fun v hv => Enc.one V v hv) fun w19 h => ?_
    exact hJ2 _ _ h
end
/-! ### It is the result -/
def lesser (g : AggD) (u v : ValD) : Prop := if g.kind = 2 then compareV u v ≤ 0 else compareV v u ≤ 0
theorem snoc_ind {α : Type} {P : List α → Prop} (h0 : P []) (h1 : ∀ M p, P M → P (M ++ [p])) : ∀ M, P M := by
  intro M
  rw [← List.reverse_reverse M]
  induction M.reverse with
  | nil => exact h0
  | cons a l ih => rw [List.reverse_cons]; exact h1 _ _ ih
def foldOk (C : List Chg) (g : AggD) (M : List Chg) : Prop := match foldW C g M with
    | none => ∀ p ∈ M, goodV C g (atS p.1 g.col) = false
    | some u => (∃ p ∈ M, goodV C g u = true ∧ atS p.1 g.col = u) ∧ ∀ p ∈ M, goodV C g (atS p.1 g.col) = true → lesser g u (atS p.1 g.col)
theorem foldW_spec (C : List Chg) {g : AggD} (hg : g.kind = 2 ∨ g.kind = 3) : ∀ M : List Chg, foldOk C g M := by
  have o := compareV_ord
  have hne : ¬ (g.kind = 2 ∧ g.kind = 3) := by omega
  have refl : ∀ u, lesser g u u := fun u => by unfold lesser; rw [(o.eq u u).2 rfl]; split <;> omega
  have trans : ∀ a b c, lesser g a b → lesser g b c → lesser g a c := fun a b c h1 h2 => by
    unfold lesser at *
    split
    · rename_i e; rw [if_pos e] at h1 h2; exact o.trans _ _ _ h1 h2
    · rename_i e; rw [if_neg e] at h1 h2; exact o.trans _ _ _ h2 h1
  refine snoc_ind ?_ fun M p ih => ?_
  · exact fun p hp => by cases hp
  · unfold foldOk at *
    rw [foldW_snoc]
    by_cases c : goodV C g (atS p.1 g.col) = true
    · rw [if_pos c]
      generalize foldW C g M = O at ih
      cases O with
      | none =>
        show (∃ q ∈ M ++ [p], goodV C g (atS p.1 g.col) = true ∧ atS q.1 g.col = atS p.1 g.col) ∧ _
        refine ⟨⟨p, by simp, c, rfl⟩, fun q hq hgq => ?_⟩
        rcases List.mem_append.1 hq with hq | hq
        · rw [ih q hq] at hgq; cases hgq
        · simp only [List.mem_singleton] at hq
          subst hq
          exact refl _
      | some u =>
        obtain ⟨⟨q, hq, h1, h2⟩, h3⟩ := ih
        have a1 := o.anti (atS p.1 g.col) u
        by_cases d : g.kind = 2 ∧ compareV (atS p.1 g.col) u < 0 ∨ g.kind = 3 ∧ 0 < compareV (atS p.1 g.col) u
        · have e : bestStep g (some u) (atS p.1 g.col) = some (atS p.1 g.col) := by unfold bestStep; simp only; rw [if_pos d]
          rw [e]
          have hlu : lesser g (atS p.1 g.col) u := by unfold lesser; split <;> omega
          refine ⟨⟨p, by simp, c, rfl⟩, fun x hx hgx => ?_⟩
          rcases List.mem_append.1 hx with hx | hx
          · exact trans _ _ _ hlu (h3 x hx hgx)
          · simp only [List.mem_singleton] at hx
            subst hx
            exact refl _
        · have e : bestStep g (some u) (atS p.1 g.col) = some u := by unfold bestStep; simp only; rw [if_neg d]
          rw [e]
          have hlu : lesser g u (atS p.1 g.col) := by unfold lesser; split <;> omega
          refine ⟨⟨q, List.mem_append_left _ hq, h1, h2⟩, fun x hx hgx => ?_⟩
          rcases List.mem_append.1 hx with hx | hx
          · exact h3 x hx hgx
          · simp only [List.mem_singleton] at hx
            subst hx
            exact hlu
    · rw [if_neg c]
      have c : goodV C g (atS p.1 g.col) = false := by simpa using c
      generalize foldW C g M = O at ih
      cases O with
      | none =>
        intro q hq
        rcases List.mem_append.1 hq with hq | hq
        · exact ih q hq
        · simp only [List.mem_singleton] at hq
          subst hq
          exact c
      | some u =>
        obtain ⟨⟨q, hq, h1, h2⟩, h3⟩ := ih
        refine ⟨⟨q, List.mem_append_left _ hq, h1, h2⟩, fun x hx hgx => ?_⟩
        rcases List.mem_append.1 hx with hx | hx
        · exact h3 x hx hgx
        · simp only [List.mem_singleton] at hx
          subst hx
          rw [c] at hgx
          cases hgx
theorem bestS_spec {g : AggD} (hg : g.kind = 2 ∨ g.kind = 3) (b : Bag) : (posV b = [] ∧ bestS g b = vInt 0) ∨ (bestS g b ∈ posV b ∧ ∀ u ∈ posV b, lesser g (bestS g b) u) := by
  have o := compareV_ord
  have hs : (posV b).Pairwise fun a b => compareV a b ≤ 0 := (sortV_sorted _).filter _
  unfold bestS
  split
  · rename_i e; exact .inl ⟨e, rfl⟩
  · rename_i a r e
    rw [e] at hs ⊢
    refine .inr ?_
    unfold lesser
    by_cases k2 : g.kind = 2
    · rw [if_pos k2]
      refine ⟨List.mem_cons_self, fun u hu => ?_⟩
      rw [if_pos k2]
      rcases List.mem_cons.1 hu with rfl | hu
      · rw [(o.eq u u).2 rfl]; exact Int.le_refl 0
      · exact (List.pairwise_cons.1 hs).1 u hu
    · rw [if_neg k2]
      refine ⟨List.getLast_mem _, fun u hu => ?_⟩
      rw [if_neg k2]
      have hd := List.dropLast_concat_getLast (l := a :: r) (by simp)
      rw [← hd] at hs hu
      rcases List.mem_append.1 hu with hu | hu
      · exact (List.pairwise_append.1 hs).2.2 u hu _ (List.mem_singleton.2 rfl)
      · rw [List.mem_singleton.1 hu, (o.eq _ _).2 rfl]; exact Int.le_refl 0
theorem IsAcc.res {aggs : List AggD} {C : List Chg} {x : ACC} {N : Nat} (h : IsAcc aggs C x) (hx : GoodA N x) (hk : Kinds aggs) {i : Nat} {g : AggD} (hg : aggs[i]? = some g) : resAt x i = wantedS C g := by
  have o := compareV_ord
  have hga : x.aggs[i]? = some g := by rw [h.same]; exact hg
  have hkg := hk g (List.mem_of_getElem? hg)
  unfold resAt wantedS wantO
  rw [hga]
  simp only
  by_cases k0 : g.kind = 0
  · rw [if_pos k0, if_pos k0, h.count]
  rw [if_neg k0, if_neg k0]
  by_cases k1 : g.kind = 1
  · rw [if_pos k1, if_pos k1, h.sums i g hg, if_pos k1]; rfl
  rw [if_neg k1, if_neg k1]
  have k23 : g.kind = 2 ∨ g.kind = 3 := by omega
  have ho : ordB g = true := by
    unfold ordB
    rw [Bool.or_eq_true, decide_eq_true_eq, decide_eq_true_eq]
    exact k23
  have hbl : i < x.bags.length := by rw [hx.bags]; exact (List.getElem?_eq_some_iff.1 hga).1
  obtain ⟨b0, hb0⟩ : ∃ b0, x.bags[i]? = some b0 := ⟨_, List.getElem?_eq_getElem hbl⟩
  have hso := hx.ord i g b0 hga hb0
  rw [ho] at hso
  obtain ⟨b, rfl⟩ := Option.isSome_iff_exists.1 hso
  rw [hb0]
  simp only
  have hpos : ∀ u, u ∈ posV b ↔ goodV C g u = true := fun u => by
    obtain ⟨q1, q2⟩ := h.keys hx hg hb0 u
    unfold posV goodV
    rw [List.mem_filter, q1, decide_eq_true_eq, decide_eq_true_eq, q2]
    exact ⟨fun hh => hh.2, fun hh => ⟨by omega, hh⟩⟩
  have hmem : ∀ u, goodV C g u = true → ∃ p ∈ C, atS p.1 g.col = u := fun u hu => cnt_mem (by
    have := of_decide_eq_true hu
    omega)
  have hf := foldW_spec C k23 C
  unfold foldOk at hf
  rcases bestS_spec k23 b with ⟨e1, e2⟩ | ⟨e1, e2⟩
  · rw [e2]
    cases hw : foldW C g C with
    | none => rfl
    | some u =>
      rw [hw] at hf
      obtain ⟨⟨p, _, h1, _⟩, _⟩ := hf
      have := (hpos u).2 h1
      rw [e1] at this
      cases this
  · cases hw : foldW C g C with
    | none =>
      rw [hw] at hf
      have h1 := (hpos _).1 e1
      obtain ⟨p, hp, h2⟩ := hmem _ h1
      have := hf p hp
      rw [h2, h1] at this
      cases this
    | some u =>
      rw [hw] at hf
      obtain ⟨⟨p, _, h1, _⟩, h3⟩ := hf
      have l1 := e2 u ((hpos u).2 h1)
      obtain ⟨q, hq, h4⟩ := hmem _ ((hpos _).1 e1)
      have l2 := h3 q hq (by rw [h4]; exact (hpos _).1 e1)
      rw [h4] at l2
      show bestS g b = u
      have a1 := o.anti (bestS g b) u
      unfold lesser at l1 l2
      refine (o.eq _ _).1 ?_
      split at l1
      · rename_i e; rw [if_pos e] at l2; omega
      · rename_i e; rw [if_neg e] at l2; omega
end Go.Proofs.YtoebncgnjbblgaaDoor
