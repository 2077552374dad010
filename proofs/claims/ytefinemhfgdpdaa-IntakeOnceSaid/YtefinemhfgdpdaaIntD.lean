/-
  Intake: New, Know; the law's helpers. No condition.
-/
import Derived.Test.YtefinemhfgdpdaaIntC
namespace Go.Proofs.Ytefinemhfgdpdaa
open Go.RowKit

theorem RightC.iff {c : CfD} : RightC c ↔ (0 ≤ c.late ∧ c.late ≤ 10000) ∧ (0 ≤ c.delay ∧ c.delay ≤ c.late) ∧ (0 ≤ c.ahead ∧ c.ahead ≤ 10000) ∧ (1 ≤ c.rate ∧ c.rate ≤ 20) := ⟨fun h => ⟨h.late, h.delay, h.ahead, h.rate⟩, fun h => ⟨h.1, h.2.1, h.2.2.1, h.2.2.2⟩⟩
instance (c : CfD) : Decidable (RightC c) := decidable_of_iff _ RightC.iff.symm
/-- What was made is this one thing. -/
def OwnD (d : Dat) (τ : List Dat) : Prop := ∀ (B : Base) (w : World) (σ : List Dat), Rel B w (σ ++ τ) → Rel B w (σ ++ [d])
theorem ownD {d : Dat} {τ : List Dat} (h : ∀ B, (stars τ) B → d B) : OwnD d τ := fun B w σ hr => by
  have h1 := (Rel.restars hr).imp (i := σ.length) (e := d) get_last h
  rw [List.set_append_right _ _ (Nat.le_refl _), Nat.sub_self, List.set_cons_zero] at h1
  exact h1
def newS (c : CfD) (ks : List Kn) : IS := ⟨c, ks, 0, -1, 0, 0, [], fun _ => 0⟩
theorem cntNil : CntOk (fun _ => 0) ([] : List (Ent Int Int)) 0 := ⟨WfE.nil, fun t => rfl⟩
theorem new_good {c : CfD} (h : RightC c) (ks : List Kn) : GoodIS (newS c ks) := ⟨h, right_nil, by simp [newS], by simp [newS], by simp [newS], by simp [newS], fun t => ⟨Int.le_refl 0, by have := h.rate; show (0 : Int) ≤ c.rate; omega⟩⟩
theorem bd_new {K : Value → Prop} {c : CfD} {m : Nat} : pureK Try.prog (sBuild T_intake_Intake #[(0, .agg c.cs.toArray), (3, .int .i64 (-1)), (7, mapV m)]) K = K (.agg (ics (newS c []) nilSV nilSV m)) := pureK_eq fun w => by kernel_rfl
section
variable {B : Base} {w : World} {p : Nat} {s : IS}
theorem between_g (n a b : Int) : Gives Try.prog B (sCall F_intake_between #[.int .i64 n, .int .i64 a, .int .i64 b]) (.bool (decide (a ≤ n ∧ n ≤ b))) := by
  refine Gives.intro fun B' w K base h k => ?_
  refine intake_between.up (intake_between.call ?_)
  unfold intake_between.pt
  simp -zeta only [bin_geq, bin_leq, ifB_dec]
  refine ⟨fun c => ?_, fun c => ?_⟩
  · have e : decide (a ≤ n ∧ n ≤ b) = decide (n ≤ b) := decide_eq_decide.2 ⟨fun hh => hh.2, fun hh => ⟨c, hh⟩⟩
    rw [e] at k
    exact k _ _ h
  · rw [decide_eq_false (fun hh : a ≤ n ∧ n ≤ b => c hh.1)] at k
    exact k _ _ h
theorem cRight_g (c : CfD) : Gives Try.prog B (sCall F_intake_Right #[.agg c.cs.toArray]) (.bool (decide (RightC c))) := by
  refine Gives.intro fun B' w K base h k => ?_
  refine intake_Right.up (intake_Right.call ?_)
  unfold intake_Right.pt
  have no : ∀ w' τ, Rel B' w' τ → ¬ RightC c → K (.bool false) w' := fun w' τ h hn => by rw [decide_eq_false hn] at k; exact k _ _ h
  refine h.box fun o w1 h => ?_
  have h : Rel B' w1 [cellD o T_api_Config c.cs.toArray] := h
  simp -zeta only [field_addr f_api_Config_2, Nat.add_zero, Nat.zero_add, h.ld 0 rfl sc_int (o := 2) rfl]
  refine h.ask (fun B2 own base2 => between_g _ _ _) fun w2 h => ?_
  rw [ifB_dec]
  refine ⟨fun c1 => ?_, fun c1 => no _ _ h fun hh => c1 hh.late⟩
  simp -zeta only [field_addr f_api_Config_1, field_addr f_api_Config_2, Nat.add_zero, Nat.zero_add, h.ld 0 rfl sc_int (o := 1) rfl, h.ld 0 rfl sc_int (o := 2) rfl]
  refine h.ask (fun B2 own base2 => between_g _ _ _) fun w3 h => ?_
  rw [ifB_dec]
  refine ⟨fun c2 => ?_, fun c2 => no _ _ h fun hh => c2 hh.delay⟩
  simp -zeta only [field_addr f_api_Config_3, Nat.add_zero, Nat.zero_add, h.ld 0 rfl sc_int (o := 3) rfl]
  refine h.ask (fun B2 own base2 => between_g _ _ _) fun w4 h => ?_
  rw [ifB_dec]
  refine ⟨fun c3 => ?_, fun c3 => no _ _ h fun hh => c3 hh.ahead⟩
  simp -zeta only [field_addr f_api_Config_4, Nat.add_zero, Nat.zero_add, h.ld 0 rfl sc_int (o := 4) rfl]
  refine h.ask (fun B2 own base2 => between_g _ _ _) fun w5 h => ?_
  have e : decide (RightC c) = decide (1 ≤ c.rate ∧ c.rate ≤ 20) := decide_eq_decide.2 ⟨fun hh => hh.rate, fun hh => ⟨c1, c2, c3, hh⟩⟩
  rw [e] at k
  exact k _ _ h
structure FewK (ks : List Kn) : Prop where
  len : ks.length ≤ 1000000
  cols : ∀ x ∈ ks, x.cols.length ≤ 1000000
theorem Know_d {kv pv : SV} {m : Nat} {v : Value} {ks : List Kn} (hk : knownD v ks B) (hf : FewK ks) :
    Does Try.prog B (cellD p T_intake_Intake (ics s kv pv m)) (sCall F_intake_Intake_Know #[ptrI p, v]) fun x e' τ => x = .tuple #[] ∧ ∃ u : SV, e' = cellD p T_intake_Intake (ics s u pv m) ∧ OwnD (knownD u.1 ks) τ := by
  refine Does.intro fun B' w K base h k => ?_
  obtain ⟨L, hL, rk, rc⟩ := base hk
  have hal : ∀ L : KnL, (kraws L).length = L.length := fun L => List.length_map ..
  have hLl : L.length ≤ 1000000 := by have := hf.len; rw [← hL, List.length_map] at this; exact this
  refine intake_Intake_Know.up (intake_Intake_Know.call ?_)
  unfold intake_Intake_Know.pt
  simp -zeta only [nil_ptr, field_addr f_intake_Intake_1, Nat.zero_add]
  refine h.st 0 rfl sc_s_api_Known (show 6 < 13 by omega) rfl fun w1 h => ?_
  have h : Rel B' w1 [cellD p T_intake_Intake (ics s nilSV pv m)] := h
  simp -zeta only [rowR.len rk sl_s_api_Known]
  rw [hal]
  have h := h.addNil KnD T_api_Known
  have h : Rel B' w1 [cellD p T_intake_Intake (ics s nilSV pv m), rowD T_api_Known nilSV.1 (kraws [])] := h
  have h := (ownD (d := kcols []) (τ := []) fun B _ x hx => (by cases hx)) B' w1 [cellD p T_intake_Intake (ics s nilSV pv m), rowD T_api_Known nilSV.1 (kraws [])] (by simpa using h)
  refine LOOP_intro (fun x w' => ∃ (i : Nat) (L' : KnL) (u : SV), i ≤ L.length ∧ L'.length = i ∧ L'.map (·.1) = ks.take i ∧ x = (.int .i64 i, ()) ∧ Rel B' w' [cellD p T_intake_Intake (ics s u pv m), rowD T_api_Known u.1 (kraws L'), kcols L']) (fun x _ => L.length - (match x.1 with | .int _ n => n.toNat | _ => 0))
    ⟨0, [], nilSV, Nat.zero_le _, rfl, rfl, rfl, h⟩ ?_
  clear h
  rintro x w2 ⟨i, L', u, hi, hl', hp, rfl, h⟩ next hnext
  simp -zeta only [bin_lss, ifB_dec]
  refine ⟨fun hlt => ?_, fun hge => ?_⟩
  · have hil : i < L.length := by omega
    have hel : (kraws L)[i]'(by rw [hal]; exact hil) = L[i].1.raw L[i].2 := by simp [kraws]
    obtain ⟨g, o, hx, hc⟩ := rowR.idx rk sl_s_api_Known (P := Try.prog) (i := i) (by rw [hal]; exact hil)
    rw [hel] at hc
    have hc : cellsR g o (L[i].1.raw L[i].2).cs B' := hc
    have hcol : rowR L[i].2.1 L[i].1.cols B' := rc L[i] (List.getElem_mem hil)
    have hcl : L[i].1.cols.length ≤ 1000000 := hf.cols _ (by rw [← hL]; exact List.mem_map_of_mem (List.getElem_mem hil))
    rw [hx, cellsR.ldAg (h.hereB hc) ag_api_Known rfl]
    refine h.allocAg (ds := (L[i].1.raw L[i].2).cs.toArray) z_api_Known rfl ag_api_Known rfl (fun v hv => Enc.one (L[i].1.raw L[i].2) v hv) fun a w3 h => ?_
    have h : Rel B' w3 [cellD p T_intake_Intake (ics s u pv m), rowD T_api_Known u.1 (kraws L'), kcols L', cellD a T_api_Known (L[i].1.raw L[i].2).cs.toArray] := h
    simp -zeta only [field_addr f_api_Known_2, Nat.zero_add, h.ld 3 rfl sc_s_api_Col (o := 2) rfl]
    refine h.make (fun B2 own base2 => gslices_Clone_s_api_Col_api_Col (base2 hcol) (by omega) (by omega)) fun v' τ w4 hp2 h => ?_
    subst hp2
    have h1 : v'.oneCell' = true := h.oneCell (i := 4) rfl
    obtain ⟨sv, rfl⟩ : ∃ sv : SV, sv.1 = v' := ⟨⟨v', h1⟩, rfl⟩
    refine h.st 3 rfl sc_s_api_Col (show 2 < 3 by omega) h1 fun w5 h => ?_
    have h : Rel B' w5 [cellD p T_intake_Intake (ics s u pv m), rowD T_api_Known u.1 (kraws L'), kcols L', cellD a T_api_Known (L[i].1.raw sv).cs.toArray, rowD T_api_Col sv.1 L[i].1.cols] := h
    have h := h.tick
    simp -zeta only [nil_ptr, field_addr f_intake_Intake_1, Nat.zero_add, h.ld 0 rfl sc_s_api_Known (o := 6) rfl, h.ldAg 3 rfl ag_api_Known rfl]
    refine h.build1 (L[i].1.raw sv) sl_s_api_Known (by decide) fun u2 w6 h => ?_
    refine ⟨h.is 0 rfl sc_s_api_Known (o := 6) rfl, ?_⟩
    have hl2 : (kraws L').length = i := by rw [hal, hl']
    refine h.append 1 rfl sl_s_api_Known (Rd.at (l := [L[i].1.raw sv]) 5 rfl) (by rw [hl2, List.length_singleton]; omega) (by rw [hl2, List.length_singleton]; omega) fun u3 w7 h => ?_
    have h3 : u3.oneCell' = true := h.oneCell (i := 1) rfl
    refine h.st 0 rfl sc_s_api_Known (show 6 < 13 by omega) h3 fun w8 h => ?_
    have h := h.pick [0, 1, 2, 4] (by decide)
    have h : Rel B' w8 ([cellD p T_intake_Intake (ics s ⟨u3, h3⟩ pv m), rowD T_api_Known u3 (kraws L' ++ [L[i].1.raw sv])] ++ [kcols L', rowD T_api_Col sv.1 L[i].1.cols]) := h
    have h := (ownD (d := kcols (L' ++ [(L[i].1, sv)])) (τ := [kcols L', rowD T_api_Col sv.1 L[i].1.cols]) fun B hB => Dat.all_append (Dat.star.left hB) (fun x hx => by
      rw [List.mem_singleton] at hx
      subst hx
      exact rowD.read (Dat.star.left (Dat.star.right hB)))) _ _ _ h
    rw [show kraws L' ++ [L[i].1.raw sv] = kraws (L' ++ [(L[i].1, sv)]) by simp [kraws]] at h
    rw [bin_add, wrap_id (by omega) (by omega)]
    refine hnext _ _ ⟨i + 1, L' ++ [(L[i].1, sv)], ⟨u3, h3⟩, hil, by simp [hl'], ?_, rfl, h⟩ (by simp only; omega)
    rw [List.map_append, hp, ← hL, List.take_succ_eq_append_getElem (by simpa using hil)]
    simp
  · have hie : i = L.length := by omega
    subst hie
    rw [List.take_of_length_le (by rw [← hL, List.length_map]; exact Nat.le_refl _)] at hp
    exact k _ _ _ _ ⟨rfl, u, rfl, ownD (τ := [rowD T_api_Known u.1 (kraws L'), kcols L']) fun B hB => ⟨L', hp, rowD.read (Dat.star.left hB), Dat.star.left (Dat.star.right hB)⟩⟩ h
theorem New_m (c : CfD) {v : Value} {ks : List Kn} (hk : knownD v ks B) (hf : FewK ks) :
    Makes Try.prog B (sCall F_intake_New #[.agg c.cs.toArray, v]) fun u τ => (RightC c ∧ ∃ p, u = ptrI p ∧ τ = [intD p (newS c ks)]) ∨ (¬ RightC c ∧ u = .pointer none ∧ τ = []) := by
  refine Makes.intro fun B' w K base h k => ?_
  replace hk := base hk
  refine intake_New.up (intake_New.call ?_)
  unfold intake_New.pt
  refine h.box fun o w1 h => ?_
  have h : Rel B' w1 [cellD o T_api_Config c.cs.toArray] := h
  rw [h.ldAg 0 rfl ag_api_Config rfl]
  refine h.ask (fun B2 own base2 => cRight_g c) fun w2 h => ?_
  rw [un_not, ifB_not, ifB_dec]
  refine ⟨fun c1 => ?_, fun c1 => k _ _ _ (.inr ⟨c1, rfl, rfl⟩) h.nil⟩
  rw [h.ldAg 0 rfl ag_api_Config rfl]
  refine h.mkMap Int Int fun m w3 h => ?_
  rw [bd_new]
  refine h.box fun p w4 h => ?_
  have h : Rel B' w4 [cellD o T_api_Config c.cs.toArray, mapE m ([] : List (Ent Int Int)) 0, cellD p T_intake_Intake (ics (newS c ks) nilSV nilSV m)] := h
  refine h.act 2 rfl (fun B2 own base2 => Know_d (base2 hk) hf) fun x e' τ w5 hp h => ?_
  obtain ⟨rfl, u, rfl, hp⟩ := hp
  have h := hp _ _ [cellD o T_api_Config c.cs.toArray, mapE m ([] : List (Ent Int Int)) 0, cellD p T_intake_Intake (ics (newS c ks) u nilSV m)] h
  have h := nilTab [] _ _ _ (by rw [List.append_nil]; exact h)
  have h := h.pick [2, 1, 3, 4] (by decide)
  have h : Rel B' w5 [cellD p T_intake_Intake (ics (newS c ks) u nilSV m), mapE m ([] : List (Ent Int Int)) 0, knownD u.1 (newS c ks).known, tabD nilSV.1 (newS c ks).prods] := h
  exact k _ _ _ (.inl ⟨c1, p, rfl, rfl⟩) (intD.close cntNil h)
def colA : ColD := ⟨⟨#[97]⟩, 0, ⟨#[]⟩⟩
def colB : ColD := ⟨⟨#[97]⟩, 1, ⟨#[]⟩⟩
def colC : ColD := ⟨⟨#[98]⟩, 2, ⟨#[]⟩⟩
def knS : List Kn := [⟨⟨#[115]⟩, 1, [colA]⟩, ⟨⟨#[116]⟩, 2, [colB, colC]⟩]
theorem knS_few : FewK knS := ⟨by decide, fun x hx => by
  rcases List.mem_cons.1 hx with rfl | hx
  · decide
  · rcases List.mem_cons.1 hx with rfl | hx
    · decide
    · cases hx⟩
theorem known_m : Makes Try.prog B (sCall F_erratalaw11_known #[]) fun u τ => τ = [knownD u knS] := by
  refine Makes.intro fun B' w K base h k => ?_
  refine erratalaw11_known.up (erratalaw11_known.call ?_)
  unfold erratalaw11_known.pt
  rw [bd_api_Col_0]
  refine h.build1 colA sl_s_api_Col (by decide) fun v1 w1 h => ?_
  obtain ⟨a1, c1, rfl, _⟩ := rowR.form (rowD.read (h.here (i := 0) rfl))
  rw [bd_api_Known_0_1_2, bd_api_Col_0_1, bd_api_Col_0_1]
  refine h.buildN [colB, colC] sl_s_api_Col fun v2 w2 h => ?_
  obtain ⟨a2, c2, rfl, _⟩ := rowR.form (rowD.read (h.here (i := 1) rfl))
  rw [bd_api_Known_0_1_2]
  refine h.buildN [(⟨⟨#[115]⟩, 1, ⟨.slice a1 [colA].length c1, rfl⟩⟩ : KnD), ⟨⟨#[116]⟩, 2, ⟨.slice a2 [colB, colC].length c2, rfl⟩⟩] sl_s_api_Known fun v3 w3 h => ?_
  have h := h.pick [2, 0, 1] (by decide)
  have h := (ownD (d := knownD v3 knS) (τ := [rowD T_api_Known v3 [(⟨⟨#[115]⟩, 1, ⟨.slice a1 [colA].length c1, rfl⟩⟩ : KnD), ⟨⟨#[116]⟩, 2, ⟨.slice a2 [colB, colC].length c2, rfl⟩⟩], rowD T_api_Col (.slice a1 [colA].length c1) [colA], rowD T_api_Col (.slice a2 [colB, colC].length c2) [colB, colC]]) fun B hB => ⟨[(⟨⟨#[115]⟩, 1, [colA]⟩, ⟨.slice a1 [colA].length c1, rfl⟩), (⟨⟨#[116]⟩, 2, [colB, colC]⟩, ⟨.slice a2 [colB, colC].length c2, rfl⟩)], rfl, rowD.read (Dat.star.left hB), fun x hx => by
    rcases List.mem_cons.1 hx with rfl | hx
    · exact rowD.read (Dat.star.left (Dat.star.right hB))
    · rcases List.mem_cons.1 hx with rfl | hx
      · exact rowD.read (Dat.star.left (Dat.star.right (Dat.star.right hB)))
      · cases hx⟩) _ _ [] h
  exact k _ _ _ rfl h
def entD (q t : Int) (rv : SV) : EnD := ⟨0, 7, 0, q, ⟨#[115]⟩, 1, t, rv⟩
def rowN (n : Int) : List ValD := [⟨0, n, ⟨#[]⟩⟩]
theorem entry_m (q t n : Int) : Makes Try.prog B (sCall F_erratalaw11_entry #[.int .i64 q, .int .i64 t, .int .i64 n]) fun u τ => ∃ rv : SV, u = (entD q t rv).v ∧ τ = [rowD T_api_Value rv.1 (rowN n)] := by
  refine Makes.intro fun B' w K base h k => ?_
  refine erratalaw11_entry.up (erratalaw11_entry.call ?_)
  unfold erratalaw11_entry.pt
  refine h.alloc z_api_Entry fun o w1 h => ?_
  rw [bd_api_Value_1]
  refine h.build1 (⟨0, n, ⟨#[]⟩⟩ : ValD) sl_s_api_Value (by decide) fun v1 w2 h => ?_
  obtain ⟨a1, c1, rfl, _⟩ := rowR.form (rowD.read (h.here (i := 1) rfl))
  rw [bd_api_Entry_1_3_4_5_6_7]
  refine h.stAll 0 (ds := (entD q t ⟨.slice a1 (rowN n).length c1, rfl⟩).cs.toArray) rfl ag_api_Entry rfl rfl (fun v hv => Enc.one (entD q t ⟨.slice a1 (rowN n).length c1, rfl⟩) v hv) fun w3 h => ?_
  rw [rv_ag h 0 rfl ag_api_Entry rfl]
  have h := h.pick [1] (by decide)
  exact k _ _ _ ⟨⟨.slice a1 (rowN n).length c1, rfl⟩, rfl, rfl⟩ h
end
end Go.Proofs.Ytefinemhfgdpdaa
