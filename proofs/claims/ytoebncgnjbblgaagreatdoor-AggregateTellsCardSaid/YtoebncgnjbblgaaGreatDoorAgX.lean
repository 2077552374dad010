/-
  The laws' own functions: few, net, first, often. No condition.
-/
import Derived.Test.YtoebncgnjbblgaaGreatDoorAggV
import Derived.Test.YtoebncgnjbblgaaGreatDoorValF
import Derived.Test.YtoebncgnjbblgaaGreatDoorArgs
--@auto
namespace Go.Proofs.YtoebncgnjbblgaaGreatDoor
open Go.RowKit
set_option maxRecDepth 100000

abbrev ChD := D_erratalaw30_Change
abbrev ChL := List (ChD × List ValD)
def raws (L : ChL) : List ChD := L.map (·.1)
def chs (L : ChL) : List Chg := L.map fun p => (p.2, p.1.n)
def chR (L : ChL) : Dat := Dat.all L fun p => rowR p.1.row.1 p.2
theorem raws_len (L : ChL) : (raws L).length = L.length := by simp [raws]
theorem chs_len (L : ChL) : (chs L).length = L.length := by simp [chs]
theorem raws_get {L : ChL} {i : Nat} (h : i < L.length) : (raws L)[i]'(by rw [raws_len]; exact h) = L[i].1 := by simp [raws]
theorem chs_take_succ {L : ChL} {i : Nat} (h : i < L.length) : chs (L.take (i + 1)) = chs (L.take i) ++ [(L[i].2, L[i].1.n)] := by
  unfold chs
  rw [List.take_succ_eq_append_getElem h, List.map_append]
  rfl
def fewS (C : List Chg) : Bool := (C.all fun p => decide ((p.1.length : Int) ≤ 5) && p.1.all vRight) && decide ((C.length : Int) ≤ 40)
def fRow (row : List ValD) (r : List ValD) : Int := if r = row then 1 else 0
section
variable {B : Base} {w : World} {σ : List Dat} {v : Value} {L : ChL}
theorem chR.at (q : chR L B) {i : Nat} (h : i < L.length) : rowR L[i].1.row.1 L[i].2 B := q _ (List.getElem_mem h)
theorem ch_idx (r : rowR v (raws L) B) {i : Nat} (h : i < L.length) : ∃ g o, (∀ {Kp : Value → Prop}, pureK Tryz.prog (sIdxAddr T_s_erratalaw30_Change v (.int .i64 i)) Kp = Kp (.pointer (some ⟨g, o, none⟩))) ∧ cellsR g o L[i].1.cs B := by
  have hr : i < (raws L).length := by rw [raws_len]; exact h
  obtain ⟨g, o, h1, h2⟩ := rowR.idx (P := Tryz.prog) r sl_s_erratalaw30_Change hr
  rw [raws_get h] at h2
  exact ⟨g, o, h1, h2⟩
theorem few_g (r : rowR v (raws L) B) (q : chR L B) (hl : L.length ≤ 9223372036854775807) (hq : ∀ p ∈ L, p.2.length ≤ 9223372036854775807) : Gives Tryz.prog B (sCall F_erratalaw30_few #[v]) (.bool (fewS (chs L))) := by
  refine Gives.intro fun B' w K base h k => ?_
  replace r := base r
  replace q := base q
  refine erratalaw30_few.up (erratalaw30_few.call ?_)
  unfold erratalaw30_few.pt
  refine LOOP_intro (fun x w' => ∃ i : Nat, i ≤ L.length ∧ x = (.int .i64 i, ()) ∧ (∀ j (h1 : j < L.length), j < i → (L[j].2.length : Int) ≤ 5 ∧ L[j].2.all vRight = true) ∧ Rel B' w' []) (fun x _ => L.length - (match x.1 with | .int _ n => n.toNat | _ => 0))
    ⟨0, Nat.zero_le _, rfl, fun j _ hj => absurd hj (Nat.not_lt_zero j), h⟩ ?_
  clear h
  rintro x w1 ⟨i, hi, rfl, hin, h⟩ next hnext
  simp -zeta only [rowR.len r sl_s_erratalaw30_Change, raws_len, bin_lss, ifB_dec]
  refine ⟨fun hlt => ?_, fun hge => ?_⟩
  · have hil : i < L.length := by omega
    obtain ⟨g, o, hx, hcl⟩ := ch_idx r hil
    have qi := chR.at q hil
    have no : ¬ ((L[i].2.length : Int) ≤ 5 ∧ L[i].2.all vRight = true) → ∀ w', Rel B' w' [] → K (.bool false) w' := fun hno w' h => by
      have : fewS (chs L) = false := by
        unfold fewS
        have : ((chs L).all fun p => decide ((p.1.length : Int) ≤ 5) && p.1.all vRight) = false := by
          cases ha : ((chs L).all fun p => decide ((p.1.length : Int) ≤ 5) && p.1.all vRight)
          · rfl
          · have := List.all_eq_true.1 ha (L[i].2, L[i].1.n) (List.mem_map.2 ⟨L[i], List.getElem_mem hil, rfl⟩)
            rw [Bool.and_eq_true, decide_eq_true_eq] at this
            exact absurd this hno
        rw [this, Bool.false_and]
      rw [this] at k
      exact k _ _ h
    rw [hx, field_addr f_erratalaw30_Change_0, cellsR.ld (h.hereB hcl) sc_s_api_Value (j := 0) (v := L[i].1.row.1) rfl, rowR.len qi sl_s_api_Value, bin_gtr, ifB_dec]
    refine ⟨fun c => no (fun hh => by have := hh.1; omega) _ h, fun c1 => ?_⟩
    rw [hx, field_addr f_erratalaw30_Change_0, cellsR.ld (h.hereB hcl) sc_s_api_Value (j := 0) (v := L[i].1.row.1) rfl]
    refine h.ask (fun B2 own base2 => fAll_g (base2 qi) (hq _ (List.getElem_mem hil))) fun w2 h => ?_
    rw [un_not, ifB_not, ifB_bool]
    refine ⟨fun c2 => ?_, fun c2 => no (fun hh => by rw [hh.2] at c2; cases c2) _ h⟩
    rw [bin_add, wrap_id (by omega) (by omega)]
    refine hnext _ _ ⟨i + 1, hil, rfl, fun j h1 hj => ?_, h⟩ (by simp only; omega)
    by_cases e : j = i
    · subst e; exact ⟨by omega, c2⟩
    · exact hin j h1 (by omega)
  · have : ((chs L).all fun p => decide ((p.1.length : Int) ≤ 5) && p.1.all vRight) = true := List.all_eq_true.2 fun p hp => by
      obtain ⟨p2, hp2, rfl⟩ := List.mem_map.1 hp
      obtain ⟨j, hj, rfl⟩ := List.getElem_of_mem hp2
      have := hin j hj (by omega)
      rw [Bool.and_eq_true, decide_eq_true_eq]
      exact this
    unfold fewS at k
    rw [this, Bool.true_and, chs_len] at k
    rw [bin_leq]
    exact k _ _ h
theorem refAt_g {l : List ValD} (r : rowR v l B) (col : Int) : Gives Tryz.prog B (sCall F_errataref30_At #[v, .int .i64 col]) (atS l col).v := by
  refine Gives.intro fun B' w K base h k => ?_
  replace r := base r
  refine errataref30_At.up (errataref30_At.call ?_)
  unfold errataref30_At.pt
  unfold atS at k
  refine h.alloc z_api_Value fun o w1 h => ?_
  rw [bin_lss, ifB_dec]
  refine ⟨fun c => ?_, fun c => ?_⟩
  · rw [if_pos c] at k
    rw [bd_api_Value_]
    refine h.stAll 0 (ds := vZero.cs.toArray) rfl ag_api_Value rfl rfl (fun v hv => Enc.one vZero v hv) fun w2 h => ?_
    rw [rv_ag h 0 rfl ag_api_Value rfl]
    exact k _ _ h
  rw [if_neg c] at k
  simp -zeta only [rowR.len r sl_s_api_Value]
  rw [bin_geq, ifB_dec]
  refine ⟨fun c2 => ?_, fun c2 => ?_⟩
  · rw [List.getElem?_eq_none (by omega)] at k
    rw [bd_api_Value_]
    refine h.stAll 0 (ds := vZero.cs.toArray) rfl ag_api_Value rfl rfl (fun v hv => Enc.one vZero v hv) fun w2 h => ?_
    rw [rv_ag h 0 rfl ag_api_Value rfl]
    exact k _ _ h
  · obtain ⟨i, rfl⟩ : ∃ i : Nat, col = i := ⟨col.toNat, by omega⟩
    have hi : i < l.length := by omega
    rw [Int.toNat_natCast, List.getElem?_eq_getElem hi] at k
    obtain ⟨g, o2, hx, hc⟩ := rowR.idx r sl_s_api_Value (P := Tryz.prog) hi
    have hc : cellsR g o2 l[i].cs B' := hc
    rw [hx, cellsR.ldAg (h.hereB hc) ag_api_Value rfl]
    refine h.stAll 0 (ds := l[i].cs.toArray) rfl ag_api_Value rfl rfl (fun v hv => Enc.one l[i] v hv) fun w2 h => ?_
    rw [rv_ag h 0 rfl ag_api_Value rfl]
    exact k _ _ h
def isFirst (C : List Chg) (j : Nat) : Bool := decide (∀ i : Nat, i < j → (C[i]?).map (·.1) ≠ (C[j]?).map (·.1))
end
end Go.Proofs.YtoebncgnjbblgaaGreatDoor
/-
  The laws' own definition of an aggregate, and that it is the result. No condition.
-/
--@auto
namespace Go.Proofs.YtoebncgnjbblgaaGreatDoor
open Go.RowKit
set_option maxRecDepth 100000

def bestStep (g : AggD) (o : Option ValD) (v : ValD) : Option ValD :=
  match o with
  | none => some v
  | some u => some (if g.kind = 2 ∧ compareV v u < 0 ∨ g.kind = 3 ∧ 0 < compareV v u then v else u)
def goodV (C : List Chg) (g : AggD) (v : ValD) : Bool := decide (0 < W64 (tot C (fCnt g.col v)))
def foldW (C : List Chg) (g : AggD) (M : List Chg) : Option ValD := M.foldl (fun o p => if goodV C g (atS p.1 g.col) then bestStep g o (atS p.1 g.col) else o) none
def wantF (C : List Chg) (g : AggD) (M : List Chg) : Bool := if g.kind = 0 ∨ g.kind = 1 then false else (foldW C g M).isSome
def wantO (C : List Chg) (g : AggD) (M : List Chg) : ValD := if g.kind = 0 then vInt (W64 (tot M fun _ => 1)) else if g.kind = 1 then vInt (W64 (tot M (fSum g.col))) else (foldW C g M).getD vZero
def wantedS (C : List Chg) (g : AggD) : ValD := wantO C g C
theorem foldW_snoc (C : List Chg) (g : AggD) (M : List Chg) (p : Chg) : foldW C g (M ++ [p]) = if goodV C g (atS p.1 g.col) then bestStep g (foldW C g M) (atS p.1 g.col) else foldW C g M := by
  unfold foldW
  rw [List.foldl_append]
  rfl
section
variable {B : Base} {w : World} {σ : List Dat} {v : Value} {L : ChL}
end
/-! ### It is the result -/
def lesser (g : AggD) (u v : ValD) : Prop := if g.kind = 2 then compareV u v ≤ 0 else compareV v u ≤ 0
theorem snoc_ind {α : Type} {P : List α → Prop} (h0 : P []) (h1 : ∀ M p, P M → P (M ++ [p])) : ∀ M, P M := by
  intro M
  rw [← List.reverse_reverse M]
  induction M.reverse with
  | nil => exact h0
  | cons a l ih => rw [List.reverse_cons]; exact h1 _ _ ih
def foldOk (C : List Chg) (g : AggD) (M : List Chg) : Prop := match foldW C g M with
    | none => ∀ p ∈ M, goodV C g (atS p.1 g.col) = false
    | some u => (∃ p ∈ M, goodV C g u = true ∧ atS p.1 g.col = u) ∧ ∀ p ∈ M, goodV C g (atS p.1 g.col) = true → lesser g u (atS p.1 g.col)
theorem foldW_spec (C : List Chg) {g : AggD} (hg : g.kind = 2 ∨ g.kind = 3) : ∀ M : List Chg, foldOk C g M := by
  have o := compareV_ord
  have hne : ¬ (g.kind = 2 ∧ g.kind = 3) := by omega
  have refl : ∀ u, lesser g u u := fun u => by unfold lesser; rw [(o.eq u u).2 rfl]; split <;> omega
  have trans : ∀ a b c, lesser g a b → lesser g b c → lesser g a c := fun a b c h1 h2 => by
    unfold lesser at *
    split
    · rename_i e; rw [if_pos e] at h1 h2; exact o.trans _ _ _ h1 h2
    · rename_i e; rw [if_neg e] at h1 h2; exact o.trans _ _ _ h2 h1
  refine snoc_ind ?_ fun M p ih => ?_
  · exact fun p hp => by cases hp
  · unfold foldOk at *
    rw [foldW_snoc]
    by_cases c : goodV C g (atS p.1 g.col) = true
    · rw [if_pos c]
      generalize foldW C g M = O at ih
      cases O with
      | none =>
        show (∃ q ∈ M ++ [p], goodV C g (atS p.1 g.col) = true ∧ atS q.1 g.col = atS p.1 g.col) ∧ _
        refine ⟨⟨p, by simp, c, rfl⟩, fun q hq hgq => ?_⟩
        rcases List.mem_append.1 hq with hq | hq
        · rw [ih q hq] at hgq; cases hgq
        · simp only [List.mem_singleton] at hq
          subst hq
          exact refl _
      | some u =>
        obtain ⟨⟨q, hq, h1, h2⟩, h3⟩ := ih
        have a1 := o.anti (atS p.1 g.col) u
        by_cases d : g.kind = 2 ∧ compareV (atS p.1 g.col) u < 0 ∨ g.kind = 3 ∧ 0 < compareV (atS p.1 g.col) u
        · have e : bestStep g (some u) (atS p.1 g.col) = some (atS p.1 g.col) := by unfold bestStep; simp only; rw [if_pos d]
          rw [e]
          have hlu : lesser g (atS p.1 g.col) u := by unfold lesser; split <;> omega
          refine ⟨⟨p, by simp, c, rfl⟩, fun x hx hgx => ?_⟩
          rcases List.mem_append.1 hx with hx | hx
          · exact trans _ _ _ hlu (h3 x hx hgx)
          · simp only [List.mem_singleton] at hx
            subst hx
            exact refl _
        · have e : bestStep g (some u) (atS p.1 g.col) = some u := by unfold bestStep; simp only; rw [if_neg d]
          rw [e]
          have hlu : lesser g u (atS p.1 g.col) := by unfold lesser; split <;> omega
          refine ⟨⟨q, List.mem_append_left _ hq, h1, h2⟩, fun x hx hgx => ?_⟩
          rcases List.mem_append.1 hx with hx | hx
          · exact h3 x hx hgx
          · simp only [List.mem_singleton] at hx
            subst hx
            exact hlu
    · rw [if_neg c]
      have c : goodV C g (atS p.1 g.col) = false := by simpa using c
      generalize foldW C g M = O at ih
      cases O with
      | none =>
        intro q hq
        rcases List.mem_append.1 hq with hq | hq
        · exact ih q hq
        · simp only [List.mem_singleton] at hq
          subst hq
          exact c
      | some u =>
        obtain ⟨⟨q, hq, h1, h2⟩, h3⟩ := ih
        refine ⟨⟨q, List.mem_append_left _ hq, h1, h2⟩, fun x hx hgx => ?_⟩
        rcases List.mem_append.1 hx with hx | hx
        · exact h3 x hx hgx
        · simp only [List.mem_singleton] at hx
          subst hx
          rw [c] at hgx
          cases hgx
theorem bestS_spec {g : AggD} (hg : g.kind = 2 ∨ g.kind = 3) (b : Bag) : (posV b = [] ∧ bestS g b = vInt 0) ∨ (bestS g b ∈ posV b ∧ ∀ u ∈ posV b, lesser g (bestS g b) u) := by
  have o := compareV_ord
  have hs : (posV b).Pairwise fun a b => compareV a b ≤ 0 := (sortV_sorted _).filter _
  unfold bestS
  split
  · rename_i e; exact .inl ⟨e, rfl⟩
  · rename_i a r e
    rw [e] at hs ⊢
    refine .inr ?_
    unfold lesser
    by_cases k2 : g.kind = 2
    · rw [if_pos k2]
      refine ⟨List.mem_cons_self, fun u hu => ?_⟩
      rw [if_pos k2]
      rcases List.mem_cons.1 hu with rfl | hu
      · rw [(o.eq u u).2 rfl]; exact Int.le_refl 0
      · exact (List.pairwise_cons.1 hs).1 u hu
    · rw [if_neg k2]
      refine ⟨List.getLast_mem _, fun u hu => ?_⟩
      rw [if_neg k2]
      have hd := List.dropLast_concat_getLast (l := a :: r) (by simp)
      rw [← hd] at hs hu
      rcases List.mem_append.1 hu with hu | hu
      · exact (List.pairwise_append.1 hs).2.2 u hu _ (List.mem_singleton.2 rfl)
      · rw [List.mem_singleton.1 hu, (o.eq _ _).2 rfl]; exact Int.le_refl 0
theorem IsAcc.res {aggs : List AggD} {C : List Chg} {x : ACC} {N : Nat} (h : IsAcc aggs C x) (hx : GoodA N x) (hk : Kinds aggs) {i : Nat} {g : AggD} (hg : aggs[i]? = some g) : resAt x i = wantedS C g := by
  have o := compareV_ord
  have hga : x.aggs[i]? = some g := by rw [h.same]; exact hg
  have hkg := hk g (List.mem_of_getElem? hg)
  unfold resAt wantedS wantO
  rw [hga]
  simp only
  by_cases k0 : g.kind = 0
  · rw [if_pos k0, if_pos k0, h.count]
  rw [if_neg k0, if_neg k0]
  by_cases k1 : g.kind = 1
  · rw [if_pos k1, if_pos k1, h.sums i g hg, if_pos k1]; rfl
  rw [if_neg k1, if_neg k1]
  have k23 : g.kind = 2 ∨ g.kind = 3 := by omega
  have ho : ordB g = true := by
    unfold ordB
    rw [Bool.or_eq_true, decide_eq_true_eq, decide_eq_true_eq]
    exact k23
  have hbl : i < x.bags.length := by rw [hx.bags]; exact (List.getElem?_eq_some_iff.1 hga).1
  obtain ⟨b0, hb0⟩ : ∃ b0, x.bags[i]? = some b0 := ⟨_, List.getElem?_eq_getElem hbl⟩
  have hso := hx.ord i g b0 hga hb0
  rw [ho] at hso
  obtain ⟨b, rfl⟩ := Option.isSome_iff_exists.1 hso
  rw [hb0]
  simp only
  have hpos : ∀ u, u ∈ posV b ↔ goodV C g u = true := fun u => by
    obtain ⟨q1, q2⟩ := h.keys hx hg hb0 u
    unfold posV goodV
    rw [List.mem_filter, q1, decide_eq_true_eq, decide_eq_true_eq, q2]
    exact ⟨fun hh => hh.2, fun hh => ⟨by omega, hh⟩⟩
  have hmem : ∀ u, goodV C g u = true → ∃ p ∈ C, atS p.1 g.col = u := fun u hu => cnt_mem (by
    have := of_decide_eq_true hu
    omega)
  have hf := foldW_spec C k23 C
  unfold foldOk at hf
  rcases bestS_spec k23 b with ⟨e1, e2⟩ | ⟨e1, e2⟩
  · rw [e2]
    cases hw : foldW C g C with
    | none => rfl
    | some u =>
      rw [hw] at hf
      obtain ⟨⟨p, _, h1, _⟩, _⟩ := hf
      have := (hpos u).2 h1
      rw [e1] at this
      cases this
  · cases hw : foldW C g C with
    | none =>
      rw [hw] at hf
      have h1 := (hpos _).1 e1
      obtain ⟨p, hp, h2⟩ := hmem _ h1
      have := hf p hp
      rw [h2, h1] at this
      cases this
    | some u =>
      rw [hw] at hf
      obtain ⟨⟨p, _, h1, _⟩, h3⟩ := hf
      have l1 := e2 u ((hpos u).2 h1)
      obtain ⟨q, hq, h4⟩ := hmem _ ((hpos _).1 e1)
      have l2 := h3 q hq (by rw [h4]; exact (hpos _).1 e1)
      rw [h4] at l2
      show bestS g b = u
      have a1 := o.anti (bestS g b) u
      unfold lesser at l1 l2
      refine (o.eq _ _).1 ?_
      split at l1
      · rename_i e; rw [if_pos e] at l2; omega
      · rename_i e; rw [if_neg e] at l2; omega
end Go.Proofs.YtoebncgnjbblgaaGreatDoor
/-
  Totals: the rows' nets, all taken back. No condition.
-/
--@auto
namespace Go.Proofs.YtoebncgnjbblgaaGreatDoor
open Go.RowKit
set_option maxRecDepth 100000

theorem SameT.refl (L : List Chg) : SameT L L := fun _ => rfl
theorem SameT.symm {L M : List Chg} (h : SameT L M) : SameT M L := fun f => (h f).symm
theorem SameT.trans {L M K : List Chg} (h : SameT L M) (h' : SameT M K) : SameT L K := fun f => (h f).trans (h' f)
def netM (C : List Chg) (D : List (List ValD)) : List Chg := D.map fun r => (r, W64 (tot C (fRow r)))
theorem pick_sum {r0 : List ValD} {n : Int} {f : List ValD → Int} : ∀ {D : List (List ValD)}, D.Nodup → (D.map fun r => n * fRow r r0 * f r).sum = if r0 ∈ D then n * f r0 else 0
  | [], _ => by simp
  | r :: D, h => by
    obtain ⟨h1, h2⟩ := List.nodup_cons.1 h
    rw [List.map_cons, List.sum_cons, pick_sum h2]
    unfold fRow
    by_cases e : r0 = r
    · subst e
      rw [if_pos rfl, if_neg h1, if_pos List.mem_cons_self, Int.mul_one]
      omega
    · rw [if_neg e, Int.mul_zero, Int.zero_mul]
      by_cases m : r0 ∈ D
      · rw [if_pos m, if_pos (List.mem_cons_of_mem _ m)]; omega
      · rw [if_neg m, if_neg (fun hh => (List.mem_cons.1 hh).elim e m)]; omega
theorem net_sum {f : List ValD → Int} {D : List (List ValD)} (hD : D.Nodup) : ∀ {C : List Chg}, (∀ p ∈ C, p.1 ∈ D) → (D.map fun r => tot C (fRow r) * f r).sum = tot C f
  | [], _ => by
    rw [tot_nil]
    clear hD
    induction D with
    | nil => rfl
    | cons a l ih => rw [List.map_cons, List.sum_cons, tot_nil, Int.zero_mul, ih fun p hp => by cases hp]; rfl
  | p :: C, h => by
    have ih := net_sum (f := f) hD (C := C) fun q hq => h q (List.mem_cons_of_mem _ hq)
    have hs : (D.map fun r => tot (p :: C) (fRow r) * f r).sum = (D.map fun r => p.2 * fRow r p.1 * f r).sum + (D.map fun r => tot C (fRow r) * f r).sum := by
      clear ih h hD
      induction D with
      | nil => rfl
      | cons a l ih =>
        simp only [List.map_cons, List.sum_cons]
        rw [ih, tot_cons, Int.add_mul]
        omega
    rw [hs, ih, pick_sum hD, if_pos (h p List.mem_cons_self), tot_cons]
theorem netM_tot (C : List Chg) (f : List ValD → Int) : ∀ D : List (List ValD), W64 (tot (netM C D) f) = W64 ((D.map fun r => tot C (fRow r) * f r).sum)
  | [] => rfl
  | r :: D => by
    show W64 (tot ((r, W64 (tot C (fRow r))) :: netM C D) f) = _
    rw [tot_cons, List.map_cons, List.sum_cons]
    exact W_cong (W_mull _ _) (netM_tot C f D)
theorem netM_same {C : List Chg} {D : List (List ValD)} (hD : D.Nodup) (h : ∀ p ∈ C, p.1 ∈ D) : SameT (netM C D) C := fun f => by rw [netM_tot, net_sum hD h]
/-- The rows that come first, from the end on. -/
def dRows (C : List Chg) : Nat → List (List ValD)
  | 0 => []
  | k + 1 => dRows C k ++ (match C[C.length - 1 - k]? with
    | some p => if isFirst C (C.length - 1 - k) then [p.1] else []
    | none => [])
theorem dRows_inv (C : List Chg) : ∀ k, k ≤ C.length → (dRows C k).Nodup ∧ (∀ r ∈ dRows C k, ∃ i, C.length - k ≤ i ∧ (C[i]?).map (·.1) = some r ∧ isFirst C i = true) ∧ ∀ i, C.length - k ≤ i → i < C.length → isFirst C i = true → ∀ r, (C[i]?).map (·.1) = some r → r ∈ dRows C k
  | 0, _ => ⟨List.nodup_nil, fun _ hr => absurd hr List.not_mem_nil, fun _ _ _ => by omega⟩
  | k + 1, hk => by
    obtain ⟨h1, h2, h3⟩ := dRows_inv C k (by omega)
    have hi : C.length - 1 - k < C.length := by omega
    have hp : C[C.length - 1 - k]? = some C[C.length - 1 - k] := List.getElem?_eq_getElem hi
    have hd : dRows C (k + 1) = dRows C k ++ (if isFirst C (C.length - 1 - k) then [C[C.length - 1 - k].1] else []) := by
      show dRows C k ++ _ = _
      rw [hp]
    rw [hd]
    by_cases c : isFirst C (C.length - 1 - k) = true
    · rw [if_pos c]
      refine ⟨?_, ?_, ?_⟩
      · refine List.nodup_append.2 ⟨h1, by simp, fun a ha b hb e => ?_⟩
        rw [List.mem_singleton] at hb
        subst hb
        obtain ⟨i, i1, i2, i3⟩ := h2 a ha
        have := of_decide_eq_true i3 (C.length - 1 - k) (by omega)
        rw [hp, i2, e] at this
        exact this rfl
      · intro r hr
        rcases List.mem_append.1 hr with hr | hr
        · obtain ⟨i, i1, i2⟩ := h2 r hr; exact ⟨i, by omega, i2⟩
        · rw [List.mem_singleton] at hr
          subst hr
          exact ⟨C.length - 1 - k, by omega, by rw [hp]; rfl, c⟩
      · intro i i1 i2 i3 r hr
        by_cases e : i = C.length - 1 - k
        · subst e
          rw [hp] at hr
          have hr : C[C.length - 1 - k].1 = r := by simpa using hr
          exact List.mem_append_right _ (by rw [← hr]; simp)
        · exact List.mem_append_left _ (h3 i (by omega) i2 i3 r hr)
    · rw [if_neg c, List.append_nil]
      refine ⟨h1, fun r hr => ?_, fun i i1 i2 i3 r hr => ?_⟩
      · obtain ⟨i, i1, i2⟩ := h2 r hr; exact ⟨i, by omega, i2⟩
      · by_cases e : i = C.length - 1 - k
        · subst e; exact absurd i3 c
        · exact h3 i (by omega) i2 i3 r hr
theorem dRows_cover (C : List Chg) : ∀ p ∈ C, p.1 ∈ dRows C C.length := by
  obtain ⟨_, _, h3⟩ := dRows_inv C C.length (Nat.le_refl _)
  have main : ∀ m i, i ≤ m → i < C.length → ∀ r, (C[i]?).map (·.1) = some r → r ∈ dRows C C.length := by
    intro m
    induction m with
    | zero =>
      intro i hi hl r hr
      have : i = 0 := by omega
      subst this
      exact h3 0 (by omega) hl (decide_eq_true fun j hj => by omega) r hr
    | succ m ih =>
      intro i hi hl r hr
      by_cases c : isFirst C i = true
      · exact h3 i (by omega) hl c r hr
      · have c : ¬ ∀ j : Nat, j < i → (C[j]?).map (·.1) ≠ (C[i]?).map (·.1) := fun hh => c (decide_eq_true hh)
        obtain ⟨j, hj⟩ := Classical.not_forall.1 c
        obtain ⟨h1, h2⟩ := Classical.not_imp.1 hj
        have h2 := Classical.not_not.1 h2
        exact ih j (by omega) (by omega) r (by rw [h2]; exact hr)
  intro p hp
  obtain ⟨i, hi, rfl⟩ := List.getElem_of_mem hp
  exact main i i (Nat.le_refl _) hi _ (by rw [List.getElem?_eq_getElem hi]; rfl)
theorem nets_same (C : List Chg) : SameT (netM C (dRows C C.length)) C := netM_same (dRows_inv C C.length (Nat.le_refl _)).1 (dRows_cover C)
/-- Taken back. -/
def negC (C : List Chg) : List Chg := C.map fun p => (p.1, W64 (0 - p.2))
theorem negC_tot (f : List ValD → Int) : ∀ C : List Chg, W64 (tot (negC C) f) = W64 (0 - tot C f)
  | [] => rfl
  | p :: C => by
    show W64 (tot ((p.1, W64 (0 - p.2)) :: negC C) f) = _
    rw [tot_cons, tot_cons, show 0 - (p.2 * f p.1 + tot C f) = (0 - p.2) * f p.1 + (0 - tot C f) by rw [Int.sub_mul]; omega]
    exact W_cong (W_mull _ _) (negC_tot f C)
theorem neg_same (C : List Chg) : SameT (C ++ negC C) [] := fun f => by
  rw [tot_append, tot_nil, ← W_addr, negC_tot, W_addr, show tot C f + (0 - tot C f) = 0 by omega]
theorem ch_open {W : World} : ∀ {l : List ChD}, (∀ a ∈ l, ok_erratalaw30_Change W a) → ∃ L : ChL, raws L = l ∧ chR L (lawB W) ∧ ∀ p ∈ L, p.2.length ≤ maxLen ∧ (∀ x ∈ p.2, ok_api_Value W x) ∧ okInt W p.1.n
  | [], _ => ⟨[], rfl, fun p hp => (by cases hp), fun p hp => by cases hp⟩
  | a :: l, h => by
    obtain ⟨L, h1, h2, h3⟩ := ch_open (l := l) fun b hb => h b (List.mem_cons_of_mem _ hb)
    obtain ⟨⟨r, r1, r2, r3⟩, hn⟩ := h a List.mem_cons_self
    refine ⟨(a, r) :: L, by rw [← h1]; rfl, fun p hp => ?_, fun p hp => ?_⟩
    · rcases List.mem_cons.1 hp with rfl | hp
      · exact r1
      · exact h2 p hp
    · rcases List.mem_cons.1 hp with rfl | hp
      · exact ⟨r2, r3, hn⟩
      · exact h3 p hp
theorem keyOk_of {W : World} {u : ValD} (h : ok_api_Value W u) (hr : vRight u = true) : KeyOk u := by
  obtain ⟨h1, h2, h3⟩ := h
  have hs : u.s.size ≤ 200 := by
    unfold vRight at hr
    split at hr
    · have := of_decide_eq_true hr
      rw [this]
      exact Nat.zero_le _
    · split at hr
      · rw [Bool.and_eq_true, decide_eq_true_eq, decide_eq_true_eq] at hr
        omega
      · rw [Bool.or_eq_true, decide_eq_true_eq, decide_eq_true_eq] at hr
        rcases hr with hr | hr <;> (rw [hr]; exact Nat.zero_le _)
  have hl : (bl u.s).length ≤ 200 := hs
  exact ⟨⟨h1, h2, by omega⟩, by omega⟩
theorem few_rows {W : World} {L : ChL} (h : fewS (chs L) = true) (hq : ∀ p ∈ L, p.2.length ≤ maxLen ∧ (∀ x ∈ p.2, ok_api_Value W x) ∧ okInt W p.1.n) : L.length ≤ 40 ∧ ∀ p ∈ L, RowOk p.2 ∧ p.2.length ≤ 5 := by
  unfold fewS at h
  rw [Bool.and_eq_true, decide_eq_true_eq, chs_len, List.all_eq_true] at h
  refine ⟨by omega, fun p hp => ?_⟩
  have := h.1 (p.2, p.1.n) (List.mem_map.2 ⟨p, hp, rfl⟩)
  rw [Bool.and_eq_true, decide_eq_true_eq, List.all_eq_true] at this
  obtain ⟨h1, h2⟩ := this
  have h1 : (p.2.length : Int) ≤ 5 := h1
  exact ⟨fun u hu => keyOk_of ((hq p hp).2.1 u hu) (h2 u hu), by omega⟩
end Go.Proofs.YtoebncgnjbblgaaGreatDoor
