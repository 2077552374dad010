/-
  Intake: its parts in memory; what fits. No condition.
-/
import Derived.Test.YtefinemhfgdpdaaGreatDoorPrA
import Derived.Test.YtefinemhfgdpdaaGreatDoorSpA
import Derived.Test.YtefinemhfgdpdaaGreatDoorArgs
namespace Go.Proofs.YtefinemhfgdpdaaGreatDoor
open Go.RowKit
set_option maxRecDepth 100000

abbrev ValD := D_api_Value
abbrev ColD := D_api_Col
abbrev KnD := D_api_Known
abbrev EnD := D_api_Entry
def vInt (n : Int) : ValD := ⟨0, n, ⟨#[]⟩⟩
def vText (s : ByteArray) : ValD := ⟨1, 0, s⟩
def vBool (b : Bool) : ValD := ⟨2, if b then 1 else 0, ⟨#[]⟩⟩
def vRight (v : ValD) : Bool := if v.kind = 0 then decide (v = vInt v.n) else if v.kind = 1 then decide (v = vText v.s) && decide ((v.s.size : Int) ≤ 200) else decide (v = vBool false) || decide (v = vBool true)
def rowRight (l : List ValD) : Bool := decide ((l.length : Int) ≤ 12) && l.all vRight
/-- Known columns. -/
structure Kn where
  source : ByteArray
  schema : Int
  cols : List ColD
abbrev KnL := List (Kn × SV)
abbrev Kn.raw (k : Kn) (v : SV) : KnD := ⟨k.source, k.schema, v⟩
def kraws (L : KnL) : List KnD := L.map fun k => k.1.raw k.2
def kcols (L : KnL) : Dat := Dat.all L fun k => rowR k.2.1 k.1.cols
def knownD (u : Value) (s : List Kn) : Dat := ⟨fun B => ∃ L : KnL, L.map (·.1) = s ∧ rowR u (kraws L) B ∧ kcols L B, fun hl ⟨L, h1, h2, h3⟩ => ⟨L, h1, Dat.mono _ hl h2, Dat.mono _ hl h3⟩⟩
def knOf (src : ByteArray) (schema : Int) (k : Kn) : Bool := decide (k.source = src) && decide (k.schema = schema)
def kindsFit (r : List ValD) (cs : List ColD) : Bool := decide (r.map (·.kind) = cs.map (·.type_))
def fitsS (s : List Kn) (src : ByteArray) (schema : Int) (r : List ValD) : Int := match s.find? (knOf src schema) with
  | none => 17
  | some k => if kindsFit r k.cols = true ∧ rowRight r = true then 0 else 16

section
variable {B : Base} {w : World}
theorem vInt_g (n : Int) : Gives Tryz.prog B (sCall F_value_Int #[.int .i64 n]) (vInt n).v := by
  refine Gives.intro fun B' w K base h k => ?_
  refine value_Int.up (value_Int.call ?_)
  unfold value_Int.pt
  refine h.alloc z_api_Value fun o w1 h => ?_
  rw [bd_api_Value_0_1]
  refine h.stAll 0 (ds := (vInt n).cs.toArray) rfl ag_api_Value rfl rfl (fun v hv => Enc.one (vInt n) v hv) fun w2 h => ?_
  rw [rv_ag h 0 rfl ag_api_Value rfl]
  exact k _ _ h
theorem vText_g (s : ByteArray) : Gives Tryz.prog B (sCall F_value_Text #[.string s]) (vText s).v := by
  refine Gives.intro fun B' w K base h k => ?_
  refine value_Text.up (value_Text.call ?_)
  unfold value_Text.pt
  refine h.alloc z_api_Value fun o w1 h => ?_
  rw [bd_api_Value_0_2]
  refine h.stAll 0 (ds := (vText s).cs.toArray) rfl ag_api_Value rfl rfl (fun v hv => Enc.one (vText s) v hv) fun w2 h => ?_
  rw [rv_ag h 0 rfl ag_api_Value rfl]
  exact k _ _ h
theorem vBool_g (b : Bool) : Gives Tryz.prog B (sCall F_value_Bool #[.bool b]) (vBool b).v := by
  refine Gives.intro fun B' w K base h k => ?_
  refine value_Bool.up (value_Bool.call ?_)
  unfold value_Bool.pt
  refine h.alloc z_api_Value fun o w1 h => ?_
  rw [ifB_bool]
  refine ⟨fun e => ?_, fun e => ?_⟩ <;> subst e
  · rw [bd_api_Value_0_1]
    refine h.stAll 0 (ds := (vBool true).cs.toArray) rfl ag_api_Value rfl rfl (fun v hv => Enc.one (vBool true) v hv) fun w2 h => ?_
    rw [rv_ag h 0 rfl ag_api_Value rfl]
    exact k _ _ h
  · rw [bd_api_Value_0]
    refine h.stAll 0 (ds := (vBool false).cs.toArray) rfl ag_api_Value rfl rfl (fun v hv => Enc.one (vBool false) v hv) fun w2 h => ?_
    rw [rv_ag h 0 rfl ag_api_Value rfl]
    exact k _ _ h
theorem vRight_g (v : ValD) : Gives Tryz.prog B (sCall F_value_Right #[v.v]) (.bool (vRight v)) := by
  refine Gives.intro fun B' w K base h k => ?_
  refine value_Right.up (value_Right.call ?_)
  unfold value_Right.pt
  refine h.box fun o w1 h => ?_
  have h : Rel B' w1 [cellD o T_api_Value v.cs.toArray] := h
  have ht := h.tick
  unfold vRight at k
  simp -zeta only [field_addr f_api_Value_0, field_addr f_api_Value_1, field_addr f_api_Value_2, Nat.add_zero, Nat.zero_add, h.ld 0 rfl sc_int (o := 0) rfl, bin_eql, ifB_dec, ht.ldAg 0 rfl ag_api_Value rfl, ht.ld 0 rfl sc_int (o := 1) rfl, ht.ld 0 rfl sc_string (o := 2) rfl]
  refine ⟨fun c0 => ?_, fun c0 => ?_⟩
  · rw [if_pos c0] at k
    refine ht.ask (fun B2 own base2 => vInt_g v.n) fun w2 h => ?_
    refine ⟨h.isAg 0 rfl ag_api_Value rfl, ?_⟩
    rw [show (Value.agg v.cs.toArray) = v.v from rfl, eq_api_Value]
    exact k _ _ h
  rw [if_neg c0] at k
  refine ⟨fun c1 => ?_, fun c1 => ?_⟩
  · rw [if_pos c1] at k
    refine ht.ask (fun B2 own base2 => vText_g v.s) fun w2 h => ?_
    refine ⟨h.isAg 0 rfl ag_api_Value rfl, ?_⟩
    rw [show (Value.agg v.cs.toArray) = v.v from rfl, eq_api_Value, ifB_dec]
    refine ⟨fun c2 => ?_, fun c2 => ?_⟩
    · rw [decide_eq_true c2, Bool.true_and] at k
      simp -zeta only [h.ld 0 rfl sc_string (o := 2) rfl, len_string U_string, bin_leq]
      exact k _ _ h
    · rw [decide_eq_false c2, Bool.false_and] at k
      exact k _ _ h
  rw [if_neg c1] at k
  refine ht.ask (fun B2 own base2 => vBool_g false) fun w2 h => ?_
  refine ⟨h.isAg 0 rfl ag_api_Value rfl, ?_⟩
  rw [show (Value.agg v.cs.toArray) = v.v from rfl, eq_api_Value, ifB_dec]
  refine ⟨fun c2 => ?_, fun c2 => ?_⟩
  · rw [decide_eq_true c2, Bool.true_or] at k
    exact k _ _ h
  · rw [decide_eq_false c2, Bool.false_or] at k
    rw [h.ldAg 0 rfl ag_api_Value rfl]
    refine h.ask (fun B2 own base2 => vBool_g true) fun w3 h => ?_
    refine ⟨h.isAg 0 rfl ag_api_Value rfl, ?_⟩
    rw [show (Value.agg v.cs.toArray) = v.v from rfl, eq_api_Value]
    exact k _ _ h
theorem all1_g (v : ValD) : Gives Tryz.prog B (sCallV (.func (.func F_value_all_1) #[] #[]) #[Enc.val v]) (.bool (!vRight v)) := by
  refine Gives.intro fun B' w K base h k => ?_
  refine call_v ?_
  refine value_all_1.up (v0 := v.v) (value_all_1.call ?_)
  unfold value_all_1.pt
  refine h.box fun o w1 h => ?_
  have h : Rel B' w1 [cellD o T_api_Value v.cs.toArray] := h
  rw [h.ldAg 0 rfl ag_api_Value rfl]
  refine h.ask (fun B2 own base2 => vRight_g v) fun w2 h => ?_
  rw [un_not]
  exact k _ _ h
theorem rowRight_g {u : Value} {l : List ValD} (r : rowR u l B) (hl : l.length ≤ 4611686018427387904) : Gives Tryz.prog B (sCall F_value_RightRow #[u]) (.bool (rowRight l)) := by
  refine Gives.intro fun B' w K base h k => ?_
  replace r := base r
  refine value_RightRow.up (value_RightRow.call ?_)
  unfold value_RightRow.pt
  unfold rowRight at k
  simp -zeta only [rowR.len r sl_s_api_Value, bin_leq, ifB_dec]
  refine ⟨fun c => ?_, fun c => ?_⟩
  · rw [decide_eq_true c, Bool.true_and] at k
    refine h.ask (v := .bool (l.all vRight)) (fun B2 own base2 => ?_) fun w1 h => k _ _ h
    refine Gives.intro fun B3 w K base3 h k => ?_
    refine value_all.up (value_all.call ?_)
    unfold value_all.pt
    refine h.ask (fun B4 own base4 => gslices_ContainsFunc_s_api_Value_api_Value (base4 (base3 (base2 r))) hl (fun v => !vRight v) fun B5 base5 x _ => all1_g x) fun w1 h => ?_
    rw [un_not]
    have e : (!l.any fun v => !vRight v) = l.all vRight := by
      rw [List.not_any_eq_all_not]
      simp
    rw [e]
    exact k _ _ h
  · rw [decide_eq_false c, Bool.false_and] at k
    exact k _ _ h
theorem fits1_g {b : Nat} {en : EnD} (hc : cellD b T_api_Entry en.cs.toArray B) (x : KnD) : Gives Tryz.prog B (sCallV (.func (.func F_intake_Intake_fits_1) #[] #[.pointer (some ⟨b, 0, none⟩)]) #[Enc.val x]) (.bool (decide (x.source = en.source) && decide (x.schema = en.schema))) := by
  refine Gives.intro fun B' w K base h k => ?_
  replace hc := base hc
  refine call_v ?_
  refine intake_Intake_fits_1.up (k0 := x.v) (t1 := .pointer (some ⟨b, 0, none⟩)) (intake_Intake_fits_1.call ?_)
  unfold intake_Intake_fits_1.pt
  refine h.box fun o w1 h => ?_
  have h : Rel B' w1 [cellD o T_api_Known x.cs.toArray] := h
  simp -zeta only [field_addr f_api_Known_0, field_addr f_api_Known_1, field_addr f_api_Entry_4, field_addr f_api_Entry_5, Nat.add_zero, Nat.zero_add, h.ld 0 rfl sc_string (o := 0) rfl, h.ld 0 rfl sc_int (o := 1) rfl, cellD.ld (h.hereB hc) sc_string (o := 4) rfl, cellD.ld (h.hereB hc) sc_int (o := 5) rfl, eql_str, ifB_dec]
  refine ⟨fun c => ?_, fun c => ?_⟩
  · rw [decide_eq_true c, Bool.true_and] at k
    rw [bin_eql]
    exact k _ _ h
  · rw [decide_eq_false c, Bool.false_and] at k
    exact k _ _ h
theorem fits2_g (v : ValD) (c : ColD) : Gives Tryz.prog B (sCallV (.func (.func F_intake_Intake_fits_2) #[] #[]) #[Enc.val v, Enc.val c]) (.bool (decide (v.kind = c.type_))) := by
  refine Gives.intro fun B' w K base h k => ?_
  refine call_v ?_
  refine intake_Intake_fits_2.up (v0 := v.v) (c1 := c.v) (intake_Intake_fits_2.call ?_)
  unfold intake_Intake_fits_2.pt
  refine h.box fun o w1 h => ?_
  refine h.box fun o2 w2 h => ?_
  have h : Rel B' w2 [cellD o T_api_Value v.cs.toArray, cellD o2 T_api_Col c.cs.toArray] := h
  simp -zeta only [field_addr f_api_Value_0, field_addr f_api_Col_1, Nat.add_zero, Nat.zero_add, h.ld 0 rfl sc_int (o := 0) rfl, h.ld 1 rfl sc_int (o := 1) rfl, bin_eql]
  exact k _ _ h
theorem equalKinds_g {u v : Value} {l : List ValD} {m : List ColD} (r : rowR u l B) (q : rowR v m B) (hl : l.length ≤ 4611686018427387904) : Gives Tryz.prog B (sCall F_slices_EqualFunc_s_api_Value_s_api_Col_api_Value_api_Col #[u, v, .func (.func F_intake_Intake_fits_2) #[] #[]]) (.bool (kindsFit l m)) := by
  refine Gives.intro fun B' w K base h k => ?_
  replace r := base r
  replace q := base q
  refine slices_EqualFunc_s_api_Value_s_api_Col_api_Value_api_Col.up (slices_EqualFunc_s_api_Value_s_api_Col_api_Value_api_Col.call ?_)
  unfold slices_EqualFunc_s_api_Value_s_api_Col_api_Value_api_Col.pt
  have no : ∀ w' τ, Rel B' w' τ → l.map (·.kind) ≠ m.map (·.type_) → K (.bool false) w' := fun w' τ h hn => by
    rw [show kindsFit l m = false from decide_eq_false hn] at k
    exact k _ _ h
  simp -zeta only [rowR.len r sl_s_api_Value, rowR.len q sl_s_api_Col, bin_neq, ifB_not, ifB_dec]
  refine ⟨fun he => ?_, fun hne => no _ _ h fun hh => hne (by have := congrArg List.length hh; rw [List.length_map, List.length_map] at this; rw [this])⟩
  refine LOOP_intro (fun x w' => ∃ i : Nat, i ≤ l.length ∧ x = (.int .i64 i, ()) ∧ (∀ j (h1 : j < l.length) (h2 : j < m.length), j < i → l[j].kind = m[j].type_) ∧ Rel B' w' []) (fun x _ => l.length - (match x.1 with | .int _ n => n.toNat | _ => 0))
    ⟨0, Nat.zero_le _, rfl, fun j _ _ hj => absurd hj (Nat.not_lt_zero j), h⟩ ?_
  clear h
  rintro x w1 ⟨i, hi, rfl, hin, h⟩ next hnext
  simp -zeta only [bin_lss, ifB_dec]
  refine ⟨fun hlt => ?_, fun hge => ?_⟩
  · have hil : i < l.length := by omega
    have him : i < m.length := by omega
    obtain ⟨g, o, hx, hc⟩ := rowR.idx r sl_s_api_Value (P := Tryz.prog) hil
    obtain ⟨g2, o2, hx2, hc2⟩ := rowR.idx q sl_s_api_Col (P := Tryz.prog) him
    have hc : cellsR g o l[i].cs B' := hc
    have hc2 : cellsR g2 o2 m[i].cs B' := hc2
    rw [hx, cellsR.ldAg (h.hereB hc) ag_api_Value rfl]
    refine h.allocAg (ds := l[i].cs.toArray) z_api_Value rfl ag_api_Value rfl (fun v hv => Enc.one l[i] v hv) fun a w3 h => ?_
    rw [hx2, cellsR.ldAg (h.hereB hc2) ag_api_Col rfl]
    refine h.allocAg (ds := m[i].cs.toArray) z_api_Col rfl ag_api_Col rfl (fun v hv => Enc.one m[i] v hv) fun a2 w5 h => ?_
    have h : Rel B' w5 [cellD a T_api_Value l[i].cs.toArray, cellD a2 T_api_Col m[i].cs.toArray] := h
    rw [h.ldAg 0 rfl ag_api_Value rfl, h.ldAg 1 rfl ag_api_Col rfl]
    refine h.ask (fun B2 own base2 => fits2_g l[i] m[i]) fun w6 h => ?_
    rw [un_not, ifB_not, ifB_dec]
    refine ⟨fun c => ?_, fun c => no _ _ h fun hh => c ?_⟩
    · rw [bin_add, wrap_id (by omega) (by omega)]
      refine hnext _ _ ⟨i + 1, hil, rfl, fun j h1 h2 hj => ?_, h.nil⟩ (by simp only; omega)
      by_cases e : j = i
      · subst e; exact c
      · exact hin j h1 h2 (by omega)
    · have h1 : (l.map (·.kind))[i]'(by rw [List.length_map]; exact hil) = (m.map (·.type_))[i]'(by rw [List.length_map]; exact him) := by simp only [hh]
      simpa using h1
  · have : l.map (·.kind) = m.map (·.type_) := List.ext_getElem (by rw [List.length_map, List.length_map]; omega) fun j h1 h2 => by
      rw [List.length_map] at h1 h2
      simp only [List.getElem_map]
      exact hin j h1 h2 (by omega)
    rw [show kindsFit l m = true from decide_eq_true this] at k
    exact k _ _ h
end
end Go.Proofs.YtefinemhfgdpdaaGreatDoor
/-
  Intake: a partition in memory; its readers; what is refused; raise. No condition.
-/
namespace Go.Proofs.YtefinemhfgdpdaaGreatDoor
open Go.RowKit
set_option maxRecDepth 100000

theorem kIntI : KeyTy Tryz.prog T_int Int := KeyTy.int U_int
abbrev CfD := D_api_Config
structure IS where
  cfg : CfD
  known : List Kn
  now : Int
  top : Int
  next : Int
  refused : Int
  prods : List Pr
  cnt : Int → Int
structure CntOk (cnt : Int → Int) (l : List (Ent Int Int)) (c : Nat) : Prop where
  wf : WfE l c
  get : ∀ t, getE t l = if cnt t = 0 then none else some (cnt t)
theorem CntOk.getD {cnt : Int → Int} {l : List (Ent Int Int)} {c : Nat} (h : CntOk cnt l c) (t : Int) : (getE t l).getD 0 = cnt t := by
  rw [h.get]
  split
  · rename_i h; exact h.symm
  · rfl
structure RightC (c : CfD) : Prop where
  late : 0 ≤ c.late ∧ c.late ≤ 10000
  delay : 0 ≤ c.delay ∧ c.delay ≤ c.late
  ahead : 0 ≤ c.ahead ∧ c.ahead ≤ 10000
  rate : 1 ≤ c.rate ∧ c.rate ≤ 20
structure GoodIS (s : IS) : Prop where
  cfg : RightC s.cfg
  prods : RightT s.prods
  now : 0 ≤ s.now ∧ s.now ≤ 1099511627776
  top : -1 ≤ s.top ∧ s.top ≤ 1099511627776
  next : 0 ≤ s.next ∧ s.next ≤ 1000000000
  refused : 0 ≤ s.refused ∧ s.refused ≤ 1000000000
  cnt : ∀ t, 0 ≤ s.cnt t ∧ s.cnt t ≤ s.cfg.rate
def closedS (s : IS) : Int := max (-1) (s.top - s.cfg.late - 1)
def markS (s : IS) : Int := max (-1) (s.top - s.cfg.delay - 1)
def raiseS (s : IS) (t : Int) : IS := { s with top := max s.top t, cnt := fun x => if x ≤ closedS { s with top := max s.top t } then 0 else s.cnt x }
def timeOk (t : Int) : Prop := 0 ≤ t ∧ t ≤ 1099511627776
instance (t : Int) : Decidable (timeOk t) := by unfold timeOk; infer_instance
def putI (s : IS) (e : EnD) (r : List ValD) : Int × Int :=
  if (lookS s.prods e.producer e.epoch e.seq).2 ≠ 0 then lookS s.prods e.producer e.epoch e.seq else if ¬ timeOk e.time then (0, 3) else if fitsS s.known e.source e.schema r ≠ 0 then (0, fitsS s.known e.source e.schema r)
  else if e.time ≤ closedS s then (0, 20) else if s.now + s.cfg.ahead < e.time then (0, 21) else if s.cfg.rate ≤ s.cnt e.time then (0, 22) else (s.next, 0)

abbrev ics (s : IS) (kv pv : SV) (m : Nat) : Array Value := #[.int .i64 s.cfg.parts, .int .i64 s.cfg.delay, .int .i64 s.cfg.late, .int .i64 s.cfg.ahead, .int .i64 s.cfg.rate, .int .i64 s.cfg.span, kv.1, .int .i64 s.now, .int .i64 s.top, .int .i64 s.next, .int .i64 s.refused, pv.1, mapV m]
abbrev IX := (SV × SV) × (Nat × List (Ent Int Int) × Nat)
abbrev iparts (p : Nat) (s : IS) (x : IX) : List Dat := [cellD p T_intake_Intake (ics s x.1.1 x.1.2 x.2.1), mapE x.2.1 x.2.2.1 x.2.2.2, knownD x.1.1.1 s.known, tabD x.1.2.1 s.prods]
def intD (p : Nat) (s : IS) : Dat := Dat.ex fun x : IX => (Dat.pure (CntOk s.cnt x.2.2.1 x.2.2.2)).and (stars (iparts p s x))
section
variable {B : Base} {w : World} {p : Nat} {s : IS}
theorem intD.open_ (h : Rel B w [intD p s]) : ∃ kv pv m l c, CntOk s.cnt l c ∧ Rel B w [cellD p T_intake_Intake (ics s kv pv m), mapE m l c, knownD kv.1 s.known, tabD pv.1 s.prods] := by
  obtain ⟨x, h⟩ := h.ex (i := 0) rfl
  obtain ⟨h1, h⟩ := h.pureAnd (i := 0) rfl
  have h := Rel.unstars (σ := []) (L := iparts p s x) h
  exact ⟨_, _, _, _, _, h1, h⟩
theorem intD.close {kv pv : SV} {m c : Nat} {l : List (Ent Int Int)} (hc : CntOk s.cnt l c) (h : Rel B w [cellD p T_intake_Intake (ics s kv pv m), mapE m l c, knownD kv.1 s.known, tabD pv.1 s.prods]) : Rel B w [intD p s] := by
  have h := Rel.restars (σ := []) h
  exact h.imp (i := 0) (e := intD p s) rfl fun B hB => ⟨((kv, pv), (m, l, c)), hc, hB⟩
theorem intD.peek (h : intD p s B) : ∃ kv pv m l c, CntOk s.cnt l c ∧ cellD p T_intake_Intake (ics s kv pv m) B ∧ mapE m l c B ∧ knownD kv.1 s.known B ∧ tabD pv.1 s.prods B := by
  obtain ⟨x, h1, h3⟩ := h
  exact ⟨_, _, _, _, _, h1, Dat.star.left h3, Dat.star.left (Dat.star.right h3), Dat.star.left (Dat.star.right (Dat.star.right h3)), Dat.star.left (Dat.star.right (Dat.star.right (Dat.star.right h3)))⟩
abbrev ptrI (p : Nat) : Value := .pointer (some ⟨p, 0, none⟩)
theorem iNow_g (hI : intD p s B) : Gives Tryz.prog B (sCall F_intake_Intake_Now #[ptrI p]) (.int .i64 s.now) := by
  refine Gives.intro fun B' w K base h k => ?_
  obtain ⟨kv, pv, m, l, c, _, hc, _⟩ := intD.peek (base hI)
  refine intake_Intake_Now.up (intake_Intake_Now.call ?_)
  unfold intake_Intake_Now.pt
  simp -zeta only [nil_ptr, field_addr f_intake_Intake_2, Nat.zero_add, cellD.ld (h.hereB hc) sc_int (o := 7) rfl]
  exact k _ _ h
theorem iTop_g (hI : intD p s B) : Gives Tryz.prog B (sCall F_intake_Intake_Top #[ptrI p]) (.int .i64 s.top) := by
  refine Gives.intro fun B' w K base h k => ?_
  obtain ⟨kv, pv, m, l, c, _, hc, _⟩ := intD.peek (base hI)
  refine intake_Intake_Top.up (intake_Intake_Top.call ?_)
  unfold intake_Intake_Top.pt
  simp -zeta only [nil_ptr, field_addr f_intake_Intake_3, Nat.zero_add, cellD.ld (h.hereB hc) sc_int (o := 8) rfl]
  exact k _ _ h
theorem iNext_g (hI : intD p s B) : Gives Tryz.prog B (sCall F_intake_Intake_Next #[ptrI p]) (.int .i64 s.next) := by
  refine Gives.intro fun B' w K base h k => ?_
  obtain ⟨kv, pv, m, l, c, _, hc, _⟩ := intD.peek (base hI)
  refine intake_Intake_Next.up (intake_Intake_Next.call ?_)
  unfold intake_Intake_Next.pt
  simp -zeta only [nil_ptr, field_addr f_intake_Intake_4, Nat.zero_add, cellD.ld (h.hereB hc) sc_int (o := 9) rfl]
  exact k _ _ h
theorem iRefused_g (hI : intD p s B) : Gives Tryz.prog B (sCall F_intake_Intake_Refused #[ptrI p]) (.int .i64 s.refused) := by
  refine Gives.intro fun B' w K base h k => ?_
  obtain ⟨kv, pv, m, l, c, _, hc, _⟩ := intD.peek (base hI)
  refine intake_Intake_Refused.up (intake_Intake_Refused.call ?_)
  unfold intake_Intake_Refused.pt
  simp -zeta only [nil_ptr, field_addr f_intake_Intake_5, Nat.zero_add, cellD.ld (h.hereB hc) sc_int (o := 10) rfl]
  exact k _ _ h
theorem iClosed_c {kv pv : SV} {m : Nat} (hc : cellD p T_intake_Intake (ics s kv pv m) B) (hg : RightC s.cfg) (ht : -1 ≤ s.top ∧ s.top ≤ 1099511627776) : Gives Tryz.prog B (sCall F_intake_Intake_Closed #[ptrI p]) (.int .i64 (closedS s)) := by
  refine Gives.intro fun B' w K base h k => ?_
  replace hc := base hc
  refine intake_Intake_Closed.up (intake_Intake_Closed.call ?_)
  unfold intake_Intake_Closed.pt
  have h := h.tick
  have h1 := hg.late
  simp -zeta only [nil_ptr, field_addr f_intake_Intake_3, field_addr f_intake_Intake_0, field_addr f_api_Config_2, Nat.zero_add, cellD.ld (h.hereB hc) sc_int (o := 8) rfl, cellD.ld (h.hereB hc) sc_int (o := 2) rfl, bin_sub, blt_max]
  rw [wrap_id (n := s.top - s.cfg.late) (by omega) (by omega), wrap_id (by omega) (by omega)]
  exact k _ _ h
theorem iClosed_g (hI : intD p s B) (hg : GoodIS s) : Gives Tryz.prog B (sCall F_intake_Intake_Closed #[ptrI p]) (.int .i64 (closedS s)) := by
  obtain ⟨kv, pv, m, l, c, _, hc, _⟩ := intD.peek hI
  exact iClosed_c hc hg.cfg hg.top
theorem iMark_g (hI : intD p s B) (hg : GoodIS s) : Gives Tryz.prog B (sCall F_intake_Intake_Mark #[ptrI p]) (.int .i64 (markS s)) := by
  refine Gives.intro fun B' w K base h k => ?_
  obtain ⟨kv, pv, m, l, c, _, hc, _⟩ := intD.peek (base hI)
  refine intake_Intake_Mark.up (intake_Intake_Mark.call ?_)
  unfold intake_Intake_Mark.pt
  have h := h.tick
  have h1 := hg.cfg.late
  have h2 := hg.cfg.delay
  have h3 := hg.top
  simp -zeta only [nil_ptr, field_addr f_intake_Intake_3, field_addr f_intake_Intake_0, field_addr f_api_Config_1, Nat.zero_add, cellD.ld (h.hereB hc) sc_int (o := 8) rfl, cellD.ld (h.hereB hc) sc_int (o := 1) rfl, bin_sub, blt_max]
  rw [wrap_id (n := s.top - s.cfg.delay) (by omega) (by omega), wrap_id (by omega) (by omega)]
  exact k _ _ h
theorem iCount_g (hI : intD p s B) (t : Int) : Gives Tryz.prog B (sCall F_intake_Intake_Count #[ptrI p, .int .i64 t]) (.int .i64 (s.cnt t)) := by
  refine Gives.intro fun B' w K base h k => ?_
  obtain ⟨kv, pv, m, l, c, hk, hc, hm, _⟩ := intD.peek (base hI)
  refine intake_Intake_Count.up (intake_Intake_Count.call ?_)
  unfold intake_Intake_Count.pt
  simp -zeta only [nil_ptr, field_addr f_intake_Intake_7, Nat.zero_add, cellD.ld (h.hereB hc) sc_map_int_int (o := 12) rfl]
  rw [mapE.look (h.hereB hm) U_map_int_int kIntI 0 z_int t, hk.getD]
  exact k _ _ h
theorem isTime_g (t : Int) : Gives Tryz.prog B (sCall F_intake_isTime #[.int .i64 t]) (.bool (decide (timeOk t))) := by
  refine Gives.intro fun B' w K base h k => ?_
  refine intake_isTime.up (intake_isTime.call ?_)
  unfold intake_isTime.pt
  refine h.ask (v := .bool (decide (timeOk t))) (fun B2 own base2 => ?_) fun w1 h => k _ _ h
  refine Gives.intro fun B3 w K base3 h k => ?_
  refine intake_between.up (intake_between.call ?_)
  unfold intake_between.pt
  simp -zeta only [bin_geq, bin_leq, ifB_dec]
  refine ⟨fun c => ?_, fun c => ?_⟩
  · have e : decide (timeOk t) = decide (t ≤ 1099511627776) := decide_eq_decide.2 ⟨fun hh => hh.2, fun hh => ⟨c, hh⟩⟩
    rw [e] at k
    exact k _ _ h
  · rw [decide_eq_false (fun hh : timeOk t => c hh.1)] at k
    exact k _ _ h
theorem fitsI_c {kv pv : SV} {m : Nat} (hc : cellD p T_intake_Intake (ics s kv pv m) B) (hkn : knownD kv.1 s.known B) {en : EnD} {r : List ValD} (hr : rowR en.row.1 r B) (hrl : r.length ≤ 4611686018427387904) (hkl : s.known.length ≤ 4611686018427387904) :
    Gives Tryz.prog B (sCall F_intake_Intake_fits #[ptrI p, en.v]) (.int .i64 (fitsS s.known en.source en.schema r)) := by
  refine Gives.intro fun B' w K base h k => ?_
  replace hc := base hc
  replace hr := base hr
  obtain ⟨L, hL, rk, rc⟩ := base hkn
  have hal : (kraws L).length = L.length := List.length_map ..
  have hll : L.length ≤ 4611686018427387904 := by rw [← hL, List.length_map] at hkl; exact hkl
  refine intake_Intake_fits.up (intake_Intake_fits.call ?_)
  unfold intake_Intake_fits.pt
  refine h.box fun o w1 h => ?_
  have h : Rel B' w1 [cellD o T_api_Entry en.cs.toArray] := h
  simp -zeta only [nil_ptr, field_addr f_intake_Intake_1, Nat.zero_add, cellD.ld (h.hereB hc) sc_s_api_Known (o := 6) rfl, mk_func]
  refine h.ask (fun B2 own base2 => gslices_IndexFunc_s_api_Known_api_Known (base2 rk) (by omega) (fun x => decide (x.source = en.source) && decide (x.schema = en.schema)) fun B3 base3 x _ => fits1_g (base3 (own (i := 0) rfl)) x) fun w2 h => ?_
  have h := h
  have ht := h.tick
  unfold fitsS at k
  rcases idx_cases (fun x : KnD => decide (x.source = en.source) && decide (x.schema = en.schema)) (kraws L) with ⟨hi, hno⟩ | ⟨i, hi, hil, hat, hno⟩
  · rw [hi, bin_lss, decide_eq_true (by decide), ifB_true]
    have hf : s.known.find? (knOf en.source en.schema) = none := by
      rw [List.find?_eq_none, ← hL]
      intro x hx
      obtain ⟨y, hy, rfl⟩ := List.mem_map.1 hx
      have := hno (y.1.raw y.2) (List.mem_map_of_mem hy)
      simpa [knOf] using this
    rw [hf] at k
    exact k _ _ h
  · rw [hi, bin_lss, decide_eq_false (by omega), ifB_false]
    have hil' : i < L.length := by omega
    have hel : (kraws L)[i] = L[i].1.raw L[i].2 := by simp [kraws]
    have hf : s.known.find? (knOf en.source en.schema) = some L[i].1 := by
      rw [← hL, List.find?_eq_some_iff_getElem]
      rw [hel] at hat
      refine ⟨hat, i, by rw [List.length_map]; exact hil', by simp, fun j hj => ?_⟩
      have := hno ((kraws L)[j]'(by omega)) (List.mem_take_iff_getElem.2 ⟨j, by omega, rfl⟩)
      have hel2 : (kraws L)[j]'(by omega) = (L[j]'(by omega)).1.raw (L[j]'(by omega)).2 := by simp [kraws]
      rw [hel2] at this
      have this : knOf en.source en.schema (L[j]'(by omega)).1 = false := this
      simp [this]
    rw [hf] at k
    obtain ⟨g, oo, hx, hcc⟩ := rowR.idx rk sl_s_api_Known (P := Tryz.prog) (i := i) hil
    rw [hel] at hcc
    have hcc : cellsR g oo (L[i].1.raw L[i].2).cs B' := hcc
    have hcol : rowR L[i].2.1 L[i].1.cols B' := rc L[i] (List.getElem_mem hil')
    simp -zeta only [field_addr f_api_Entry_7, Nat.zero_add, ht.ld 0 rfl sc_s_api_Value (o := 7) rfl, cellD.ld (ht.hereB hc) sc_s_api_Known (o := 6) rfl, hx, field_addr f_api_Known_2, cellsR.ld (ht.hereB hcc) sc_s_api_Col (j := 2) rfl]
    refine ht.ask (fun B2 own base2 => equalKinds_g (base2 hr) (base2 hcol) hrl) fun w3 h => ?_
    simp only at k
    rw [un_not, ifB_not, ifB_bool]
    refine ⟨fun c1 => ?_, fun c1 => ?_⟩
    · simp -zeta only [h.ld 0 rfl sc_s_api_Value (o := 7) rfl]
      refine h.ask (fun B2 own base2 => rowRight_g (base2 hr) hrl) fun w4 h => ?_
      rw [un_not, ifB_not, ifB_bool]
      refine ⟨fun c2 => ?_, fun c2 => ?_⟩
      · rw [if_pos ⟨c1, c2⟩] at k; exact k _ _ h
      · rw [if_neg (fun hh => by rw [c2] at hh; cases hh.2)] at k; exact k _ _ h
    · rw [if_neg (fun hh => by rw [c1] at hh; cases hh.1)] at k; exact k _ _ h
theorem putI_g (hI : intD p s B) (hg : GoodIS s) {en : EnD} {r : List ValD} (hr : rowR en.row.1 r B) (hrl : r.length ≤ 4611686018427387904) (hkl : s.known.length ≤ 4611686018427387904) :
    Gives Tryz.prog B (sCall F_intake_Intake_put #[ptrI p, en.v]) (.tuple #[.int .i64 (putI s en r).1, .int .i64 (putI s en r).2]) := by
  refine Gives.intro fun B' w K base h k => ?_
  obtain ⟨kv, pv, m, l, c, hk, hc, hm, hkn, L, hL, rt, qt⟩ := intD.peek (base hI)
  replace hr := base hr
  refine intake_Intake_put.up (intake_Intake_put.call ?_)
  unfold intake_Intake_put.pt
  have fin : ∀ (x : Int × Int) w' τ, putI s en r = x → Rel B' w' τ → K (.tuple #[.int .i64 x.1, .int .i64 x.2]) w' := fun x w' τ e h => by rw [e] at k; exact k _ _ h
  clear k
  unfold putI at fin
  have hR : RightT (prs L) := by rw [hL]; exact hg.prods
  refine h.box fun o w1 h => ?_
  have h : Rel B' w1 [cellD o T_api_Entry en.cs.toArray] := h
  have h := h.tick
  simp -zeta only [nil_ptr, field_addr f_intake_Intake_6, Nat.zero_add, cellD.ld (h.hereB hc) sc_s_api_Producer (o := 11) rfl, h.ldAg 0 rfl ag_api_Entry rfl]
  refine h.ask (fun B2 own base2 => Look_g (base2 rt) (base2 qt) hR en) fun w2 h => ?_
  rw [hL]
  simp -zeta only [ext_2_0, ext_2_1, bin_neq, ifB_not, ifB_dec]
  refine ⟨fun c0 => ?_, fun c0 => fin _ _ _ (by rw [if_pos c0]) h⟩
  simp -zeta only [field_addr f_api_Entry_6, Nat.zero_add, h.ld 0 rfl sc_int (o := 6) rfl]
  refine h.ask (fun B2 own base2 => isTime_g en.time) fun w3 h => ?_
  rw [un_not, ifB_not, ifB_dec]
  refine ⟨fun c1 => ?_, fun c1 => fin (0, 3) _ _ (by rw [if_neg (fun hh => hh c0), if_pos c1]) h⟩
  rw [h.ldAg 0 rfl ag_api_Entry rfl]
  refine h.ask (fun B2 own base2 => fitsI_c (base2 hc) (base2 hkn) (base2 hr) hrl hkl) fun w4 h => ?_
  rw [bin_neq, ifB_not, ifB_dec]
  refine ⟨fun c2 => ?_, fun c2 => fin (0, fitsS s.known en.source en.schema r) _ _ (by rw [if_neg (fun hh => hh c0), if_neg (fun hh => hh c1), if_pos c2]) h⟩
  have h := h.tick
  simp -zeta only [h.ld 0 rfl sc_int (o := 6) rfl]
  refine h.ask (fun B2 own base2 => iClosed_c (base2 hc) hg.cfg hg.top) fun w5 h => ?_
  refine ⟨h.is 0 rfl sc_int (o := 6) rfl, ?_⟩
  rw [bin_leq, ifB_dec]
  refine ⟨fun c3 => fin (0, 20) _ _ (by rw [if_neg (fun hh => hh c0), if_neg (fun hh => hh c1), if_neg (fun hh => hh c2), if_pos c3]) h, fun c3 => ?_⟩
  have h := h.tick
  have hn := hg.now
  have ha := hg.cfg.ahead
  have hw : IntKind.i64.wrap (s.now + s.cfg.ahead) = s.now + s.cfg.ahead := wrap_id (by omega) (by omega)
  simp -zeta only [h.ld 0 rfl sc_int (o := 6) rfl, nil_ptr, field_addr f_intake_Intake_2, field_addr f_intake_Intake_0, field_addr f_api_Config_3, Nat.zero_add, cellD.ld (h.hereB hc) sc_int (o := 7) rfl, cellD.ld (h.hereB hc) sc_int (o := 3) rfl, bin_add, hw, bin_gtr, ifB_dec]
  refine ⟨fun c4 => fin (0, 21) _ _ (by rw [if_neg (fun hh => hh c0), if_neg (fun hh => hh c1), if_neg (fun hh => hh c2), if_neg c3, if_pos c4]) h, fun c4 => ?_⟩
  have h := h.tick
  simp -zeta only [h.ld 0 rfl sc_int (o := 6) rfl, field_addr f_intake_Intake_7, field_addr f_intake_Intake_4, field_addr f_api_Config_4, Nat.zero_add, cellD.ld (h.hereB hc) sc_map_int_int (o := 12) rfl, cellD.ld (h.hereB hc) sc_int (o := 4) rfl, cellD.ld (h.hereB hc) sc_int (o := 9) rfl]
  rw [mapE.look (h.hereB hm) U_map_int_int kIntI 0 z_int en.time, hk.getD, show (Enc.val (s.cnt en.time) : Value) = .int .i64 (s.cnt en.time) from rfl, bin_geq, ifB_dec]
  refine ⟨fun c5 => fin (0, 22) _ _ (by rw [if_neg (fun hh => hh c0), if_neg (fun hh => hh c1), if_neg (fun hh => hh c2), if_neg c3, if_neg c4, if_pos c5]) h, fun c5 => ?_⟩
  exact fin (s.next, 0) _ _ (by rw [if_neg (fun hh => hh c0), if_neg (fun hh => hh c1), if_neg (fun hh => hh c2), if_neg c3, if_neg c4, if_neg c5]) h

theorem deleteI_d {m c : Nat} {l : List (Ent Int Int)} (hw : WfE l c) {fv : Value} (q : Int → Bool) (hf : ∀ B' : Base, (∀ {d : Dat}, d B → d B') → ∀ e ∈ l, Gives Tryz.prog B' (sCallV fv #[Enc.val e.1, Enc.val e.2.1]) (.bool (q e.1))) :
    Does Tryz.prog B (mapE m l c) (sCall F_maps_DeleteFunc_map_int_int_int_int #[mapV m, fv]) fun v e' τ => v = .tuple #[] ∧ e' = mapE m (l.filter fun e => !q e.1) c ∧ τ = [] := by
  refine Does.intro fun B' w K base h k => ?_
  refine maps_DeleteFunc_map_int_int_int_int.up (maps_DeleteFunc_map_int_int_int_int.call ?_)
  unfold maps_DeleteFunc_map_int_int_int_int.pt
  refine h.range 0 rfl U_map_int_int fun it w1 h => ?_
  have e0 : (l.filter fun e => !((#[] : Array Nat).contains e.2.2 && q e.1)) = l := List.filter_eq_self.2 fun e _ => by simp
  refine LOOP_intro (fun _ w' => ∃ seen : Array Nat, Rel B' w' [mapE m (l.filter fun e => !(seen.contains e.2.2 && q e.1)) c, iterE it m c seen c]) (fun _ w' => unseenE l (seenOf w' it)) ⟨#[], by rw [e0]; exact h⟩ ?_
  clear h
  rintro x w2 ⟨seen, h⟩ next hnext
  have hms := seenOf_eq h (j := 1) rfl
  have hwf := hw.filter fun e => !(seen.contains e.2.2 && q e.1)
  refine h.next 0 1 it rfl rfl hwf.below (fun w3 hall h => ?_) (fun e w3 he hns h => ?_)
  · rw [show (sExtract (.tuple #[.bool false]) 0) = (sExtract (.tuple #[.bool false]) 0) from rfl, pureK_eq (v := .bool false) (fun w => rfl), ifB_false]
    have e1 : (l.filter fun e => !(seen.contains e.2.2 && q e.1)) = l.filter fun e => !q e.1 := by
      refine List.filter_congr fun e he => ?_
      cases hb : !(seen.contains e.2.2 && q e.1) with
      | true =>
        have := hall e (List.mem_filter.2 ⟨he, hb⟩)
        rw [this] at hb
        simpa using hb.symm
      | false =>
        simp at hb
        rw [hb.2]; rfl
    rw [e1] at h
    exact k _ _ [] _ ⟨rfl, rfl, rfl⟩ (h.take 1)
  · have hel : e ∈ l := (List.mem_filter.1 he).1
    rw [ext_3_0, ifB_true]
    refine h.entry 0 1 it rfl rfl he hwf.stamps fun w4 h => ?_
    rw [ext_2_0, ext_2_1]
    refine h.ask (fun B2 own base2 => hf B2 (fun hd => base2 (base hd)) e hel) fun w6 h => ?_
    have step : ∀ x ∈ l, x ≠ e → (seen.push e.2.2).contains x.2.2 = seen.contains x.2.2 := fun x hx hne => by
      rw [contains_push, decide_eq_false fun hh => hne (hw.eq_of_stamp hx hel hh), Bool.or_false]
    have hself : (seen.push e.2.2).contains e.2.2 = true := by simp [contains_push]
    rw [ifB_bool]
    refine ⟨fun hp => ?_, fun hp => ?_⟩
    · refine h.delete 0 rfl U_map_int_int kIntI e.1 fun w7 h => ?_
      have e2 : delE e.1 (l.filter fun e => !(seen.contains e.2.2 && q e.1)) = l.filter fun x => !((seen.push e.2.2).contains x.2.2 && q x.1) := by
        rw [delE_eq hwf.keys, List.filter_filter]
        refine List.filter_congr fun x hx => ?_
        by_cases hxe : x = e
        · subst hxe; rw [hself, hp]; simp
        · rw [step x hx hxe, decide_eq_true (p := x.1 ≠ e.1) (fun hh => hxe (hw.eq_of_key hx hel hh)), Bool.true_and]
      rw [e2] at h
      refine hnext _ _ ⟨_, h⟩ ?_
      show unseenE l (seenOf w7 it) < unseenE l (seenOf w2 it)
      rw [hms, seenOf_eq h (j := 1) rfl]
      exact unseen_push hel hns
    · have e2 : (l.filter fun e => !(seen.contains e.2.2 && q e.1)) = l.filter fun x => !((seen.push e.2.2).contains x.2.2 && q x.1) := by
        refine List.filter_congr fun x hx => ?_
        by_cases hxe : x = e
        · subst hxe; rw [hself, hp]; simp
        · rw [step x hx hxe]
      rw [e2] at h
      refine hnext _ _ ⟨_, h⟩ ?_
      show unseenE l (seenOf w6 it) < unseenE l (seenOf w2 it)
      rw [hms, seenOf_eq h (j := 1) rfl]
      exact unseen_push hel hns
theorem raise1_g {b : Nat} {c t n : Int} (hc : cellD b T_int #[.int .i64 c] B) : Gives Tryz.prog B (sCallV (.func (.func F_intake_Intake_raise_1) #[] #[.pointer (some ⟨b, 0, none⟩)]) #[.int .i64 t, .int .i64 n]) (.bool (decide (t ≤ c))) := by
  refine Gives.intro fun B' w K base h k => ?_
  replace hc := base hc
  refine call_v ?_
  refine intake_Intake_raise_1.up (time0 := .int .i64 t) (t1 := .int .i64 n) (t2 := .pointer (some ⟨b, 0, none⟩)) (intake_Intake_raise_1.call ?_)
  unfold intake_Intake_raise_1.pt
  simp -zeta only [cellD.ld (h.hereB hc) sc_int (o := 0) rfl, bin_leq]
  exact k _ _ h
theorem CntOk.raise {cnt : Int → Int} {l : List (Ent Int Int)} {c : Nat} (h : CntOk cnt l c) (z : Int) : CntOk (fun x => if x ≤ z then 0 else cnt x) (l.filter fun e => !decide (e.1 ≤ z)) c := by
  refine ⟨h.wf.filter _, fun t => ?_⟩
  rw [filter_get h.wf (fun x => !decide (x ≤ z)) t, h.get]
  by_cases ht : t ≤ z
  · simp [ht]
  · simp [ht]
/-- raise, over the parts. -/
theorem raise_r {kv pv : SV} {m c : Nat} {l : List (Ent Int Int)} {K : Value → World → Prop} {D1 D2 : Dat} (hc : CntOk s.cnt l c) (hg : RightC s.cfg) (ht0 : -1 ≤ s.top ∧ s.top ≤ 1099511627776) {t : Int} (ht : timeOk t)
    (h : Rel B w [cellD p T_intake_Intake (ics s kv pv m), mapE m l c, D1, D2])
    (k : ∀ w' l', CntOk (raiseS s t).cnt l' c → Rel B w' [cellD p T_intake_Intake (ics (raiseS s t) kv pv m), mapE m l' c, D1, D2] → K (.tuple #[]) w') : upK Tryz.prog (sCall F_intake_Intake_raise #[ptrI p, .int .i64 t]) w K := by
  obtain ⟨ht1, ht2⟩ := ht
  refine intake_Intake_raise.up (intake_Intake_raise.call ?_)
  unfold intake_Intake_raise.pt
  simp -zeta only [nil_ptr, field_addr f_intake_Intake_3, Nat.zero_add, h.ld 0 rfl sc_int (o := 8) rfl, blt_max]
  refine h.st 0 rfl sc_int (show 8 < 13 by omega) rfl fun w1 h => ?_
  have h : Rel B w1 [cellD p T_intake_Intake (ics { s with top := max s.top t } kv pv m), mapE m l c, D1, D2] := h
  refine h.ask (fun B2 own base2 => iClosed_c (s := { s with top := max s.top t }) (own (i := 0) rfl) hg (by show -1 ≤ max s.top t ∧ max s.top t ≤ 1099511627776; omega)) fun w2 h => ?_
  refine h.alloc z_int fun b w3 h => ?_
  refine h.st 4 rfl sc_int (show 0 < 1 by omega) rfl fun w4 h => ?_
  have h : Rel B w4 [cellD p T_intake_Intake (ics { s with top := max s.top t } kv pv m), mapE m l c, D1, D2, cellD b T_int #[.int .i64 (closedS { s with top := max s.top t })]] := h
  simp -zeta only [field_addr f_intake_Intake_7, Nat.zero_add, h.ld 0 rfl sc_map_int_int (o := 12) rfl, mk_func]
  refine h.act 1 rfl (fun B2 own base2 => deleteI_d hc.wf (fun x => decide (x ≤ closedS { s with top := max s.top t })) fun B3 base3 e _ => raise1_g (base3 (own (j := 4) (by decide) rfl))) fun v e' τ w5 hp h => ?_
  obtain ⟨rfl, rfl, rfl⟩ := hp
  exact k _ _ (hc.raise _) ((h.take 4))
end
end Go.Proofs.YtefinemhfgdpdaaGreatDoor
/-
  Intake: Apply. No condition.
-/
namespace Go.Proofs.YtefinemhfgdpdaaGreatDoor
open Go.RowKit
set_option maxRecDepth 100000

def acceptS (s : IS) (e : EnD) (r : List ValD) : (Int × Int) × IS :=
  let x := putI s e r
  if x.2 ≠ 0 then (x, if x.2 ≠ 5 then { s with refused := s.refused + 1 } else s)
  else (x, raiseS { s with prods := putS s.prods e.producer e.epoch e.seq x.1, next := s.next + 1, cnt := fun t => if t = e.time then s.cnt e.time + 1 else s.cnt t } e.time)
def applyS (s : IS) (e : EnD) (r : List ValD) : (Int × Int) × IS :=
  if e.kind = 0 then acceptS s e r
  else if e.kind = 1 then (((fenceS s.prods e.producer).2.1, (fenceS s.prods e.producer).2.2), if (fenceS s.prods e.producer).2.2 = 0 then { s with prods := (fenceS s.prods e.producer).1 } else s)
  else if e.kind = 2 ∨ e.kind = 3 then
    if ¬ timeOk e.time then ((0, 3), s) else if e.kind = 3 then ((0, 0), { s with now := max s.now e.time }) else if s.now + s.cfg.ahead < e.time then ((0, 21), s) else ((0, 0), raiseS s e.time)
  else ((0, 1), s)
theorem putI_ok {s : IS} {e : EnD} {r : List ValD} (h : (putI s e r).2 = 0) : (lookS s.prods e.producer e.epoch e.seq).2 = 0 ∧ timeOk e.time ∧ fitsS s.known e.source e.schema r = 0 ∧ closedS s < e.time ∧ e.time ≤ s.now + s.cfg.ahead ∧ s.cnt e.time < s.cfg.rate ∧ (putI s e r).1 = s.next := by
  unfold putI at h ⊢
  by_cases c0 : (lookS s.prods e.producer e.epoch e.seq).2 ≠ 0
  · rw [if_pos c0] at h; exact absurd h c0
  rw [if_neg c0] at h ⊢
  by_cases c1 : ¬ timeOk e.time
  · rw [if_pos c1] at h; cases h
  rw [if_neg c1] at h ⊢
  by_cases c2 : fitsS s.known e.source e.schema r ≠ 0
  · rw [if_pos c2] at h; exact absurd h c2
  rw [if_neg c2] at h ⊢
  by_cases c3 : e.time ≤ closedS s
  · rw [if_pos c3] at h; cases h
  rw [if_neg c3] at h ⊢
  by_cases c4 : s.now + s.cfg.ahead < e.time
  · rw [if_pos c4] at h; cases h
  rw [if_neg c4] at h ⊢
  by_cases c5 : s.cfg.rate ≤ s.cnt e.time
  · rw [if_pos c5] at h; cases h
  rw [if_neg c5]
  exact ⟨Decidable.of_not_not c0, Decidable.of_not_not c1, Decidable.of_not_not c2, by omega, by omega, by omega, rfl⟩
theorem raise_good {s : IS} {t : Int} (h : GoodIS s) (ht : timeOk t) : GoodIS (raiseS s t) := by
  obtain ⟨h1, h2⟩ := ht
  have h3 := h.top
  refine ⟨h.cfg, h.prods, h.now, ⟨by show -1 ≤ max s.top t; omega, by show max s.top t ≤ _; omega⟩, h.next, h.refused, fun x => ?_⟩
  show 0 ≤ (if _ then (0 : Int) else _) ∧ (if _ then (0 : Int) else _) ≤ _
  have := h.cfg.rate
  split
  · exact ⟨Int.le_refl 0, by show (0 : Int) ≤ s.cfg.rate; omega⟩
  · exact h.cnt x
theorem apply_good {s : IS} (h : GoodIS s) (e : EnD) (r : List ValD) (h1 : s.next < 1000000000) (h2 : s.refused < 1000000000) :
    GoodIS (applyS s e r).2 ∧ (applyS s e r).2.cfg = s.cfg ∧ (applyS s e r).2.known = s.known ∧ (applyS s e r).2.next ≤ s.next + 1 ∧ (applyS s e r).2.refused ≤ s.refused + 1 := by
  unfold applyS
  have hn := h.next
  have hf := h.refused
  have keep : GoodIS s ∧ s.cfg = s.cfg ∧ s.known = s.known ∧ s.next ≤ s.next + 1 ∧ s.refused ≤ s.refused + 1 := ⟨h, rfl, rfl, by omega, by omega⟩
  by_cases c0 : e.kind = 0
  · rw [if_pos c0]
    unfold acceptS
    simp only
    by_cases c : (putI s e r).2 ≠ 0
    · rw [if_pos c]
      simp only
      split
      · exact ⟨⟨h.cfg, h.prods, h.now, h.top, h.next, ⟨by show 0 ≤ s.refused + 1; omega, by show s.refused + 1 ≤ _; omega⟩, h.cnt⟩, rfl, rfl, by show s.next ≤ _; omega, Int.le_refl _⟩
      · exact keep
    · rw [if_neg c]
      obtain ⟨p1, p2, p3, p4, p5, p6, p7⟩ := putI_ok (Decidable.of_not_not c)
      refine ⟨raise_good ⟨h.cfg, put_right h.prods _ _ _ _, h.now, h.top, ⟨by show 0 ≤ s.next + 1; omega, by show s.next + 1 ≤ _; omega⟩, h.refused, fun t => ?_⟩ p2, rfl, rfl, Int.le_refl _, by show s.refused ≤ _; omega⟩
      show 0 ≤ (if t = e.time then s.cnt e.time + 1 else s.cnt t) ∧ (if t = e.time then s.cnt e.time + 1 else s.cnt t) ≤ s.cfg.rate
      have := h.cnt e.time
      split
      · omega
      · exact h.cnt t
  rw [if_neg c0]
  by_cases c1 : e.kind = 1
  · rw [if_pos c1]
    simp only
    split
    · rename_i hz
      exact ⟨⟨h.cfg, fence_right h.prods hz, h.now, h.top, h.next, h.refused, h.cnt⟩, rfl, rfl, by show s.next ≤ _; omega, by show s.refused ≤ _; omega⟩
    · exact keep
  rw [if_neg c1]
  split
  · split
    · exact keep
    · rename_i ht
      have ht := Decidable.of_not_not ht
      have h3 := h.now
      split
      · exact ⟨⟨h.cfg, h.prods, ⟨by show 0 ≤ max s.now e.time; omega, by show max s.now e.time ≤ _; have := ht.2; omega⟩, h.top, h.next, h.refused, h.cnt⟩, rfl, rfl, by show s.next ≤ _; omega, by show s.refused ≤ _; omega⟩
      · split
        · exact keep
        · exact ⟨raise_good h ht, rfl, rfl, by show s.next ≤ _; omega, by show s.refused ≤ _; omega⟩
  · exact keep

section
variable {B : Base} {w : World} {p : Nat} {s : IS} {σ : List Dat}
theorem intD.openL (h : Rel B w (σ ++ [intD p s])) : ∃ kv pv m l c, CntOk s.cnt l c ∧ Rel B w (σ ++ [cellD p T_intake_Intake (ics s kv pv m), mapE m l c, knownD kv.1 s.known, tabD pv.1 s.prods]) := by
  obtain ⟨x, h⟩ := h.ex (i := σ.length) get_last
  rw [List.set_append_right _ _ (Nat.le_refl _), Nat.sub_self, List.set_cons_zero] at h
  obtain ⟨h1, h⟩ := h.pureAnd (i := σ.length) get_last
  rw [List.set_append_right _ _ (Nat.le_refl _), Nat.sub_self, List.set_cons_zero] at h
  have h := Rel.unstars (L := iparts p s x) h
  exact ⟨_, _, _, _, _, h1, h⟩
theorem intD.closeL {kv pv : SV} {m c : Nat} {l : List (Ent Int Int)} (hc : CntOk s.cnt l c) (h : Rel B w (σ ++ [cellD p T_intake_Intake (ics s kv pv m), mapE m l c, knownD kv.1 s.known, tabD pv.1 s.prods])) : Rel B w (σ ++ [intD p s]) := by
  have h := Rel.restars h
  have h := h.imp (i := σ.length) (e := intD p s) get_last fun B hB => ⟨((kv, pv), (m, l, c)), hc, hB⟩
  rw [List.set_append_right _ _ (Nat.le_refl _), Nat.sub_self, List.set_cons_zero] at h
  exact h
theorem CntOk.incr {cnt : Int → Int} {l : List (Ent Int Int)} {c : Nat} (h : CntOk cnt l c) (h0 : ∀ t, 0 ≤ cnt t) (t : Int) : CntOk (fun x => if x = t then cnt t + 1 else cnt x) (setE t (cnt t + 1) l c).1 (setE t (cnt t + 1) l c).2 := by
  refine ⟨h.wf.set _ _, fun x => ?_⟩
  rw [setE_get h.wf.keys]
  by_cases hx : x = t
  · subst hx
    have := h0 x
    rw [if_pos rfl, if_pos rfl, if_neg (by omega)]
  · rw [if_neg hx, if_neg hx, h.get]
def iPost (p : Nat) (x : (Int × Int) × IS) : Value → Dat → List Dat → Prop := fun v e' τ => v = .tuple #[.int .i64 x.1.1, .int .i64 x.1.2] ∧ e' = intD p x.2 ∧ τ = []
theorem tabD.oneCell {u : Value} {t : List Pr} (h : tabD u t B) : u.oneCell' = true := by
  obtain ⟨L, _, r, _⟩ := h
  exact rowR.oneCell r
set_option maxHeartbeats 1000000 in
theorem accept_d (hg : GoodIS s) (h1 : s.next < 1000000000) (h2 : s.refused < 1000000000) {en : EnD} {r : List ValD} (hr : rowR en.row.1 r B) (hrl : r.length ≤ 4611686018427387904) (hkl : s.known.length ≤ 4611686018427387904) :
    Does Tryz.prog B (intD p s) (sCall F_intake_Intake_accept #[ptrI p, en.v]) (iPost p (acceptS s en r)) := by
  refine Does.intro fun B' w K base h k => ?_
  replace hr := base hr
  refine intake_Intake_accept.up (intake_Intake_accept.call ?_)
  unfold intake_Intake_accept.pt
  have fin : ∀ (x : (Int × Int) × IS) w' τ, acceptS s en r = x → Rel B' w' ([intD p x.2] ++ τ) → K (.tuple #[.int .i64 x.1.1, .int .i64 x.1.2]) w' := fun x w' τ e h => k _ _ [] w' ⟨by rw [e], by rw [e], rfl⟩ h.drop
  clear k
  unfold acceptS at fin
  simp only at fin
  refine h.box fun o w1 h => ?_
  have h : Rel B' w1 [intD p s, cellD o T_api_Entry en.cs.toArray] := h
  rw [h.ldAg 1 rfl ag_api_Entry rfl]
  refine h.ask (fun B2 own base2 => putI_g (own (i := 0) rfl) hg (base2 hr) hrl hkl) fun w2 h => ?_
  simp -zeta only [ext_2_0, ext_2_1, bin_neq, ifB_not, ifB_dec]
  have hn := hg.next
  have hf := hg.refused
  refine ⟨fun c => ?_, fun c => ?_⟩
  · rw [if_neg (fun hh => hh c)] at fin
    obtain ⟨p1, p2, p3, p4, p5, p6, p7⟩ := putI_ok c
    have h := h.tick
    have h := h.pick [1, 0] (by decide)
    have h : Rel B' (tick w2) ([cellD o T_api_Entry en.cs.toArray] ++ [intD p s]) := h
    obtain ⟨kv, pv, m, l, cc, hk, h⟩ := intD.openL h
    have h : Rel B' (tick w2) [cellD o T_api_Entry en.cs.toArray, cellD p T_intake_Intake (ics s kv pv m), mapE m l cc, knownD kv.1 s.known, tabD pv.1 s.prods] := h
    simp -zeta only [nil_ptr, field_addr f_intake_Intake_6, Nat.zero_add, h.ld 1 rfl sc_s_api_Producer (o := 11) rfl, h.ldAg 0 rfl ag_api_Entry rfl]
    refine h.make (post := fun u τ => OwnTab u (putS s.prods en.producer en.epoch en.seq (putI s en r).1) τ) (fun B2 own base2 => ?_) fun u τ w5 hp h => ?_
    · obtain ⟨L, hL, rt, qt⟩ : tabD pv.1 s.prods B2 := own (i := 4) rfl
      have := Put_o rt qt (by rw [hL]; exact hg.prods) en (putI s en r).1
      rw [hL] at this
      exact this
    have h := hp _ _ _ h
    generalize putI s en r = x at *
    have h : Rel B' w5 [cellD o T_api_Entry en.cs.toArray, cellD p T_intake_Intake (ics s kv pv m), mapE m l cc, knownD kv.1 s.known, tabD pv.1 s.prods, tabD u (putS s.prods en.producer en.epoch en.seq x.1)] := h
    have hu : u.oneCell' = true := tabD.oneCell (h.here (i := 5) rfl)
    refine h.st 1 rfl sc_s_api_Producer (show 11 < 13 by omega) hu fun w6 h => ?_
    have h := h.pick [0, 1, 2, 3, 5] (by decide)
    have h : Rel B' w6 [cellD o T_api_Entry en.cs.toArray, cellD p T_intake_Intake (ics { s with prods := putS s.prods en.producer en.epoch en.seq x.1 } kv ⟨u, hu⟩ m), mapE m l cc, knownD kv.1 s.known, tabD u (putS s.prods en.producer en.epoch en.seq x.1)] := h
    simp -zeta only [field_addr f_intake_Intake_4, Nat.zero_add, h.ld 1 rfl sc_int (o := 9) rfl, bin_add]
    rw [wrap_id (n := s.next + 1) (by omega) (by omega)]
    refine h.st 1 rfl sc_int (show 9 < 13 by omega) rfl fun w7 h => ?_
    have h : Rel B' w7 [cellD o T_api_Entry en.cs.toArray, cellD p T_intake_Intake (ics { s with prods := putS s.prods en.producer en.epoch en.seq x.1, next := s.next + 1 } kv ⟨u, hu⟩ m), mapE m l cc, knownD kv.1 s.known, tabD u (putS s.prods en.producer en.epoch en.seq x.1)] := h
    have h := h.tick
    simp -zeta only [field_addr f_intake_Intake_7, field_addr f_api_Entry_6, Nat.zero_add, h.ld 1 rfl sc_map_int_int (o := 12) rfl, h.ld 0 rfl sc_int (o := 6) rfl]
    have hcn := hg.cnt en.time
    have hrt := hg.cfg.rate
    rw [h.lookup 2 rfl U_map_int_int kIntI 0 z_int en.time, hk.getD, show (Enc.val (s.cnt en.time) : Value) = .int .i64 (s.cnt en.time) from rfl, bin_add, wrap_id (by omega) (by omega)]
    refine h.mapUpd 2 rfl U_map_int_int kIntI en.time (s.cnt en.time + 1) fun w8 h => ?_
    have h : Rel B' w8 [cellD o T_api_Entry en.cs.toArray, cellD p T_intake_Intake (ics { s with prods := putS s.prods en.producer en.epoch en.seq x.1, next := s.next + 1, cnt := fun t => if t = en.time then s.cnt en.time + 1 else s.cnt t } kv ⟨u, hu⟩ m), mapE m (setE en.time (s.cnt en.time + 1) l cc).1 (setE en.time (s.cnt en.time + 1) l cc).2, knownD kv.1 s.known, tabD u (putS s.prods en.producer en.epoch en.seq x.1)] := h
    simp -zeta only [h.ld 0 rfl sc_int (o := 6) rfl]
    have h := h.pick [1, 2, 3, 4] (by decide)
    refine raise_r (s := { s with prods := putS s.prods en.producer en.epoch en.seq x.1, next := s.next + 1, cnt := fun t => if t = en.time then s.cnt en.time + 1 else s.cnt t }) (hk.incr (fun t => (hg.cnt t).1) en.time) hg.cfg hg.top p2 h fun w9 l' hk' h => ?_
    have h := intD.closeL (σ := []) hk' h
    rw [← c]
    exact fin _ _ [] rfl h
  · rw [if_pos c] at fin
    refine LETJ_intro fun J hJ => ?_
    generalize putI s en r = x at *
    refine ⟨fun c5 => ?_, fun c5 => ?_⟩
    · rw [if_neg (fun hh => hh c5)] at fin
      exact hJ _ _ (fin _ _ _ rfl h)
    · rw [if_pos c5] at fin
      have h := h.pick [1, 0] (by decide)
      have h : Rel B' w2 ([cellD o T_api_Entry en.cs.toArray] ++ [intD p s]) := h
      obtain ⟨kv, pv, m, l, cc, hk, h⟩ := intD.openL h
      have h : Rel B' w2 [cellD o T_api_Entry en.cs.toArray, cellD p T_intake_Intake (ics s kv pv m), mapE m l cc, knownD kv.1 s.known, tabD pv.1 s.prods] := h
      simp -zeta only [nil_ptr, field_addr f_intake_Intake_5, Nat.zero_add, h.ld 1 rfl sc_int (o := 10) rfl, bin_add]
      rw [wrap_id (by omega) (by omega)]
      refine h.st 1 rfl sc_int (show 10 < 13 by omega) rfl fun w4 h => ?_
      have h := h.pick [1, 2, 3, 4] (by decide)
      have h := intD.closeL (s := { s with refused := s.refused + 1 }) (σ := []) hk h
      exact hJ _ _ (fin _ _ [] rfl h)
set_option maxHeartbeats 1000000 in
theorem apply_d (hg : GoodIS s) (h1 : s.next < 1000000000) (h2 : s.refused < 1000000000) {en : EnD} {r : List ValD} (hr : rowR en.row.1 r B) (hrl : r.length ≤ 4611686018427387904) (hkl : s.known.length ≤ 4611686018427387904) :
    Does Tryz.prog B (intD p s) (sCall F_intake_Intake_Apply #[ptrI p, en.v]) (iPost p (applyS s en r)) := by
  refine Does.intro fun B' w K base h k => ?_
  replace hr := base hr
  refine intake_Intake_Apply.up (intake_Intake_Apply.call ?_)
  unfold intake_Intake_Apply.pt
  have fin : ∀ (x : (Int × Int) × IS) w' τ, applyS s en r = x → Rel B' w' ([intD p x.2] ++ τ) → K (.tuple #[.int .i64 x.1.1, .int .i64 x.1.2]) w' := fun x w' τ e h => k _ _ [] w' ⟨by rw [e], by rw [e], rfl⟩ h.drop
  clear k
  unfold applyS at fin
  refine h.box fun o w1 h => ?_
  have h : Rel B' w1 [intD p s, cellD o T_api_Entry en.cs.toArray] := h
  simp -zeta only [field_addr f_api_Entry_0, Nat.add_zero, h.ld 1 rfl sc_int (o := 0) rfl, bin_eql, ifB_dec]
  refine ⟨fun c0 => ?_, fun c0 => ?_⟩
  · rw [if_pos c0] at fin
    rw [h.ldAg 1 rfl ag_api_Entry rfl]
    refine h.act 0 rfl (fun B2 own base2 => accept_d hg h1 h2 (base2 hr) hrl hkl) fun v e' τ w2 hp h => ?_
    obtain ⟨rfl, rfl, rfl⟩ := hp
    simp -zeta only [ext_2_0, ext_2_1]
    exact fin _ _ _ rfl h
  rw [if_neg c0] at fin
  refine ⟨fun c1 => ?_, fun c1 => ?_⟩
  · rw [if_pos c1] at fin
    have h := h.tick
    have h := h.pick [1, 0] (by decide)
    have h : Rel B' (tick w1) ([cellD o T_api_Entry en.cs.toArray] ++ [intD p s]) := h
    obtain ⟨kv, pv, m, l, cc, hk, h⟩ := intD.openL h
    have h : Rel B' (tick w1) [cellD o T_api_Entry en.cs.toArray, cellD p T_intake_Intake (ics s kv pv m), mapE m l cc, knownD kv.1 s.known, tabD pv.1 s.prods] := h
    simp -zeta only [nil_ptr, field_addr f_intake_Intake_6, field_addr f_api_Entry_1, Nat.zero_add, h.ld 1 rfl sc_s_api_Producer (o := 11) rfl, h.ld 0 rfl sc_int (o := 1) rfl]
    refine h.make (post := fun u τ => ∃ tv, u = .tuple #[tv, .int .i64 (fenceS s.prods en.producer).2.1, .int .i64 (fenceS s.prods en.producer).2.2] ∧ OwnTab tv (fenceS s.prods en.producer).1 τ) (fun B2 own base2 => ?_) fun u τ w3 hp h => ?_
    · obtain ⟨L, hL, rt, qt⟩ : tabD pv.1 s.prods B2 := own (i := 4) rfl
      have := Fence_o rt qt (by rw [hL]; exact hg.prods) en.producer
      rw [hL] at this
      exact this
    obtain ⟨tv, rfl, hp⟩ := hp
    have h := hp _ _ _ h
    generalize fenceS s.prods en.producer = f at *
    have h : Rel B' w3 [cellD o T_api_Entry en.cs.toArray, cellD p T_intake_Intake (ics s kv pv m), mapE m l cc, knownD kv.1 s.known, tabD pv.1 s.prods, tabD tv f.1] := h
    simp -zeta only [ext_3_0, ext_3_1, ext_3_2]
    refine LETJ_intro fun J hJ => ?_
    simp -zeta only [bin_eql, ifB_dec]
    refine ⟨fun cz => ?_, fun cz => ?_⟩
    · rw [if_pos cz] at fin
      have hu : tv.oneCell' = true := tabD.oneCell (h.here (i := 5) rfl)
      refine h.st 1 rfl sc_s_api_Producer (show 11 < 13 by omega) hu fun w5 h => ?_
      have h := h.pick [1, 2, 3, 5] (by decide)
      have h := intD.closeL (s := { s with prods := f.1 }) (pv := ⟨tv, hu⟩) (σ := []) hk h
      exact hJ _ _ (fin _ _ [] rfl h)
    · rw [if_neg cz] at fin
      have h := h.pick [1, 2, 3, 4] (by decide)
      have h := intD.closeL (σ := []) hk h
      exact hJ _ _ (fin _ _ [] rfl h)
  rw [if_neg c1] at fin
  refine LETJ_intro fun J hJ => ?_
  replace hJ : (∀ b : Bool, b = decide (en.kind = 2 ∨ en.kind = 3) → J (.bool b, ()) w1) := by
    intro b hb
    refine hJ _ _ ?_
    clear hJ
    rw [ifB_bool]
    refine ⟨fun cb => ?_, fun cb => ?_⟩
    · have hc : en.kind = 2 ∨ en.kind = 3 := by rw [cb] at hb; exact of_decide_eq_true hb.symm
      rw [if_pos hc] at fin
      simp -zeta only [field_addr f_api_Entry_6, Nat.zero_add, h.ld 1 rfl sc_int (o := 6) rfl]
      refine h.ask (fun B2 own base2 => isTime_g en.time) fun w7 h => ?_
      rw [un_not, ifB_not, ifB_dec]
      refine ⟨fun ct => ?_, fun ct => ?_⟩
      · rw [if_neg (fun hh => hh ct)] at fin
        simp -zeta only [h.ld 1 rfl sc_int (o := 0) rfl, bin_eql, ifB_dec]
        have ht := h.tick
        have ht := ht.pick [1, 0] (by decide)
        have ht : Rel B' (tick w7) ([cellD o T_api_Entry en.cs.toArray] ++ [intD p s]) := ht
        obtain ⟨kv, pv, m, l, cc, hk, ht⟩ := intD.openL ht
        have ht : Rel B' (tick w7) [cellD o T_api_Entry en.cs.toArray, cellD p T_intake_Intake (ics s kv pv m), mapE m l cc, knownD kv.1 s.known, tabD pv.1 s.prods] := ht
        have hnow := hg.now
        have hah := hg.cfg.ahead
        have hw : IntKind.i64.wrap (s.now + s.cfg.ahead) = s.now + s.cfg.ahead := wrap_id (by omega) (by omega)
        refine ⟨fun c3 => ?_, fun c3 => ?_⟩
        · rw [if_pos c3] at fin
          simp -zeta only [nil_ptr, field_addr f_intake_Intake_2, Nat.zero_add, ht.ld 1 rfl sc_int (o := 7) rfl, ht.ld 0 rfl sc_int (o := 6) rfl, blt_max]
          refine ht.st 1 rfl sc_int (show 7 < 13 by omega) rfl fun w8 h => ?_
          have h := h.pick [1, 2, 3, 4] (by decide)
          have h := intD.closeL (s := { s with now := max s.now en.time }) (σ := []) hk h
          exact fin ((0, 0), _) _ [] rfl h
        · rw [if_neg c3] at fin
          simp -zeta only [nil_ptr, field_addr f_intake_Intake_2, field_addr f_intake_Intake_0, field_addr f_api_Config_3, Nat.zero_add, ht.ld 1 rfl sc_int (o := 7) rfl, ht.ld 1 rfl sc_int (o := 3) rfl, ht.ld 0 rfl sc_int (o := 6) rfl, bin_add, hw, bin_gtr, ifB_dec]
          refine ⟨fun c4 => ?_, fun c4 => ?_⟩
          · rw [if_pos c4] at fin
            have ht := ht.pick [1, 2, 3, 4] (by decide)
            have ht := intD.closeL (σ := []) hk ht
            exact fin ((0, 21), _) _ [] rfl ht
          · rw [if_neg c4] at fin
            have ht := ht.pick [1, 2, 3, 4] (by decide)
            refine raise_r hk hg.cfg hg.top ct ht fun w9 l' hk' h => ?_
            have h := intD.closeL (σ := []) hk' h
            exact fin ((0, 0), _) _ [] rfl h
      · rw [if_pos ct] at fin
        exact fin ((0, 3), _) _ _ rfl h
    · have hc : ¬ (en.kind = 2 ∨ en.kind = 3) := by rw [cb] at hb; exact of_decide_eq_false hb.symm
      rw [if_neg hc] at fin
      exact fin ((0, 1), _) _ _ rfl h
  refine ⟨fun c2 => hJ _ (by rw [decide_eq_true (show en.kind = 2 ∨ en.kind = 3 from .inl c2), decide_eq_true c2]), fun c2 => ?_⟩
  exact hJ _ (decide_eq_decide.2 ⟨fun hh => .inr hh, fun hh => hh.elim (fun hh => absurd hh c2) id⟩)
end
end Go.Proofs.YtefinemhfgdpdaaGreatDoor
/-
  Intake: New, Know; the law's helpers. No condition.
-/
namespace Go.Proofs.YtefinemhfgdpdaaGreatDoor
open Go.RowKit
set_option maxRecDepth 100000

theorem RightC.iff {c : CfD} : RightC c ↔ (0 ≤ c.late ∧ c.late ≤ 10000) ∧ (0 ≤ c.delay ∧ c.delay ≤ c.late) ∧ (0 ≤ c.ahead ∧ c.ahead ≤ 10000) ∧ (1 ≤ c.rate ∧ c.rate ≤ 20) := ⟨fun h => ⟨h.late, h.delay, h.ahead, h.rate⟩, fun h => ⟨h.1, h.2.1, h.2.2.1, h.2.2.2⟩⟩
instance (c : CfD) : Decidable (RightC c) := decidable_of_iff _ RightC.iff.symm
/-- What was made is this one thing. -/
def OwnD (d : Dat) (τ : List Dat) : Prop := ∀ (B : Base) (w : World) (σ : List Dat), Rel B w (σ ++ τ) → Rel B w (σ ++ [d])
theorem ownD {d : Dat} {τ : List Dat} (h : ∀ B, (stars τ) B → d B) : OwnD d τ := fun B w σ hr => by
  have h1 := (Rel.restars hr).imp (i := σ.length) (e := d) get_last h
  rw [List.set_append_right _ _ (Nat.le_refl _), Nat.sub_self, List.set_cons_zero] at h1
  exact h1
def newS (c : CfD) (ks : List Kn) : IS := ⟨c, ks, 0, -1, 0, 0, [], fun _ => 0⟩
theorem cntNil : CntOk (fun _ => 0) ([] : List (Ent Int Int)) 0 := ⟨WfE.nil, fun t => rfl⟩
theorem new_good {c : CfD} (h : RightC c) (ks : List Kn) : GoodIS (newS c ks) := ⟨h, right_nil, by simp [newS], by simp [newS], by simp [newS], by simp [newS], fun t => ⟨Int.le_refl 0, by have := h.rate; show (0 : Int) ≤ c.rate; omega⟩⟩
theorem bd_new {K : Value → Prop} {c : CfD} {m : Nat} : pureK Tryz.prog (sBuild T_intake_Intake #[(0, .agg c.cs.toArray), (3, .int .i64 (-1)), (7, mapV m)]) K = K (.agg (ics (newS c []) nilSV nilSV m)) := pureK_eq fun w => by kernel_rfl
section
variable {B : Base} {w : World} {p : Nat} {s : IS}
theorem between_g (n a b : Int) : Gives Tryz.prog B (sCall F_intake_between #[.int .i64 n, .int .i64 a, .int .i64 b]) (.bool (decide (a ≤ n ∧ n ≤ b))) := by
  refine Gives.intro fun B' w K base h k => ?_
  refine intake_between.up (intake_between.call ?_)
  unfold intake_between.pt
  simp -zeta only [bin_geq, bin_leq, ifB_dec]
  refine ⟨fun c => ?_, fun c => ?_⟩
  · have e : decide (a ≤ n ∧ n ≤ b) = decide (n ≤ b) := decide_eq_decide.2 ⟨fun hh => hh.2, fun hh => ⟨c, hh⟩⟩
    rw [e] at k
    exact k _ _ h
  · rw [decide_eq_false (fun hh : a ≤ n ∧ n ≤ b => c hh.1)] at k
    exact k _ _ h
theorem cRight_g (c : CfD) : Gives Tryz.prog B (sCall F_intake_Right #[.agg c.cs.toArray]) (.bool (decide (RightC c))) := by
  refine Gives.intro fun B' w K base h k => ?_
  refine intake_Right.up (intake_Right.call ?_)
  unfold intake_Right.pt
  have no : ∀ w' τ, Rel B' w' τ → ¬ RightC c → K (.bool false) w' := fun w' τ h hn => by rw [decide_eq_false hn] at k; exact k _ _ h
  refine h.box fun o w1 h => ?_
  have h : Rel B' w1 [cellD o T_api_Config c.cs.toArray] := h
  simp -zeta only [field_addr f_api_Config_2, Nat.add_zero, Nat.zero_add, h.ld 0 rfl sc_int (o := 2) rfl]
  refine h.ask (fun B2 own base2 => between_g _ _ _) fun w2 h => ?_
  rw [ifB_dec]
  refine ⟨fun c1 => ?_, fun c1 => no _ _ h fun hh => c1 hh.late⟩
  simp -zeta only [field_addr f_api_Config_1, field_addr f_api_Config_2, Nat.add_zero, Nat.zero_add, h.ld 0 rfl sc_int (o := 1) rfl, h.ld 0 rfl sc_int (o := 2) rfl]
  refine h.ask (fun B2 own base2 => between_g _ _ _) fun w3 h => ?_
  rw [ifB_dec]
  refine ⟨fun c2 => ?_, fun c2 => no _ _ h fun hh => c2 hh.delay⟩
  simp -zeta only [field_addr f_api_Config_3, Nat.add_zero, Nat.zero_add, h.ld 0 rfl sc_int (o := 3) rfl]
  refine h.ask (fun B2 own base2 => between_g _ _ _) fun w4 h => ?_
  rw [ifB_dec]
  refine ⟨fun c3 => ?_, fun c3 => no _ _ h fun hh => c3 hh.ahead⟩
  simp -zeta only [field_addr f_api_Config_4, Nat.add_zero, Nat.zero_add, h.ld 0 rfl sc_int (o := 4) rfl]
  refine h.ask (fun B2 own base2 => between_g _ _ _) fun w5 h => ?_
  have e : decide (RightC c) = decide (1 ≤ c.rate ∧ c.rate ≤ 20) := decide_eq_decide.2 ⟨fun hh => hh.rate, fun hh => ⟨c1, c2, c3, hh⟩⟩
  rw [e] at k
  exact k _ _ h
structure FewK (ks : List Kn) : Prop where
  len : ks.length ≤ 1000000
  cols : ∀ x ∈ ks, x.cols.length ≤ 1000000
theorem Know_d {kv pv : SV} {m : Nat} {v : Value} {ks : List Kn} (hk : knownD v ks B) (hf : FewK ks) :
    Does Tryz.prog B (cellD p T_intake_Intake (ics s kv pv m)) (sCall F_intake_Intake_Know #[ptrI p, v]) fun x e' τ => x = .tuple #[] ∧ ∃ u : SV, e' = cellD p T_intake_Intake (ics s u pv m) ∧ OwnD (knownD u.1 ks) τ := by
  refine Does.intro fun B' w K base h k => ?_
  obtain ⟨L, hL, rk, rc⟩ := base hk
  have hal : ∀ L : KnL, (kraws L).length = L.length := fun L => List.length_map ..
  have hLl : L.length ≤ 1000000 := by have := hf.len; rw [← hL, List.length_map] at this; exact this
  refine intake_Intake_Know.up (intake_Intake_Know.call ?_)
  unfold intake_Intake_Know.pt
  simp -zeta only [nil_ptr, field_addr f_intake_Intake_1, Nat.zero_add]
  refine h.st 0 rfl sc_s_api_Known (show 6 < 13 by omega) rfl fun w1 h => ?_
  have h : Rel B' w1 [cellD p T_intake_Intake (ics s nilSV pv m)] := h
  simp -zeta only [rowR.len rk sl_s_api_Known]
  rw [hal]
  have h := h.addNil KnD T_api_Known
  have h : Rel B' w1 [cellD p T_intake_Intake (ics s nilSV pv m), rowD T_api_Known nilSV.1 (kraws [])] := h
  have h := (ownD (d := kcols []) (τ := []) fun B _ x hx => (by cases hx)) B' w1 [cellD p T_intake_Intake (ics s nilSV pv m), rowD T_api_Known nilSV.1 (kraws [])] (by simpa using h)
  refine LOOP_intro (fun x w' => ∃ (i : Nat) (L' : KnL) (u : SV), i ≤ L.length ∧ L'.length = i ∧ L'.map (·.1) = ks.take i ∧ x = (.int .i64 i, ()) ∧ Rel B' w' [cellD p T_intake_Intake (ics s u pv m), rowD T_api_Known u.1 (kraws L'), kcols L']) (fun x _ => L.length - (match x.1 with | .int _ n => n.toNat | _ => 0))
    ⟨0, [], nilSV, Nat.zero_le _, rfl, rfl, rfl, h⟩ ?_
  clear h
  rintro x w2 ⟨i, L', u, hi, hl', hp, rfl, h⟩ next hnext
  simp -zeta only [bin_lss, ifB_dec]
  refine ⟨fun hlt => ?_, fun hge => ?_⟩
  · have hil : i < L.length := by omega
    have hel : (kraws L)[i]'(by rw [hal]; exact hil) = L[i].1.raw L[i].2 := by simp [kraws]
    obtain ⟨g, o, hx, hc⟩ := rowR.idx rk sl_s_api_Known (P := Tryz.prog) (i := i) (by rw [hal]; exact hil)
    rw [hel] at hc
    have hc : cellsR g o (L[i].1.raw L[i].2).cs B' := hc
    have hcol : rowR L[i].2.1 L[i].1.cols B' := rc L[i] (List.getElem_mem hil)
    have hcl : L[i].1.cols.length ≤ 1000000 := hf.cols _ (by rw [← hL]; exact List.mem_map_of_mem (List.getElem_mem hil))
    rw [hx, cellsR.ldAg (h.hereB hc) ag_api_Known rfl]
    refine h.allocAg (ds := (L[i].1.raw L[i].2).cs.toArray) z_api_Known rfl ag_api_Known rfl (fun v hv => Enc.one (L[i].1.raw L[i].2) v hv) fun a w3 h => ?_
    have h : Rel B' w3 [cellD p T_intake_Intake (ics s u pv m), rowD T_api_Known u.1 (kraws L'), kcols L', cellD a T_api_Known (L[i].1.raw L[i].2).cs.toArray] := h
    simp -zeta only [field_addr f_api_Known_2, Nat.zero_add, h.ld 3 rfl sc_s_api_Col (o := 2) rfl]
    refine h.make (fun B2 own base2 => gslices_Clone_s_api_Col_api_Col (base2 hcol) (by omega) (by omega)) fun v' τ w4 hp2 h => ?_
    subst hp2
    have h1 : v'.oneCell' = true := h.oneCell (i := 4) rfl
    obtain ⟨sv, rfl⟩ : ∃ sv : SV, sv.1 = v' := ⟨⟨v', h1⟩, rfl⟩
    refine h.st 3 rfl sc_s_api_Col (show 2 < 3 by omega) h1 fun w5 h => ?_
    have h : Rel B' w5 [cellD p T_intake_Intake (ics s u pv m), rowD T_api_Known u.1 (kraws L'), kcols L', cellD a T_api_Known (L[i].1.raw sv).cs.toArray, rowD T_api_Col sv.1 L[i].1.cols] := h
    have h := h.tick
    simp -zeta only [nil_ptr, field_addr f_intake_Intake_1, Nat.zero_add, h.ld 0 rfl sc_s_api_Known (o := 6) rfl, h.ldAg 3 rfl ag_api_Known rfl]
    refine h.build1 (L[i].1.raw sv) sl_s_api_Known (by decide) fun u2 w6 h => ?_
    refine ⟨h.is 0 rfl sc_s_api_Known (o := 6) rfl, ?_⟩
    have hl2 : (kraws L').length = i := by rw [hal, hl']
    refine h.append 1 rfl sl_s_api_Known (Rd.at (l := [L[i].1.raw sv]) 5 rfl) (by rw [hl2, List.length_singleton]; omega) (by rw [hl2, List.length_singleton]; omega) fun u3 w7 h => ?_
    have h3 : u3.oneCell' = true := h.oneCell (i := 1) rfl
    refine h.st 0 rfl sc_s_api_Known (show 6 < 13 by omega) h3 fun w8 h => ?_
    have h := h.pick [0, 1, 2, 4] (by decide)
    have h : Rel B' w8 ([cellD p T_intake_Intake (ics s ⟨u3, h3⟩ pv m), rowD T_api_Known u3 (kraws L' ++ [L[i].1.raw sv])] ++ [kcols L', rowD T_api_Col sv.1 L[i].1.cols]) := h
    have h := (ownD (d := kcols (L' ++ [(L[i].1, sv)])) (τ := [kcols L', rowD T_api_Col sv.1 L[i].1.cols]) fun B hB => Dat.all_append (Dat.star.left hB) (fun x hx => by
      rw [List.mem_singleton] at hx
      subst hx
      exact rowD.read (Dat.star.left (Dat.star.right hB)))) _ _ _ h
    rw [show kraws L' ++ [L[i].1.raw sv] = kraws (L' ++ [(L[i].1, sv)]) by simp [kraws]] at h
    rw [bin_add, wrap_id (by omega) (by omega)]
    refine hnext _ _ ⟨i + 1, L' ++ [(L[i].1, sv)], ⟨u3, h3⟩, hil, by simp [hl'], ?_, rfl, h⟩ (by simp only; omega)
    rw [List.map_append, hp, ← hL, List.take_succ_eq_append_getElem (by simpa using hil)]
    simp
  · have hie : i = L.length := by omega
    subst hie
    rw [List.take_of_length_le (by rw [← hL, List.length_map]; exact Nat.le_refl _)] at hp
    exact k _ _ _ _ ⟨rfl, u, rfl, ownD (τ := [rowD T_api_Known u.1 (kraws L'), kcols L']) fun B hB => ⟨L', hp, rowD.read (Dat.star.left hB), Dat.star.left (Dat.star.right hB)⟩⟩ h
theorem New_m (c : CfD) {v : Value} {ks : List Kn} (hk : knownD v ks B) (hf : FewK ks) :
    Makes Tryz.prog B (sCall F_intake_New #[.agg c.cs.toArray, v]) fun u τ => (RightC c ∧ ∃ p, u = ptrI p ∧ τ = [intD p (newS c ks)]) ∨ (¬ RightC c ∧ u = .pointer none ∧ τ = []) := by
  refine Makes.intro fun B' w K base h k => ?_
  replace hk := base hk
  refine intake_New.up (intake_New.call ?_)
  unfold intake_New.pt
  refine h.box fun o w1 h => ?_
  have h : Rel B' w1 [cellD o T_api_Config c.cs.toArray] := h
  rw [h.ldAg 0 rfl ag_api_Config rfl]
  refine h.ask (fun B2 own base2 => cRight_g c) fun w2 h => ?_
  rw [un_not, ifB_not, ifB_dec]
  refine ⟨fun c1 => ?_, fun c1 => k _ _ _ (.inr ⟨c1, rfl, rfl⟩) h.nil⟩
  rw [h.ldAg 0 rfl ag_api_Config rfl]
  refine h.mkMap Int Int fun m w3 h => ?_
  rw [bd_new]
  refine h.box fun p w4 h => ?_
  have h : Rel B' w4 [cellD o T_api_Config c.cs.toArray, mapE m ([] : List (Ent Int Int)) 0, cellD p T_intake_Intake (ics (newS c ks) nilSV nilSV m)] := h
  refine h.act 2 rfl (fun B2 own base2 => Know_d (base2 hk) hf) fun x e' τ w5 hp h => ?_
  obtain ⟨rfl, u, rfl, hp⟩ := hp
  have h := hp _ _ [cellD o T_api_Config c.cs.toArray, mapE m ([] : List (Ent Int Int)) 0, cellD p T_intake_Intake (ics (newS c ks) u nilSV m)] h
  have h := nilTab [] _ _ _ (by rw [List.append_nil]; exact h)
  have h := h.pick [2, 1, 3, 4] (by decide)
  have h : Rel B' w5 [cellD p T_intake_Intake (ics (newS c ks) u nilSV m), mapE m ([] : List (Ent Int Int)) 0, knownD u.1 (newS c ks).known, tabD nilSV.1 (newS c ks).prods] := h
  exact k _ _ _ (.inl ⟨c1, p, rfl, rfl⟩) (intD.close cntNil h)
def colA : ColD := ⟨⟨#[97]⟩, 0, ⟨#[]⟩⟩
def colB : ColD := ⟨⟨#[97]⟩, 1, ⟨#[]⟩⟩
def colC : ColD := ⟨⟨#[98]⟩, 2, ⟨#[]⟩⟩
def knS : List Kn := [⟨⟨#[115]⟩, 1, [colA]⟩, ⟨⟨#[116]⟩, 2, [colB, colC]⟩]
theorem knS_few : FewK knS := ⟨by decide, fun x hx => by
  rcases List.mem_cons.1 hx with rfl | hx
  · decide
  · rcases List.mem_cons.1 hx with rfl | hx
    · decide
    · cases hx⟩
theorem known_m : Makes Tryz.prog B (sCall F_erratalaw11_known #[]) fun u τ => τ = [knownD u knS] := by
  refine Makes.intro fun B' w K base h k => ?_
  refine erratalaw11_known.up (erratalaw11_known.call ?_)
  unfold erratalaw11_known.pt
  rw [bd_api_Col_0]
  refine h.build1 colA sl_s_api_Col (by decide) fun v1 w1 h => ?_
  obtain ⟨a1, c1, rfl, _⟩ := rowR.form (rowD.read (h.here (i := 0) rfl))
  rw [bd_api_Known_0_1_2, bd_api_Col_0_1, bd_api_Col_0_1]
  refine h.buildN [colB, colC] sl_s_api_Col fun v2 w2 h => ?_
  obtain ⟨a2, c2, rfl, _⟩ := rowR.form (rowD.read (h.here (i := 1) rfl))
  rw [bd_api_Known_0_1_2]
  refine h.buildN [(⟨⟨#[115]⟩, 1, ⟨.slice a1 [colA].length c1, rfl⟩⟩ : KnD), ⟨⟨#[116]⟩, 2, ⟨.slice a2 [colB, colC].length c2, rfl⟩⟩] sl_s_api_Known fun v3 w3 h => ?_
  have h := h.pick [2, 0, 1] (by decide)
  have h := (ownD (d := knownD v3 knS) (τ := [rowD T_api_Known v3 [(⟨⟨#[115]⟩, 1, ⟨.slice a1 [colA].length c1, rfl⟩⟩ : KnD), ⟨⟨#[116]⟩, 2, ⟨.slice a2 [colB, colC].length c2, rfl⟩⟩], rowD T_api_Col (.slice a1 [colA].length c1) [colA], rowD T_api_Col (.slice a2 [colB, colC].length c2) [colB, colC]]) fun B hB => ⟨[(⟨⟨#[115]⟩, 1, [colA]⟩, ⟨.slice a1 [colA].length c1, rfl⟩), (⟨⟨#[116]⟩, 2, [colB, colC]⟩, ⟨.slice a2 [colB, colC].length c2, rfl⟩)], rfl, rowD.read (Dat.star.left hB), fun x hx => by
    rcases List.mem_cons.1 hx with rfl | hx
    · exact rowD.read (Dat.star.left (Dat.star.right hB))
    · rcases List.mem_cons.1 hx with rfl | hx
      · exact rowD.read (Dat.star.left (Dat.star.right (Dat.star.right hB)))
      · cases hx⟩) _ _ [] h
  exact k _ _ _ rfl h
def entD (q t : Int) (rv : SV) : EnD := ⟨0, 7, 0, q, ⟨#[115]⟩, 1, t, rv⟩
def rowN (n : Int) : List ValD := [⟨0, n, ⟨#[]⟩⟩]
theorem entry_m (q t n : Int) : Makes Tryz.prog B (sCall F_erratalaw11_entry #[.int .i64 q, .int .i64 t, .int .i64 n]) fun u τ => ∃ rv : SV, u = (entD q t rv).v ∧ τ = [rowD T_api_Value rv.1 (rowN n)] := by
  refine Makes.intro fun B' w K base h k => ?_
  refine erratalaw11_entry.up (erratalaw11_entry.call ?_)
  unfold erratalaw11_entry.pt
  refine h.alloc z_api_Entry fun o w1 h => ?_
  rw [bd_api_Value_1]
  refine h.build1 (⟨0, n, ⟨#[]⟩⟩ : ValD) sl_s_api_Value (by decide) fun v1 w2 h => ?_
  obtain ⟨a1, c1, rfl, _⟩ := rowR.form (rowD.read (h.here (i := 1) rfl))
  rw [bd_api_Entry_1_3_4_5_6_7]
  refine h.stAll 0 (ds := (entD q t ⟨.slice a1 (rowN n).length c1, rfl⟩).cs.toArray) rfl ag_api_Entry rfl rfl (fun v hv => Enc.one (entD q t ⟨.slice a1 (rowN n).length c1, rfl⟩) v hv) fun w3 h => ?_
  rw [rv_ag h 0 rfl ag_api_Entry rfl]
  have h := h.pick [1] (by decide)
  exact k _ _ _ ⟨⟨.slice a1 (rowN n).length c1, rfl⟩, rfl, rfl⟩ h
end
end Go.Proofs.YtefinemhfgdpdaaGreatDoor
/-
  Intake: few, small. No condition.
-/
namespace Go.Proofs.YtefinemhfgdpdaaGreatDoor
open Go.RowKit
set_option maxRecDepth 100000

/-- Entries with their rows. -/
abbrev EnL := List (EnD × List ValD)
def eraws (L : EnL) : List EnD := L.map (·.1)
def erows (L : EnL) : Dat := Dat.all L fun p => rowR p.1.row.1 p.2
structure FewE (L : EnL) (n : Nat) : Prop where
  each : ∀ p ∈ L, p.2.length ≤ 12 ∧ p.1.source.size ≤ 30 ∧ ∀ v ∈ p.2, v.s.size ≤ 210
  len : L.length ≤ n
section
variable {B : Base} {w : World} {p : Nat} {s : IS}
theorem few_r {v : Value} {L : EnL} {n : Nat} {K : Value → World → Prop} {σ : List Dat} (r : rowR v (eraws L) B) (q : erows L B) (h : Rel B w σ) (hl : L.length ≤ maxLen) (hq : ∀ p ∈ L, p.2.length ≤ maxLen) (yes : ∀ w', FewE L n → Rel B w' σ → K (.bool true) w') (no : ∀ w', Rel B w' σ → K (.bool false) w') :
    upK Tryz.prog (sCall F_erratalaw11_few #[v, .int .i64 n]) w K := by
  obtain ⟨B', h', back, _, base⟩ := h.frz
  replace r := base r
  replace q := base q
  replace yes : ∀ w', FewE L n → Rel B' w' [] → K (.bool true) w' := fun w' hf h => yes w' hf (by have := back w' _ h; simpa using this)
  replace no : ∀ w', Rel B' w' [] → K (.bool false) w' := fun w' h => no w' (by have := back w' _ h; simpa using this)
  clear back h
  have h := h'
  clear h'
  have hal : (eraws L).length = L.length := List.length_map ..
  unfold maxLen at hl
  have hq : ∀ p ∈ L, p.2.length ≤ 9223372036854775807 := hq
  refine erratalaw11_few.up (erratalaw11_few.call ?_)
  unfold erratalaw11_few.pt
  refine LOOP_intro (fun x w' => ∃ i : Nat, i ≤ L.length ∧ x = (.int .i64 i, ()) ∧ (∀ j (hj : j < L.length), j < i → L[j].2.length ≤ 12 ∧ L[j].1.source.size ≤ 30 ∧ ∀ v ∈ L[j].2, v.s.size ≤ 210) ∧ Rel B' w' []) (fun x _ => L.length - (match x.1 with | .int _ n => n.toNat | _ => 0))
    ⟨0, Nat.zero_le _, rfl, fun j _ hj => absurd hj (Nat.not_lt_zero j), h⟩ ?_
  clear h
  rintro x w1 ⟨i, hi, rfl, hin, h⟩ next hnext
  simp -zeta only [rowR.len r sl_s_api_Entry, bin_lss, bin_leq, ifB_dec]
  rw [hal]
  refine ⟨fun hlt => ?_, fun hge => ?_⟩
  · have hil : i < L.length := by omega
    obtain ⟨g, o, hx, hc⟩ := rowR.idx r sl_s_api_Entry (P := Tryz.prog) (i := i) (by omega)
    have hel : (eraws L)[i]'(by omega) = L[i].1 := by simp [eraws]
    rw [hel] at hc
    have hc : cellsR g o L[i].1.cs B' := hc
    have hrow := q L[i] (List.getElem_mem hil)
    have hrl := hq L[i] (List.getElem_mem hil)
    refine LETJ_intro fun J hJ => ?_
    replace hJ : (L[i].2.length ≤ 12 ∧ L[i].1.source.size ≤ 30 ∧ ∀ v ∈ L[i].2, v.s.size ≤ 210) → ∀ w', Rel B' w' [] → J () w' := by
      intro ha w' h
      refine hJ _ _ ?_
      rw [bin_add, wrap_id (by omega) (by omega)]
      refine hnext _ _ ⟨i + 1, hil, rfl, fun j hj hji => ?_, h⟩ (by simp only; omega)
      by_cases e : j = i
      · subst e; exact ha
      · exact hin j hj (by omega)
    simp -zeta only [hx, field_addr f_api_Entry_7, field_addr f_api_Entry_4, cellsR.ld (h.hereB hc) sc_s_api_Value (j := 7) rfl, cellsR.ld (h.hereB hc) sc_string (j := 4) rfl, rowR.len hrow sl_s_api_Value, len_string U_string, bin_gtr, ifB_dec]
    refine ⟨fun _ => no _ h, fun c1 => ⟨fun _ => no _ h, fun c2 => ?_⟩⟩
    refine LOOP_intro (fun x w' => ∃ k : Nat, k ≤ L[i].2.length ∧ x = (.int .i64 k, ()) ∧ (∀ j (hj : j < L[i].2.length), j < k → L[i].2[j].s.size ≤ 210) ∧ Rel B' w' []) (fun x _ => L[i].2.length - (match x.1 with | .int _ n => n.toNat | _ => 0))
      ⟨0, Nat.zero_le _, rfl, fun j _ hj => absurd hj (Nat.not_lt_zero j), h⟩ ?_
    clear h
    rintro x w2 ⟨k, hk, rfl, hkin, h⟩ next2 hnext2
    simp -zeta only [hx, field_addr f_api_Entry_7, cellsR.ld (h.hereB hc) sc_s_api_Value (j := 7) rfl, rowR.len hrow sl_s_api_Value, bin_lss, ifB_dec]
    refine ⟨fun hlt2 => ?_, fun hge2 => hJ ⟨by omega, by omega, fun v hv => ?_⟩ _ h⟩
    · have hkl : k < L[i].2.length := by omega
      obtain ⟨g2, o2, hx2, hc2⟩ := rowR.idx hrow sl_s_api_Value (P := Tryz.prog) hkl
      have hc2 : cellsR g2 o2 L[i].2[k].cs B' := hc2
      simp -zeta only [hx, hx2, field_addr f_api_Entry_7, field_addr f_api_Value_2, cellsR.ld (h.hereB hc) sc_s_api_Value (j := 7) rfl, cellsR.ld (h.hereB hc2) sc_string (j := 2) rfl, len_string U_string, bin_gtr, ifB_dec]
      refine ⟨fun _ => no _ h, fun c3 => ?_⟩
      rw [bin_add, wrap_id (by omega) (by omega)]
      refine hnext2 _ _ ⟨k + 1, hkl, rfl, fun j hj hji => ?_, h⟩ (by simp only; omega)
      by_cases e : j = k
      · subst e; omega
      · exact hkin j hj (by omega)
    · obtain ⟨j, hj, rfl⟩ := List.getElem_of_mem hv
      exact hkin j hj (by omega)
  · by_cases c : (L.length : Int) ≤ n
    · rw [decide_eq_true c]
      exact yes _ ⟨fun p hp => by
        obtain ⟨j, hj, rfl⟩ := List.getElem_of_mem hp
        exact hin j hj (by omega), by omega⟩ h
    · rw [decide_eq_false c]
      exact no _ h
def cfgS : CfD := ⟨0, 2, 5, 100, 1, 0⟩
def st1 (s : IS) (q t n : Int) : IS := (applyS s (entD q t nilSV) (rowN n)).2
theorem one_r (hg : GoodIS s) (h1 : s.next < 1000000000) (h2 : s.refused < 1000000000) (hkl : s.known.length ≤ 4611686018427387904) {K : Value → World → Prop} {q t n a b : Int} (ha : (applyS s (entD q t nilSV) (rowN n)).1 = (a, b)) (h : Rel B w [intD p s])
    (k : ∀ w', GoodIS (st1 s q t n) → (st1 s q t n).next ≤ s.next + 1 → (st1 s q t n).refused ≤ s.refused + 1 → (st1 s q t n).known = s.known → Rel B w' [intD p (st1 s q t n)] → K (.tuple #[.int .i64 a, .int .i64 b]) w') :
    upK Tryz.prog (sCall F_erratalaw11_entry #[.int .i64 q, .int .i64 t, .int .i64 n]) w fun x w' => upK Tryz.prog (sCall F_intake_Intake_Apply #[ptrI p, x]) w' K := by
  refine h.make (fun B2 own base2 => entry_m q t n) fun u τ w1 hp h => ?_
  obtain ⟨rv, rfl, rfl⟩ := hp
  have h : Rel B w1 [intD p s, rowD T_api_Value rv.1 (rowN n)] := h
  refine h.act 0 rfl (fun B2 own base2 => apply_d hg h1 h2 (en := entD q t rv) (r := rowN n) (rowD.read (own (j := 1) (by decide) rfl)) (show 1 ≤ 4611686018427387904 by omega) hkl) fun v e' τ w2 hp h => ?_
  obtain ⟨rfl, rfl, rfl⟩ := hp
  have e : applyS s (entD q t rv) (rowN n) = applyS s (entD q t nilSV) (rowN n) := rfl
  rw [e] at h ⊢
  have g := apply_good hg (entD q t nilSV) (rowN n) h1 h2
  rw [ha]
  exact k _ g.1 g.2.2.2.1 g.2.2.2.2 g.2.2.1 ((h.take 1))
set_option maxHeartbeats 1000000 in
theorem small_r {σ : List Dat} {K : Value → World → Prop} (h : Rel B w σ) (k : ∀ w', Rel B w' σ → K (.bool true) w') : upK Tryz.prog (sCall F_erratalaw11_small #[]) w K := by
  obtain ⟨B', h', back, _, _⟩ := h.frz
  replace k : ∀ w' τ, Rel B' w' τ → K (.bool true) w' := fun w' τ h => k w' (by have := back w' _ h; exact this.drop)
  clear back h
  have h := h'
  clear h'
  refine erratalaw11_small.up (erratalaw11_small.call ?_)
  unfold erratalaw11_small.pt
  rw [bd_api_Config_1_2_3_4]
  refine h.make (fun B2 own base2 => known_m) fun u τ w1 hp h => ?_
  subst hp
  have h : Rel B' w1 [knownD u knS] := h
  refine h.make (fun B2 own base2 => New_m cfgS (own (i := 0) rfl) knS_few) fun x τ w2 hp h => ?_
  have hr : RightC cfgS := by decide
  rcases hp with ⟨_, p, rfl, rfl⟩ | ⟨hn, _⟩
  case inr => exact absurd hr hn
  have h := h.pick [1] (by decide)
  have h : Rel B' w2 [intD p (newS cfgS knS)] := h
  have g0 := new_good hr knS
  rw [bin_eql_ptr_nil U_p_intake_Intake, ifB_false]
  have n0 : (newS cfgS knS).next = 0 := rfl
  have f0 : (newS cfgS knS).refused = 0 := rfl
  have k0 : (newS cfgS knS).known = knS := rfl
  have kl : knS.length ≤ 4611686018427387904 := by decide
  refine one_r g0 (by omega) (by omega) (by rw [k0]; exact kl) (a := 0) (b := 0) (by kernel_rfl) h fun w3 g1 n1 f1 k1 h => ?_
  simp -zeta only [ext_2_0, ext_2_1]
  refine one_r g1 (by omega) (by omega) (by rw [k1, k0]; exact kl) (a := 0) (b := 5) (by kernel_rfl) h fun w4 g2 n2 f2 k2 h => ?_
  simp -zeta only [ext_2_0, ext_2_1]
  refine one_r g2 (by omega) (by omega) (by rw [k2, k1, k0]; exact kl) (a := 0) (b := 22) (by kernel_rfl) h fun w5 g3 n3 f3 k3 h => ?_
  simp -zeta only [ext_2_0, ext_2_1]
  refine one_r g3 (by omega) (by omega) (by rw [k3, k2, k1, k0]; exact kl) (a := 0) (b := 20) (by kernel_rfl) h fun w6 g4 n4 f4 k4 h => ?_
  simp -zeta only [ext_2_0, ext_2_1]
  refine one_r g4 (by omega) (by omega) (by rw [k4, k3, k2, k1, k0]; exact kl) (a := 1) (b := 0) (by kernel_rfl) h fun w7 g5 n5 f5 k5 h => ?_
  simp -zeta only [ext_2_0, ext_2_1]
  refine one_r g5 (by omega) (by omega) (by rw [k5, k4, k3, k2, k1, k0]; exact kl) (a := 0) (b := 21) (by kernel_rfl) h fun w8 g6 n6 f6 k6 h => ?_
  simp -zeta only [ext_2_0, ext_2_1, bin_eql, decide_true, ifB_true]
  generalize hs : st1 _ 2 101 1 = s6 at *
  have e1 : closedS s6 = 4 := by rw [← hs]; kernel_rfl
  have e2 : markS s6 = 7 := by rw [← hs]; kernel_rfl
  have e3 : s6.refused = 3 := by rw [← hs]; kernel_rfl
  refine h.ask (fun B2 own base2 => iClosed_g (own (i := 0) rfl) g6) fun w9 h => ?_
  rw [e1, bin_eql, decide_eq_true (Eq.refl (4 : Int)), ifB_true]
  refine h.ask (fun B2 own base2 => iMark_g (own (i := 0) rfl) g6) fun w10 h => ?_
  rw [e2, bin_eql, decide_eq_true (Eq.refl (7 : Int)), ifB_true]
  refine h.ask (fun B2 own base2 => iRefused_g (own (i := 0) rfl)) fun w11 h => ?_
  rw [e3, bin_eql, decide_eq_true (Eq.refl (3 : Int))]
  exact k _ _ h
end
end Go.Proofs.YtefinemhfgdpdaaGreatDoor
/-
  IntakeFinal: the plain law; the walk. No condition.
-/
--@auto
namespace Go.Proofs.YtefinemhfgdpdaaGreatDoor
open Go.RowKit
set_option maxRecDepth 100000

theorem open_ents {W : World} : ∀ {l : List EnD}, (∀ x ∈ l, ok_api_Entry W x) → ∃ L : EnL, eraws L = l ∧ erows L (lawB W) ∧ ∀ p ∈ L, p.2.length ≤ maxLen
  | [], _ => ⟨[], rfl, fun x hx => (by cases hx), fun x hx => (by cases hx)⟩
  | x :: l, hq => by
    obtain ⟨L, h1, h2, h3⟩ := open_ents (l := l) fun y hy => hq y (List.mem_cons_of_mem _ hy)
    obtain ⟨_, _, _, _, _, _, _, ls, hr, hm, _⟩ := hq x List.mem_cons_self
    refine ⟨(x, ls) :: L, ?_, fun y hy => ?_, fun y hy => ?_⟩
    · show _ :: eraws L = _
      rw [h1]
    · rcases List.mem_cons.1 hy with rfl | hy
      · exact hr
      · exact h2 y hy
    · rcases List.mem_cons.1 hy with rfl | hy
      · exact hm
      · exact h3 y hy

/-! ### The plain law -/
structure FinI (s : IS) (times : List Int) : Prop where
  cnt : ∀ t, s.cnt t = if closedS s < t then (times.count t : Int) else 0
  top : ∀ t ∈ times, t ≤ s.top
  rate : ∀ t, (times.count t : Int) ≤ s.cfg.rate
theorem fin_new {c : CfD} (h : RightC c) (ks : List Kn) : FinI (newS c ks) [] := ⟨fun t => by
  show (0 : Int) = if closedS (newS c ks) < t then ((0 : Nat) : Int) else 0
  split <;> rfl, fun t ht => (by cases ht), fun t => by have := h.rate; show (0 : Int) ≤ c.rate; omega⟩
theorem fin_raise {s : IS} {times : List Int} (h : FinI s times) (t : Int) : FinI (raiseS s t) times := by
  refine ⟨fun x => ?_, fun x hx => ?_, h.rate⟩
  · show (if x ≤ closedS { s with top := max s.top t } then 0 else s.cnt x) = if closedS { s with top := max s.top t } < x then (times.count x : Int) else 0
    have hc : closedS s ≤ closedS { s with top := max s.top t } := by
      show max (-1) (s.top - s.cfg.late - 1) ≤ max (-1) (max s.top t - s.cfg.late - 1)
      omega
    by_cases hx : x ≤ closedS { s with top := max s.top t }
    · rw [if_pos hx, if_neg (by omega)]
    · rw [if_neg hx, if_pos (by omega), h.cnt, if_pos (by omega)]
  · have := h.top x hx
    show x ≤ max s.top t
    omega
theorem closed_le_mark {s : IS} (h : RightC s.cfg) : closedS s ≤ markS s := by
  have := h.delay
  unfold closedS markS
  omega
theorem mark_lt_top {s : IS} (h : RightC s.cfg) (h0 : 0 ≤ s.top) : markS s < s.top := by
  have := h.delay
  unfold markS
  omega
theorem closed_mono {s s' : IS} (hc : s'.cfg = s.cfg) (ht : s.top ≤ s'.top) : closedS s ≤ closedS s' ∧ markS s ≤ markS s' := by
  unfold closedS markS
  rw [hc]
  omega
structure FinS (s : IS) (e : EnD) (times : List Int) (x : (Int × Int) × IS) : Prop where
  top : s.top ≤ x.2.top
  yes : e.kind = 0 → x.1.2 = 0 → closedS s < e.time ∧ e.time ≤ x.2.now + s.cfg.ahead ∧ FinI x.2 (times ++ [e.time])
  no : ¬ (e.kind = 0 ∧ x.1.2 = 0) → FinI x.2 times
theorem apply_final {s : IS} {times : List Int} (hi : FinI s times) (e : EnD) (r : List ValD) : FinS s e times (applyS s e r) := by
  unfold applyS
  by_cases c0 : e.kind = 0
  · rw [if_pos c0]
    unfold acceptS
    simp only
    by_cases c : (putI s e r).2 ≠ 0
    · rw [if_pos c]
      split
      · exact ⟨Int.le_refl _, fun _ h2 => absurd h2 c, fun _ => ⟨hi.cnt, hi.top, hi.rate⟩⟩
      · exact ⟨Int.le_refl _, fun _ h2 => absurd h2 c, fun _ => hi⟩
    · rw [if_neg c]
      have c := Decidable.of_not_not c
      obtain ⟨_, _, _, p4, p5, p6, _⟩ := putI_ok c
      refine ⟨?_, fun _ _ => ⟨p4, p5, ?_⟩, fun hn => absurd ⟨c0, c⟩ hn⟩
      · show s.top ≤ max s.top e.time
        omega
      · have hcnt : ∀ t, ((times ++ [e.time]).count t : Int) = (times.count t : Int) + if t = e.time then 1 else 0 := fun t => by
          rw [List.count_append, List.count_singleton]
          by_cases ht : t = e.time
          · subst ht; simp
          · have : (e.time == t) = false := by simpa using fun hh : e.time = t => ht hh.symm
            rw [this, if_neg ht]; simp
        have he := hi.cnt e.time
        rw [if_pos p4] at he
        refine ⟨fun x => ?_, fun x hx => ?_, fun t => ?_⟩
        · show (if x ≤ closedS { s with top := max s.top e.time } then 0 else if x = e.time then s.cnt e.time + 1 else s.cnt x) = if closedS { s with top := max s.top e.time } < x then ((times ++ [e.time]).count x : Int) else 0
          have hc : closedS s ≤ closedS { s with top := max s.top e.time } := by
            show max (-1) (s.top - s.cfg.late - 1) ≤ max (-1) (max s.top e.time - s.cfg.late - 1)
            omega
          by_cases hx : x ≤ closedS { s with top := max s.top e.time }
          · rw [if_pos hx, if_neg (by omega)]
          · have hlt : closedS { s with top := max s.top e.time } < x := by omega
            rw [if_neg hx, if_pos hlt, hcnt]
            by_cases hxe : x = e.time
            · subst hxe; rw [if_pos rfl, if_pos rfl, he]
            · rw [if_neg hxe, if_neg hxe, hi.cnt, if_pos (by omega), Int.add_zero]
        · show x ≤ max s.top e.time
          rcases List.mem_append.1 hx with hx | hx
          · have := hi.top x hx; omega
          · rw [List.mem_singleton] at hx; omega
        · show _ ≤ s.cfg.rate
          rw [hcnt]
          have := hi.rate t
          split
          · rename_i ht; subst ht; omega
          · omega
  rw [if_neg c0]
  by_cases c1 : e.kind = 1
  · rw [if_pos c1]
    split
    · exact ⟨Int.le_refl _, fun h => absurd h c0, fun _ => ⟨hi.cnt, hi.top, hi.rate⟩⟩
    · exact ⟨Int.le_refl _, fun h => absurd h c0, fun _ => hi⟩
  rw [if_neg c1]
  split
  · split
    · exact ⟨Int.le_refl _, fun h => absurd h c0, fun _ => hi⟩
    · split
      · exact ⟨Int.le_refl _, fun h => absurd h c0, fun _ => ⟨hi.cnt, hi.top, hi.rate⟩⟩
      · split
        · exact ⟨Int.le_refl _, fun h => absurd h c0, fun _ => hi⟩
        · exact ⟨by show s.top ≤ max s.top e.time; omega, fun h => absurd h c0, fun _ => fin_raise hi _⟩
  · exact ⟨Int.le_refl _, fun h => absurd h c0, fun _ => hi⟩

/-! ### The walk -/
section
variable {B : Base} {w : World} {Kp : Value → Prop} {xo yo : Operand}
theorem int_nil {p : Nat} : pureK Tryz.prog (sBin .eql T_p_intake_Intake xo yo (ptrI p) (.pointer none)) Kp = Kp (.bool false) := bin_eql_ptr_nil U_p_intake_Intake
theorem int_nn {p : Nat} : pureK Tryz.prog (sBin .neq T_p_intake_Intake xo yo (ptrI p) (.pointer none)) Kp = Kp (.bool true) := bin_neq_ptr_nil U_p_intake_Intake
theorem nil_nil : pureK Tryz.prog (sBin .eql T_p_intake_Intake xo yo (.pointer none) (.pointer none)) Kp = Kp (.bool true) := pureK_eq fun w => sBin_eq rfl (run_eql_pointer_nil w T_p_intake_Intake none U_p_intake_Intake)
theorem nil_nn : pureK Tryz.prog (sBin .neq T_p_intake_Intake xo yo (.pointer none) (.pointer none)) Kp = Kp (.bool false) := pureK_eq fun w => sBin_eq rfl (run_neq_pointer_nil w T_p_intake_Intake none U_p_intake_Intake)
end
theorem knS_len : knS.length ≤ 4611686018427387904 := by decide
end Go.Proofs.YtefinemhfgdpdaaGreatDoor
