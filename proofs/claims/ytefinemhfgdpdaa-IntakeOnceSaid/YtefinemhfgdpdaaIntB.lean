/-
  Intake: a partition in memory; its readers; what is refused; raise. No condition.
-/
import Derived.Test.YtefinemhfgdpdaaIntA
namespace Go.Proofs.Ytefinemhfgdpdaa
open Go.RowKit

theorem kIntI : KeyTy Try.prog T_int Int := KeyTy.int U_int
abbrev CfD := D_api_Config
structure IS where
  cfg : CfD
  known : List Kn
  now : Int
  top : Int
  next : Int
  refused : Int
  prods : List Pr
  cnt : Int → Int
structure CntOk (cnt : Int → Int) (l : List (Ent Int Int)) (c : Nat) : Prop where
  wf : WfE l c
  get : ∀ t, getE t l = if cnt t = 0 then none else some (cnt t)
theorem CntOk.getD {cnt : Int → Int} {l : List (Ent Int Int)} {c : Nat} (h : CntOk cnt l c) (t : Int) : (getE t l).getD 0 = cnt t := by
  rw [h.get]
  split
  · rename_i h; exact h.symm
  · rfl
structure RightC (c : CfD) : Prop where
  late : 0 ≤ c.late ∧ c.late ≤ 10000
  delay : 0 ≤ c.delay ∧ c.delay ≤ c.late
  ahead : 0 ≤ c.ahead ∧ c.ahead ≤ 10000
  rate : 1 ≤ c.rate ∧ c.rate ≤ 20
structure GoodIS (s : IS) : Prop where
  cfg : RightC s.cfg
  prods : RightT s.prods
  now : 0 ≤ s.now ∧ s.now ≤ 1099511627776
  top : -1 ≤ s.top ∧ s.top ≤ 1099511627776
  next : 0 ≤ s.next ∧ s.next ≤ 1000000000
  refused : 0 ≤ s.refused ∧ s.refused ≤ 1000000000
  cnt : ∀ t, 0 ≤ s.cnt t ∧ s.cnt t ≤ s.cfg.rate
def closedS (s : IS) : Int := max (-1) (s.top - s.cfg.late - 1)
def markS (s : IS) : Int := max (-1) (s.top - s.cfg.delay - 1)
def raiseS (s : IS) (t : Int) : IS := { s with top := max s.top t, cnt := fun x => if x ≤ closedS { s with top := max s.top t } then 0 else s.cnt x }
def timeOk (t : Int) : Prop := 0 ≤ t ∧ t ≤ 1099511627776
instance (t : Int) : Decidable (timeOk t) := by unfold timeOk; infer_instance
def putI (s : IS) (e : EnD) (r : List ValD) : Int × Int :=
  if (lookS s.prods e.producer e.epoch e.seq).2 ≠ 0 then lookS s.prods e.producer e.epoch e.seq else if ¬ timeOk e.time then (0, 3) else if fitsS s.known e.source e.schema r ≠ 0 then (0, fitsS s.known e.source e.schema r)
  else if e.time ≤ closedS s then (0, 20) else if s.now + s.cfg.ahead < e.time then (0, 21) else if s.cfg.rate ≤ s.cnt e.time then (0, 22) else (s.next, 0)

abbrev ics (s : IS) (kv pv : SV) (m : Nat) : Array Value := #[.int .i64 s.cfg.parts, .int .i64 s.cfg.delay, .int .i64 s.cfg.late, .int .i64 s.cfg.ahead, .int .i64 s.cfg.rate, .int .i64 s.cfg.span, kv.1, .int .i64 s.now, .int .i64 s.top, .int .i64 s.next, .int .i64 s.refused, pv.1, mapV m]
abbrev IX := (SV × SV) × (Nat × List (Ent Int Int) × Nat)
abbrev iparts (p : Nat) (s : IS) (x : IX) : List Dat := [cellD p T_intake_Intake (ics s x.1.1 x.1.2 x.2.1), mapE x.2.1 x.2.2.1 x.2.2.2, knownD x.1.1.1 s.known, tabD x.1.2.1 s.prods]
def intD (p : Nat) (s : IS) : Dat := Dat.ex fun x : IX => (Dat.pure (CntOk s.cnt x.2.2.1 x.2.2.2)).and (stars (iparts p s x))
section
variable {B : Base} {w : World} {p : Nat} {s : IS}
theorem intD.open_ (h : Rel B w [intD p s]) : ∃ kv pv m l c, CntOk s.cnt l c ∧ Rel B w [cellD p T_intake_Intake (ics s kv pv m), mapE m l c, knownD kv.1 s.known, tabD pv.1 s.prods] := by
  obtain ⟨x, h⟩ := h.ex (i := 0) rfl
  obtain ⟨h1, h⟩ := h.pureAnd (i := 0) rfl
  have h := Rel.unstars (σ := []) (L := iparts p s x) h
  exact ⟨_, _, _, _, _, h1, h⟩
theorem intD.close {kv pv : SV} {m c : Nat} {l : List (Ent Int Int)} (hc : CntOk s.cnt l c) (h : Rel B w [cellD p T_intake_Intake (ics s kv pv m), mapE m l c, knownD kv.1 s.known, tabD pv.1 s.prods]) : Rel B w [intD p s] := by
  have h := Rel.restars (σ := []) h
  exact h.imp (i := 0) (e := intD p s) rfl fun B hB => ⟨((kv, pv), (m, l, c)), hc, hB⟩
theorem intD.peek (h : intD p s B) : ∃ kv pv m l c, CntOk s.cnt l c ∧ cellD p T_intake_Intake (ics s kv pv m) B ∧ mapE m l c B ∧ knownD kv.1 s.known B ∧ tabD pv.1 s.prods B := by
  obtain ⟨x, h1, h3⟩ := h
  exact ⟨_, _, _, _, _, h1, Dat.star.left h3, Dat.star.left (Dat.star.right h3), Dat.star.left (Dat.star.right (Dat.star.right h3)), Dat.star.left (Dat.star.right (Dat.star.right (Dat.star.right h3)))⟩
abbrev ptrI (p : Nat) : Value := .pointer (some ⟨p, 0, none⟩)
theorem iNow_g (hI : intD p s B) : Gives Try.prog B (sCall F_intake_Intake_Now #[ptrI p]) (.int .i64 s.now) := by
  refine Gives.intro fun B' w K base h k => ?_
  obtain ⟨kv, pv, m, l, c, _, hc, _⟩ := intD.peek (base hI)
  refine intake_Intake_Now.up (intake_Intake_Now.call ?_)
  unfold intake_Intake_Now.pt
  simp -zeta only [nil_ptr, field_addr f_intake_Intake_2, Nat.zero_add, cellD.ld (h.hereB hc) sc_int (o := 7) rfl]
  exact k _ _ h
theorem iTop_g (hI : intD p s B) : Gives Try.prog B (sCall F_intake_Intake_Top #[ptrI p]) (.int .i64 s.top) := by
  refine Gives.intro fun B' w K base h k => ?_
  obtain ⟨kv, pv, m, l, c, _, hc, _⟩ := intD.peek (base hI)
  refine intake_Intake_Top.up (intake_Intake_Top.call ?_)
  unfold intake_Intake_Top.pt
  simp -zeta only [nil_ptr, field_addr f_intake_Intake_3, Nat.zero_add, cellD.ld (h.hereB hc) sc_int (o := 8) rfl]
  exact k _ _ h
theorem iNext_g (hI : intD p s B) : Gives Try.prog B (sCall F_intake_Intake_Next #[ptrI p]) (.int .i64 s.next) := by
  refine Gives.intro fun B' w K base h k => ?_
  obtain ⟨kv, pv, m, l, c, _, hc, _⟩ := intD.peek (base hI)
  refine intake_Intake_Next.up (intake_Intake_Next.call ?_)
  unfold intake_Intake_Next.pt
  simp -zeta only [nil_ptr, field_addr f_intake_Intake_4, Nat.zero_add, cellD.ld (h.hereB hc) sc_int (o := 9) rfl]
  exact k _ _ h
theorem iRefused_g (hI : intD p s B) : Gives Try.prog B (sCall F_intake_Intake_Refused #[ptrI p]) (.int .i64 s.refused) := by
  refine Gives.intro fun B' w K base h k => ?_
  obtain ⟨kv, pv, m, l, c, _, hc, _⟩ := intD.peek (base hI)
  refine intake_Intake_Refused.up (intake_Intake_Refused.call ?_)
  unfold intake_Intake_Refused.pt
  simp -zeta only [nil_ptr, field_addr f_intake_Intake_5, Nat.zero_add, cellD.ld (h.hereB hc) sc_int (o := 10) rfl]
  exact k _ _ h
theorem iClosed_c {kv pv : SV} {m : Nat} (hc : cellD p T_intake_Intake (ics s kv pv m) B) (hg : RightC s.cfg) (ht : -1 ≤ s.top ∧ s.top ≤ 1099511627776) : Gives Try.prog B (sCall F_intake_Intake_Closed #[ptrI p]) (.int .i64 (closedS s)) := by
  refine Gives.intro fun B' w K base h k => ?_
  replace hc := base hc
  refine intake_Intake_Closed.up (intake_Intake_Closed.call ?_)
  unfold intake_Intake_Closed.pt
  have h := h.tick
  have h1 := hg.late
  simp -zeta only [nil_ptr, field_addr f_intake_Intake_3, field_addr f_intake_Intake_0, field_addr f_api_Config_2, Nat.zero_add, cellD.ld (h.hereB hc) sc_int (o := 8) rfl, cellD.ld (h.hereB hc) sc_int (o := 2) rfl, bin_sub, blt_max]
  rw [wrap_id (n := s.top - s.cfg.late) (by omega) (by omega), wrap_id (by omega) (by omega)]
  exact k _ _ h
theorem iClosed_g (hI : intD p s B) (hg : GoodIS s) : Gives Try.prog B (sCall F_intake_Intake_Closed #[ptrI p]) (.int .i64 (closedS s)) := by
  obtain ⟨kv, pv, m, l, c, _, hc, _⟩ := intD.peek hI
  exact iClosed_c hc hg.cfg hg.top
theorem iMark_g (hI : intD p s B) (hg : GoodIS s) : Gives Try.prog B (sCall F_intake_Intake_Mark #[ptrI p]) (.int .i64 (markS s)) := by
  refine Gives.intro fun B' w K base h k => ?_
  obtain ⟨kv, pv, m, l, c, _, hc, _⟩ := intD.peek (base hI)
  refine intake_Intake_Mark.up (intake_Intake_Mark.call ?_)
  unfold intake_Intake_Mark.pt
  have h := h.tick
  have h1 := hg.cfg.late
  have h2 := hg.cfg.delay
  have h3 := hg.top
  simp -zeta only [nil_ptr, field_addr f_intake_Intake_3, field_addr f_intake_Intake_0, field_addr f_api_Config_1, Nat.zero_add, cellD.ld (h.hereB hc) sc_int (o := 8) rfl, cellD.ld (h.hereB hc) sc_int (o := 1) rfl, bin_sub, blt_max]
  rw [wrap_id (n := s.top - s.cfg.delay) (by omega) (by omega), wrap_id (by omega) (by omega)]
  exact k _ _ h
theorem iCount_g (hI : intD p s B) (t : Int) : Gives Try.prog B (sCall F_intake_Intake_Count #[ptrI p, .int .i64 t]) (.int .i64 (s.cnt t)) := by
  refine Gives.intro fun B' w K base h k => ?_
  obtain ⟨kv, pv, m, l, c, hk, hc, hm, _⟩ := intD.peek (base hI)
  refine intake_Intake_Count.up (intake_Intake_Count.call ?_)
  unfold intake_Intake_Count.pt
  simp -zeta only [nil_ptr, field_addr f_intake_Intake_7, Nat.zero_add, cellD.ld (h.hereB hc) sc_map_int_int (o := 12) rfl]
  rw [mapE.look (h.hereB hm) U_map_int_int kIntI 0 z_int t, hk.getD]
  exact k _ _ h
theorem isTime_g (t : Int) : Gives Try.prog B (sCall F_intake_isTime #[.int .i64 t]) (.bool (decide (timeOk t))) := by
  refine Gives.intro fun B' w K base h k => ?_
  refine intake_isTime.up (intake_isTime.call ?_)
  unfold intake_isTime.pt
  refine h.ask (v := .bool (decide (timeOk t))) (fun B2 own base2 => ?_) fun w1 h => k _ _ h
  refine Gives.intro fun B3 w K base3 h k => ?_
  refine intake_between.up (intake_between.call ?_)
  unfold intake_between.pt
  simp -zeta only [bin_geq, bin_leq, ifB_dec]
  refine ⟨fun c => ?_, fun c => ?_⟩
  · have e : decide (timeOk t) = decide (t ≤ 1099511627776) := decide_eq_decide.2 ⟨fun hh => hh.2, fun hh => ⟨c, hh⟩⟩
    rw [e] at k
    exact k _ _ h
  · rw [decide_eq_false (fun hh : timeOk t => c hh.1)] at k
    exact k _ _ h
theorem fitsI_c {kv pv : SV} {m : Nat} (hc : cellD p T_intake_Intake (ics s kv pv m) B) (hkn : knownD kv.1 s.known B) {en : EnD} {r : List ValD} (hr : rowR en.row.1 r B) (hrl : r.length ≤ 4611686018427387904) (hkl : s.known.length ≤ 4611686018427387904) :
    Gives Try.prog B (sCall F_intake_Intake_fits #[ptrI p, en.v]) (.int .i64 (fitsS s.known en.source en.schema r)) := by
  refine Gives.intro fun B' w K base h k => ?_
  replace hc := base hc
  replace hr := base hr
  obtain ⟨L, hL, rk, rc⟩ := base hkn
  have hal : (kraws L).length = L.length := List.length_map ..
  have hll : L.length ≤ 4611686018427387904 := by rw [← hL, List.length_map] at hkl; exact hkl
  refine intake_Intake_fits.up (intake_Intake_fits.call ?_)
  unfold intake_Intake_fits.pt
  refine h.box fun o w1 h => ?_
  have h : Rel B' w1 [cellD o T_api_Entry en.cs.toArray] := h
  simp -zeta only [nil_ptr, field_addr f_intake_Intake_1, Nat.zero_add, cellD.ld (h.hereB hc) sc_s_api_Known (o := 6) rfl, mk_func]
  refine h.ask (fun B2 own base2 => gslices_IndexFunc_s_api_Known_api_Known (base2 rk) (by omega) (fun x => decide (x.source = en.source) && decide (x.schema = en.schema)) fun B3 base3 x _ => fits1_g (base3 (own (i := 0) rfl)) x) fun w2 h => ?_
  have h := h
  have ht := h.tick
  unfold fitsS at k
  rcases idx_cases (fun x : KnD => decide (x.source = en.source) && decide (x.schema = en.schema)) (kraws L) with ⟨hi, hno⟩ | ⟨i, hi, hil, hat, hno⟩
  · rw [hi, bin_lss, decide_eq_true (by decide), ifB_true]
    have hf : s.known.find? (knOf en.source en.schema) = none := by
      rw [List.find?_eq_none, ← hL]
      intro x hx
      obtain ⟨y, hy, rfl⟩ := List.mem_map.1 hx
      have := hno (y.1.raw y.2) (List.mem_map_of_mem hy)
      simpa [knOf] using this
    rw [hf] at k
    exact k _ _ h
  · rw [hi, bin_lss, decide_eq_false (by omega), ifB_false]
    have hil' : i < L.length := by omega
    have hel : (kraws L)[i] = L[i].1.raw L[i].2 := by simp [kraws]
    have hf : s.known.find? (knOf en.source en.schema) = some L[i].1 := by
      rw [← hL, List.find?_eq_some_iff_getElem]
      rw [hel] at hat
      refine ⟨hat, i, by rw [List.length_map]; exact hil', by simp, fun j hj => ?_⟩
      have := hno ((kraws L)[j]'(by omega)) (List.mem_take_iff_getElem.2 ⟨j, by omega, rfl⟩)
      have hel2 : (kraws L)[j]'(by omega) = (L[j]'(by omega)).1.raw (L[j]'(by omega)).2 := by simp [kraws]
      rw [hel2] at this
      have this : knOf en.source en.schema (L[j]'(by omega)).1 = false := this
      simp [this]
    rw [hf] at k
    obtain ⟨g, oo, hx, hcc⟩ := rowR.idx rk sl_s_api_Known (P := Try.prog) (i := i) hil
    rw [hel] at hcc
    have hcc : cellsR g oo (L[i].1.raw L[i].2).cs B' := hcc
    have hcol : rowR L[i].2.1 L[i].1.cols B' := rc L[i] (List.getElem_mem hil')
    simp -zeta only [field_addr f_api_Entry_7, Nat.zero_add, ht.ld 0 rfl sc_s_api_Value (o := 7) rfl, cellD.ld (ht.hereB hc) sc_s_api_Known (o := 6) rfl, hx, field_addr f_api_Known_2, cellsR.ld (ht.hereB hcc) sc_s_api_Col (j := 2) rfl]
    refine ht.ask (fun B2 own base2 => equalKinds_g (base2 hr) (base2 hcol) hrl) fun w3 h => ?_
    simp only at k
    rw [un_not, ifB_not, ifB_bool]
    refine ⟨fun c1 => ?_, fun c1 => ?_⟩
    · simp -zeta only [h.ld 0 rfl sc_s_api_Value (o := 7) rfl]
      refine h.ask (fun B2 own base2 => rowRight_g (base2 hr) hrl) fun w4 h => ?_
      rw [un_not, ifB_not, ifB_bool]
      refine ⟨fun c2 => ?_, fun c2 => ?_⟩
      · rw [if_pos ⟨c1, c2⟩] at k; exact k _ _ h
      · rw [if_neg (fun hh => by rw [c2] at hh; cases hh.2)] at k; exact k _ _ h
    · rw [if_neg (fun hh => by rw [c1] at hh; cases hh.1)] at k; exact k _ _ h
theorem putI_g (hI : intD p s B) (hg : GoodIS s) {en : EnD} {r : List ValD} (hr : rowR en.row.1 r B) (hrl : r.length ≤ 4611686018427387904) (hkl : s.known.length ≤ 4611686018427387904) :
    Gives Try.prog B (sCall F_intake_Intake_put #[ptrI p, en.v]) (.tuple #[.int .i64 (putI s en r).1, .int .i64 (putI s en r).2]) := by
  refine Gives.intro fun B' w K base h k => ?_
  obtain ⟨kv, pv, m, l, c, hk, hc, hm, hkn, L, hL, rt, qt⟩ := intD.peek (base hI)
  replace hr := base hr
  refine intake_Intake_put.up (intake_Intake_put.call ?_)
  unfold intake_Intake_put.pt
  have fin : ∀ (x : Int × Int) w' τ, putI s en r = x → Rel B' w' τ → K (.tuple #[.int .i64 x.1, .int .i64 x.2]) w' := fun x w' τ e h => by rw [e] at k; exact k _ _ h
  clear k
  unfold putI at fin
  have hR : RightT (prs L) := by rw [hL]; exact hg.prods
  refine h.box fun o w1 h => ?_
  have h : Rel B' w1 [cellD o T_api_Entry en.cs.toArray] := h
  have h := h.tick
  simp -zeta only [nil_ptr, field_addr f_intake_Intake_6, Nat.zero_add, cellD.ld (h.hereB hc) sc_s_api_Producer (o := 11) rfl, h.ldAg 0 rfl ag_api_Entry rfl]
  refine h.ask (fun B2 own base2 => Look_g (base2 rt) (base2 qt) hR en) fun w2 h => ?_
  rw [hL]
  simp -zeta only [ext_2_0, ext_2_1, bin_neq, ifB_not, ifB_dec]
  refine ⟨fun c0 => ?_, fun c0 => fin _ _ _ (by rw [if_pos c0]) h⟩
  simp -zeta only [field_addr f_api_Entry_6, Nat.zero_add, h.ld 0 rfl sc_int (o := 6) rfl]
  refine h.ask (fun B2 own base2 => isTime_g en.time) fun w3 h => ?_
  rw [un_not, ifB_not, ifB_dec]
  refine ⟨fun c1 => ?_, fun c1 => fin (0, 3) _ _ (by rw [if_neg (fun hh => hh c0), if_pos c1]) h⟩
  rw [h.ldAg 0 rfl ag_api_Entry rfl]
  refine h.ask (fun B2 own base2 => fitsI_c (base2 hc) (base2 hkn) (base2 hr) hrl hkl) fun w4 h => ?_
  rw [bin_neq, ifB_not, ifB_dec]
  refine ⟨fun c2 => ?_, fun c2 => fin (0, fitsS s.known en.source en.schema r) _ _ (by rw [if_neg (fun hh => hh c0), if_neg (fun hh => hh c1), if_pos c2]) h⟩
  have h := h.tick
  simp -zeta only [h.ld 0 rfl sc_int (o := 6) rfl]
  refine h.ask (fun B2 own base2 => iClosed_c (base2 hc) hg.cfg hg.top) fun w5 h => ?_
  refine ⟨h.is 0 rfl sc_int (o := 6) rfl, ?_⟩
  rw [bin_leq, ifB_dec]
  refine ⟨fun c3 => fin (0, 20) _ _ (by rw [if_neg (fun hh => hh c0), if_neg (fun hh => hh c1), if_neg (fun hh => hh c2), if_pos c3]) h, fun c3 => ?_⟩
  have h := h.tick
  have hn := hg.now
  have ha := hg.cfg.ahead
  have hw : IntKind.i64.wrap (s.now + s.cfg.ahead) = s.now + s.cfg.ahead := wrap_id (by omega) (by omega)
  simp -zeta only [h.ld 0 rfl sc_int (o := 6) rfl, nil_ptr, field_addr f_intake_Intake_2, field_addr f_intake_Intake_0, field_addr f_api_Config_3, Nat.zero_add, cellD.ld (h.hereB hc) sc_int (o := 7) rfl, cellD.ld (h.hereB hc) sc_int (o := 3) rfl, bin_add, hw, bin_gtr, ifB_dec]
  refine ⟨fun c4 => fin (0, 21) _ _ (by rw [if_neg (fun hh => hh c0), if_neg (fun hh => hh c1), if_neg (fun hh => hh c2), if_neg c3, if_pos c4]) h, fun c4 => ?_⟩
  have h := h.tick
  simp -zeta only [h.ld 0 rfl sc_int (o := 6) rfl, field_addr f_intake_Intake_7, field_addr f_intake_Intake_4, field_addr f_api_Config_4, Nat.zero_add, cellD.ld (h.hereB hc) sc_map_int_int (o := 12) rfl, cellD.ld (h.hereB hc) sc_int (o := 4) rfl, cellD.ld (h.hereB hc) sc_int (o := 9) rfl]
  rw [mapE.look (h.hereB hm) U_map_int_int kIntI 0 z_int en.time, hk.getD, show (Enc.val (s.cnt en.time) : Value) = .int .i64 (s.cnt en.time) from rfl, bin_geq, ifB_dec]
  refine ⟨fun c5 => fin (0, 22) _ _ (by rw [if_neg (fun hh => hh c0), if_neg (fun hh => hh c1), if_neg (fun hh => hh c2), if_neg c3, if_neg c4, if_pos c5]) h, fun c5 => ?_⟩
  exact fin (s.next, 0) _ _ (by rw [if_neg (fun hh => hh c0), if_neg (fun hh => hh c1), if_neg (fun hh => hh c2), if_neg c3, if_neg c4, if_neg c5]) h

theorem deleteI_d {m c : Nat} {l : List (Ent Int Int)} (hw : WfE l c) {fv : Value} (q : Int → Bool) (hf : ∀ B' : Base, (∀ {d : Dat}, d B → d B') → ∀ e ∈ l, Gives Try.prog B' (sCallV fv #[Enc.val e.1, Enc.val e.2.1]) (.bool (q e.1))) :
    Does Try.prog B (mapE m l c) (sCall F_maps_DeleteFunc_map_int_int_int_int #[mapV m, fv]) fun v e' τ => v = .tuple #[] ∧ e' = mapE m (l.filter fun e => !q e.1) c ∧ τ = [] := by
  refine Does.intro fun B' w K base h k => ?_
  refine maps_DeleteFunc_map_int_int_int_int.up (maps_DeleteFunc_map_int_int_int_int.call ?_)
  unfold maps_DeleteFunc_map_int_int_int_int.pt
  refine h.range 0 rfl U_map_int_int fun it w1 h => ?_
  have e0 : (l.filter fun e => !((#[] : Array Nat).contains e.2.2 && q e.1)) = l := List.filter_eq_self.2 fun e _ => by simp
  refine LOOP_intro (fun _ w' => ∃ seen : Array Nat, Rel B' w' [mapE m (l.filter fun e => !(seen.contains e.2.2 && q e.1)) c, iterE it m c seen c]) (fun _ w' => unseenE l (seenOf w' it)) ⟨#[], by rw [e0]; exact h⟩ ?_
  clear h
  rintro x w2 ⟨seen, h⟩ next hnext
  have hms := seenOf_eq h (j := 1) rfl
  have hwf := hw.filter fun e => !(seen.contains e.2.2 && q e.1)
  refine h.next 0 1 it rfl rfl hwf.below (fun w3 hall h => ?_) (fun e w3 he hns h => ?_)
  · rw [show (sExtract (.tuple #[.bool false]) 0) = (sExtract (.tuple #[.bool false]) 0) from rfl, pureK_eq (v := .bool false) (fun w => rfl), ifB_false]
    have e1 : (l.filter fun e => !(seen.contains e.2.2 && q e.1)) = l.filter fun e => !q e.1 := by
      refine List.filter_congr fun e he => ?_
      cases hb : !(seen.contains e.2.2 && q e.1) with
      | true =>
        have := hall e (List.mem_filter.2 ⟨he, hb⟩)
        rw [this] at hb
        simpa using hb.symm
      | false =>
        simp at hb
        rw [hb.2]; rfl
    rw [e1] at h
    exact k _ _ [] _ ⟨rfl, rfl, rfl⟩ (h.take 1)
  · have hel : e ∈ l := (List.mem_filter.1 he).1
    rw [ext_3_0, ifB_true]
    refine h.entry 0 1 it rfl rfl he hwf.stamps fun w4 h => ?_
    rw [ext_2_0, ext_2_1]
    refine h.ask (fun B2 own base2 => hf B2 (fun hd => base2 (base hd)) e hel) fun w6 h => ?_
    have step : ∀ x ∈ l, x ≠ e → (seen.push e.2.2).contains x.2.2 = seen.contains x.2.2 := fun x hx hne => by
      rw [contains_push, decide_eq_false fun hh => hne (hw.eq_of_stamp hx hel hh), Bool.or_false]
    have hself : (seen.push e.2.2).contains e.2.2 = true := by simp [contains_push]
    rw [ifB_bool]
    refine ⟨fun hp => ?_, fun hp => ?_⟩
    · refine h.delete 0 rfl U_map_int_int kIntI e.1 fun w7 h => ?_
      have e2 : delE e.1 (l.filter fun e => !(seen.contains e.2.2 && q e.1)) = l.filter fun x => !((seen.push e.2.2).contains x.2.2 && q x.1) := by
        rw [delE_eq hwf.keys, List.filter_filter]
        refine List.filter_congr fun x hx => ?_
        by_cases hxe : x = e
        · subst hxe; rw [hself, hp]; simp
        · rw [step x hx hxe, decide_eq_true (p := x.1 ≠ e.1) (fun hh => hxe (hw.eq_of_key hx hel hh)), Bool.true_and]
      rw [e2] at h
      refine hnext _ _ ⟨_, h⟩ ?_
      show unseenE l (seenOf w7 it) < unseenE l (seenOf w2 it)
      rw [hms, seenOf_eq h (j := 1) rfl]
      exact unseen_push hel hns
    · have e2 : (l.filter fun e => !(seen.contains e.2.2 && q e.1)) = l.filter fun x => !((seen.push e.2.2).contains x.2.2 && q x.1) := by
        refine List.filter_congr fun x hx => ?_
        by_cases hxe : x = e
        · subst hxe; rw [hself, hp]; simp
        · rw [step x hx hxe]
      rw [e2] at h
      refine hnext _ _ ⟨_, h⟩ ?_
      show unseenE l (seenOf w6 it) < unseenE l (seenOf w2 it)
      rw [hms, seenOf_eq h (j := 1) rfl]
      exact unseen_push hel hns
theorem raise1_g {b : Nat} {c t n : Int} (hc : cellD b T_int #[.int .i64 c] B) : Gives Try.prog B (sCallV (.func (.func F_intake_Intake_raise_1) #[] #[.pointer (some ⟨b, 0, none⟩)]) #[.int .i64 t, .int .i64 n]) (.bool (decide (t ≤ c))) := by
  refine Gives.intro fun B' w K base h k => ?_
  replace hc := base hc
  refine call_v ?_
  refine intake_Intake_raise_1.up (time0 := .int .i64 t) (t1 := .int .i64 n) (t2 := .pointer (some ⟨b, 0, none⟩)) (intake_Intake_raise_1.call ?_)
  unfold intake_Intake_raise_1.pt
  simp -zeta only [cellD.ld (h.hereB hc) sc_int (o := 0) rfl, bin_leq]
  exact k _ _ h
theorem CntOk.raise {cnt : Int → Int} {l : List (Ent Int Int)} {c : Nat} (h : CntOk cnt l c) (z : Int) : CntOk (fun x => if x ≤ z then 0 else cnt x) (l.filter fun e => !decide (e.1 ≤ z)) c := by
  refine ⟨h.wf.filter _, fun t => ?_⟩
  rw [filter_get h.wf (fun x => !decide (x ≤ z)) t, h.get]
  by_cases ht : t ≤ z
  · simp [ht]
  · simp [ht]
/-- raise, over the parts. -/
theorem raise_r {kv pv : SV} {m c : Nat} {l : List (Ent Int Int)} {K : Value → World → Prop} {D1 D2 : Dat} (hc : CntOk s.cnt l c) (hg : RightC s.cfg) (ht0 : -1 ≤ s.top ∧ s.top ≤ 1099511627776) {t : Int} (ht : timeOk t)
    (h : Rel B w [cellD p T_intake_Intake (ics s kv pv m), mapE m l c, D1, D2])
    (k : ∀ w' l', CntOk (raiseS s t).cnt l' c → Rel B w' [cellD p T_intake_Intake (ics (raiseS s t) kv pv m), mapE m l' c, D1, D2] → K (.tuple #[]) w') : upK Try.prog (sCall F_intake_Intake_raise #[ptrI p, .int .i64 t]) w K := by
  obtain ⟨ht1, ht2⟩ := ht
  refine intake_Intake_raise.up (intake_Intake_raise.call ?_)
  unfold intake_Intake_raise.pt
  simp -zeta only [nil_ptr, field_addr f_intake_Intake_3, Nat.zero_add, h.ld 0 rfl sc_int (o := 8) rfl, blt_max]
  refine h.st 0 rfl sc_int (show 8 < 13 by omega) rfl fun w1 h => ?_
  have h : Rel B w1 [cellD p T_intake_Intake (ics { s with top := max s.top t } kv pv m), mapE m l c, D1, D2] := h
  refine h.ask (fun B2 own base2 => iClosed_c (s := { s with top := max s.top t }) (own (i := 0) rfl) hg (by show -1 ≤ max s.top t ∧ max s.top t ≤ 1099511627776; omega)) fun w2 h => ?_
  refine h.alloc z_int fun b w3 h => ?_
  refine h.st 4 rfl sc_int (show 0 < 1 by omega) rfl fun w4 h => ?_
  have h : Rel B w4 [cellD p T_intake_Intake (ics { s with top := max s.top t } kv pv m), mapE m l c, D1, D2, cellD b T_int #[.int .i64 (closedS { s with top := max s.top t })]] := h
  simp -zeta only [field_addr f_intake_Intake_7, Nat.zero_add, h.ld 0 rfl sc_map_int_int (o := 12) rfl, mk_func]
  refine h.act 1 rfl (fun B2 own base2 => deleteI_d hc.wf (fun x => decide (x ≤ closedS { s with top := max s.top t })) fun B3 base3 e _ => raise1_g (base3 (own (j := 4) (by decide) rfl))) fun v e' τ w5 hp h => ?_
  obtain ⟨rfl, rfl, rfl⟩ := hp
  exact k _ _ (hc.raise _) ((h.take 4))
end
end Go.Proofs.Ytefinemhfgdpdaa
