/-
  Intake: Apply. No condition.
-/
import Derived.Test.YtefinemhfgdpdaaIntB
namespace Go.Proofs.Ytefinemhfgdpdaa
open Go.RowKit

def acceptS (s : IS) (e : EnD) (r : List ValD) : (Int × Int) × IS :=
  let x := putI s e r
  if x.2 ≠ 0 then (x, if x.2 ≠ 5 then { s with refused := s.refused + 1 } else s)
  else (x, raiseS { s with prods := putS s.prods e.producer e.epoch e.seq x.1, next := s.next + 1, cnt := fun t => if t = e.time then s.cnt e.time + 1 else s.cnt t } e.time)
def applyS (s : IS) (e : EnD) (r : List ValD) : (Int × Int) × IS :=
  if e.kind = 0 then acceptS s e r
  else if e.kind = 1 then (((fenceS s.prods e.producer).2.1, (fenceS s.prods e.producer).2.2), if (fenceS s.prods e.producer).2.2 = 0 then { s with prods := (fenceS s.prods e.producer).1 } else s)
  else if e.kind = 2 ∨ e.kind = 3 then
    if ¬ timeOk e.time then ((0, 3), s) else if e.kind = 3 then ((0, 0), { s with now := max s.now e.time }) else if s.now + s.cfg.ahead < e.time then ((0, 21), s) else ((0, 0), raiseS s e.time)
  else ((0, 1), s)
theorem putI_ok {s : IS} {e : EnD} {r : List ValD} (h : (putI s e r).2 = 0) : (lookS s.prods e.producer e.epoch e.seq).2 = 0 ∧ timeOk e.time ∧ fitsS s.known e.source e.schema r = 0 ∧ closedS s < e.time ∧ e.time ≤ s.now + s.cfg.ahead ∧ s.cnt e.time < s.cfg.rate ∧ (putI s e r).1 = s.next := by
  unfold putI at h ⊢
  by_cases c0 : (lookS s.prods e.producer e.epoch e.seq).2 ≠ 0
  · rw [if_pos c0] at h; exact absurd h c0
  rw [if_neg c0] at h ⊢
  by_cases c1 : ¬ timeOk e.time
  · rw [if_pos c1] at h; cases h
  rw [if_neg c1] at h ⊢
  by_cases c2 : fitsS s.known e.source e.schema r ≠ 0
  · rw [if_pos c2] at h; exact absurd h c2
  rw [if_neg c2] at h ⊢
  by_cases c3 : e.time ≤ closedS s
  · rw [if_pos c3] at h; cases h
  rw [if_neg c3] at h ⊢
  by_cases c4 : s.now + s.cfg.ahead < e.time
  · rw [if_pos c4] at h; cases h
  rw [if_neg c4] at h ⊢
  by_cases c5 : s.cfg.rate ≤ s.cnt e.time
  · rw [if_pos c5] at h; cases h
  rw [if_neg c5]
  exact ⟨Decidable.of_not_not c0, Decidable.of_not_not c1, Decidable.of_not_not c2, by omega, by omega, by omega, rfl⟩
theorem raise_good {s : IS} {t : Int} (h : GoodIS s) (ht : timeOk t) : GoodIS (raiseS s t) := by
  obtain ⟨h1, h2⟩ := ht
  have h3 := h.top
  refine ⟨h.cfg, h.prods, h.now, ⟨by show -1 ≤ max s.top t; omega, by show max s.top t ≤ _; omega⟩, h.next, h.refused, fun x => ?_⟩
  show 0 ≤ (if _ then (0 : Int) else _) ∧ (if _ then (0 : Int) else _) ≤ _
  have := h.cfg.rate
  split
  · exact ⟨Int.le_refl 0, by show (0 : Int) ≤ s.cfg.rate; omega⟩
  · exact h.cnt x
theorem apply_good {s : IS} (h : GoodIS s) (e : EnD) (r : List ValD) (h1 : s.next < 1000000000) (h2 : s.refused < 1000000000) :
    GoodIS (applyS s e r).2 ∧ (applyS s e r).2.cfg = s.cfg ∧ (applyS s e r).2.known = s.known ∧ (applyS s e r).2.next ≤ s.next + 1 ∧ (applyS s e r).2.refused ≤ s.refused + 1 := by
  unfold applyS
  have hn := h.next
  have hf := h.refused
  have keep : GoodIS s ∧ s.cfg = s.cfg ∧ s.known = s.known ∧ s.next ≤ s.next + 1 ∧ s.refused ≤ s.refused + 1 := ⟨h, rfl, rfl, by omega, by omega⟩
  by_cases c0 : e.kind = 0
  · rw [if_pos c0]
    unfold acceptS
    simp only
    by_cases c : (putI s e r).2 ≠ 0
    · rw [if_pos c]
      simp only
      split
      · exact ⟨⟨h.cfg, h.prods, h.now, h.top, h.next, ⟨by show 0 ≤ s.refused + 1; omega, by show s.refused + 1 ≤ _; omega⟩, h.cnt⟩, rfl, rfl, by show s.next ≤ _; omega, Int.le_refl _⟩
      · exact keep
    · rw [if_neg c]
      obtain ⟨p1, p2, p3, p4, p5, p6, p7⟩ := putI_ok (Decidable.of_not_not c)
      refine ⟨raise_good ⟨h.cfg, put_right h.prods _ _ _ _, h.now, h.top, ⟨by show 0 ≤ s.next + 1; omega, by show s.next + 1 ≤ _; omega⟩, h.refused, fun t => ?_⟩ p2, rfl, rfl, Int.le_refl _, by show s.refused ≤ _; omega⟩
      show 0 ≤ (if t = e.time then s.cnt e.time + 1 else s.cnt t) ∧ (if t = e.time then s.cnt e.time + 1 else s.cnt t) ≤ s.cfg.rate
      have := h.cnt e.time
      split
      · omega
      · exact h.cnt t
  rw [if_neg c0]
  by_cases c1 : e.kind = 1
  · rw [if_pos c1]
    simp only
    split
    · rename_i hz
      exact ⟨⟨h.cfg, fence_right h.prods hz, h.now, h.top, h.next, h.refused, h.cnt⟩, rfl, rfl, by show s.next ≤ _; omega, by show s.refused ≤ _; omega⟩
    · exact keep
  rw [if_neg c1]
  split
  · split
    · exact keep
    · rename_i ht
      have ht := Decidable.of_not_not ht
      have h3 := h.now
      split
      · exact ⟨⟨h.cfg, h.prods, ⟨by show 0 ≤ max s.now e.time; omega, by show max s.now e.time ≤ _; have := ht.2; omega⟩, h.top, h.next, h.refused, h.cnt⟩, rfl, rfl, by show s.next ≤ _; omega, by show s.refused ≤ _; omega⟩
      · split
        · exact keep
        · exact ⟨raise_good h ht, rfl, rfl, by show s.next ≤ _; omega, by show s.refused ≤ _; omega⟩
  · exact keep

section
variable {B : Base} {w : World} {p : Nat} {s : IS} {σ : List Dat}
theorem intD.openL (h : Rel B w (σ ++ [intD p s])) : ∃ kv pv m l c, CntOk s.cnt l c ∧ Rel B w (σ ++ [cellD p T_intake_Intake (ics s kv pv m), mapE m l c, knownD kv.1 s.known, tabD pv.1 s.prods]) := by
  obtain ⟨x, h⟩ := h.ex (i := σ.length) get_last
  rw [List.set_append_right _ _ (Nat.le_refl _), Nat.sub_self, List.set_cons_zero] at h
  obtain ⟨h1, h⟩ := h.pureAnd (i := σ.length) get_last
  rw [List.set_append_right _ _ (Nat.le_refl _), Nat.sub_self, List.set_cons_zero] at h
  have h := Rel.unstars (L := iparts p s x) h
  exact ⟨_, _, _, _, _, h1, h⟩
theorem intD.closeL {kv pv : SV} {m c : Nat} {l : List (Ent Int Int)} (hc : CntOk s.cnt l c) (h : Rel B w (σ ++ [cellD p T_intake_Intake (ics s kv pv m), mapE m l c, knownD kv.1 s.known, tabD pv.1 s.prods])) : Rel B w (σ ++ [intD p s]) := by
  have h := Rel.restars h
  have h := h.imp (i := σ.length) (e := intD p s) get_last fun B hB => ⟨((kv, pv), (m, l, c)), hc, hB⟩
  rw [List.set_append_right _ _ (Nat.le_refl _), Nat.sub_self, List.set_cons_zero] at h
  exact h
theorem CntOk.incr {cnt : Int → Int} {l : List (Ent Int Int)} {c : Nat} (h : CntOk cnt l c) (h0 : ∀ t, 0 ≤ cnt t) (t : Int) : CntOk (fun x => if x = t then cnt t + 1 else cnt x) (setE t (cnt t + 1) l c).1 (setE t (cnt t + 1) l c).2 := by
  refine ⟨h.wf.set _ _, fun x => ?_⟩
  rw [setE_get h.wf.keys]
  by_cases hx : x = t
  · subst hx
    have := h0 x
    rw [if_pos rfl, if_pos rfl, if_neg (by omega)]
  · rw [if_neg hx, if_neg hx, h.get]
def iPost (p : Nat) (x : (Int × Int) × IS) : Value → Dat → List Dat → Prop := fun v e' τ => v = .tuple #[.int .i64 x.1.1, .int .i64 x.1.2] ∧ e' = intD p x.2 ∧ τ = []
theorem tabD.oneCell {u : Value} {t : List Pr} (h : tabD u t B) : u.oneCell' = true := by
  obtain ⟨L, _, r, _⟩ := h
  exact rowR.oneCell r
set_option maxHeartbeats 1000000 in
theorem accept_d (hg : GoodIS s) (h1 : s.next < 1000000000) (h2 : s.refused < 1000000000) {en : EnD} {r : List ValD} (hr : rowR en.row.1 r B) (hrl : r.length ≤ 4611686018427387904) (hkl : s.known.length ≤ 4611686018427387904) :
    Does Try.prog B (intD p s) (sCall F_intake_Intake_accept #[ptrI p, en.v]) (iPost p (acceptS s en r)) := by
  refine Does.intro fun B' w K base h k => ?_
  replace hr := base hr
  refine intake_Intake_accept.up (intake_Intake_accept.call ?_)
  unfold intake_Intake_accept.pt
  have fin : ∀ (x : (Int × Int) × IS) w' τ, acceptS s en r = x → Rel B' w' ([intD p x.2] ++ τ) → K (.tuple #[.int .i64 x.1.1, .int .i64 x.1.2]) w' := fun x w' τ e h => k _ _ [] w' ⟨by rw [e], by rw [e], rfl⟩ h.drop
  clear k
  unfold acceptS at fin
  simp only at fin
  refine h.box fun o w1 h => ?_
  have h : Rel B' w1 [intD p s, cellD o T_api_Entry en.cs.toArray] := h
  rw [h.ldAg 1 rfl ag_api_Entry rfl]
  refine h.ask (fun B2 own base2 => putI_g (own (i := 0) rfl) hg (base2 hr) hrl hkl) fun w2 h => ?_
  simp -zeta only [ext_2_0, ext_2_1, bin_neq, ifB_not, ifB_dec]
  have hn := hg.next
  have hf := hg.refused
  refine ⟨fun c => ?_, fun c => ?_⟩
  · rw [if_neg (fun hh => hh c)] at fin
    obtain ⟨p1, p2, p3, p4, p5, p6, p7⟩ := putI_ok c
    have h := h.tick
    have h := h.pick [1, 0] (by decide)
    have h : Rel B' (tick w2) ([cellD o T_api_Entry en.cs.toArray] ++ [intD p s]) := h
    obtain ⟨kv, pv, m, l, cc, hk, h⟩ := intD.openL h
    have h : Rel B' (tick w2) [cellD o T_api_Entry en.cs.toArray, cellD p T_intake_Intake (ics s kv pv m), mapE m l cc, knownD kv.1 s.known, tabD pv.1 s.prods] := h
    simp -zeta only [nil_ptr, field_addr f_intake_Intake_6, Nat.zero_add, h.ld 1 rfl sc_s_api_Producer (o := 11) rfl, h.ldAg 0 rfl ag_api_Entry rfl]
    refine h.make (post := fun u τ => OwnTab u (putS s.prods en.producer en.epoch en.seq (putI s en r).1) τ) (fun B2 own base2 => ?_) fun u τ w5 hp h => ?_
    · obtain ⟨L, hL, rt, qt⟩ : tabD pv.1 s.prods B2 := own (i := 4) rfl
      have := Put_o rt qt (by rw [hL]; exact hg.prods) en (putI s en r).1
      rw [hL] at this
      exact this
    have h := hp _ _ _ h
    generalize putI s en r = x at *
    have h : Rel B' w5 [cellD o T_api_Entry en.cs.toArray, cellD p T_intake_Intake (ics s kv pv m), mapE m l cc, knownD kv.1 s.known, tabD pv.1 s.prods, tabD u (putS s.prods en.producer en.epoch en.seq x.1)] := h
    have hu : u.oneCell' = true := tabD.oneCell (h.here (i := 5) rfl)
    refine h.st 1 rfl sc_s_api_Producer (show 11 < 13 by omega) hu fun w6 h => ?_
    have h := h.pick [0, 1, 2, 3, 5] (by decide)
    have h : Rel B' w6 [cellD o T_api_Entry en.cs.toArray, cellD p T_intake_Intake (ics { s with prods := putS s.prods en.producer en.epoch en.seq x.1 } kv ⟨u, hu⟩ m), mapE m l cc, knownD kv.1 s.known, tabD u (putS s.prods en.producer en.epoch en.seq x.1)] := h
    simp -zeta only [field_addr f_intake_Intake_4, Nat.zero_add, h.ld 1 rfl sc_int (o := 9) rfl, bin_add]
    rw [wrap_id (n := s.next + 1) (by omega) (by omega)]
    refine h.st 1 rfl sc_int (show 9 < 13 by omega) rfl fun w7 h => ?_
    have h : Rel B' w7 [cellD o T_api_Entry en.cs.toArray, cellD p T_intake_Intake (ics { s with prods := putS s.prods en.producer en.epoch en.seq x.1, next := s.next + 1 } kv ⟨u, hu⟩ m), mapE m l cc, knownD kv.1 s.known, tabD u (putS s.prods en.producer en.epoch en.seq x.1)] := h
    have h := h.tick
    simp -zeta only [field_addr f_intake_Intake_7, field_addr f_api_Entry_6, Nat.zero_add, h.ld 1 rfl sc_map_int_int (o := 12) rfl, h.ld 0 rfl sc_int (o := 6) rfl]
    have hcn := hg.cnt en.time
    have hrt := hg.cfg.rate
    rw [h.lookup 2 rfl U_map_int_int kIntI 0 z_int en.time, hk.getD, show (Enc.val (s.cnt en.time) : Value) = .int .i64 (s.cnt en.time) from rfl, bin_add, wrap_id (by omega) (by omega)]
    refine h.mapUpd 2 rfl U_map_int_int kIntI en.time (s.cnt en.time + 1) fun w8 h => ?_
    have h : Rel B' w8 [cellD o T_api_Entry en.cs.toArray, cellD p T_intake_Intake (ics { s with prods := putS s.prods en.producer en.epoch en.seq x.1, next := s.next + 1, cnt := fun t => if t = en.time then s.cnt en.time + 1 else s.cnt t } kv ⟨u, hu⟩ m), mapE m (setE en.time (s.cnt en.time + 1) l cc).1 (setE en.time (s.cnt en.time + 1) l cc).2, knownD kv.1 s.known, tabD u (putS s.prods en.producer en.epoch en.seq x.1)] := h
    simp -zeta only [h.ld 0 rfl sc_int (o := 6) rfl]
    have h := h.pick [1, 2, 3, 4] (by decide)
    refine raise_r (s := { s with prods := putS s.prods en.producer en.epoch en.seq x.1, next := s.next + 1, cnt := fun t => if t = en.time then s.cnt en.time + 1 else s.cnt t }) (hk.incr (fun t => (hg.cnt t).1) en.time) hg.cfg hg.top p2 h fun w9 l' hk' h => ?_
    have h := intD.closeL (σ := []) hk' h
    rw [← c]
    exact fin _ _ [] rfl h
  · rw [if_pos c] at fin
    refine LETJ_intro fun J hJ => ?_
    generalize putI s en r = x at *
    refine ⟨fun c5 => ?_, fun c5 => ?_⟩
    · rw [if_neg (fun hh => hh c5)] at fin
      exact hJ _ _ (fin _ _ _ rfl h)
    · rw [if_pos c5] at fin
      have h := h.pick [1, 0] (by decide)
      have h : Rel B' w2 ([cellD o T_api_Entry en.cs.toArray] ++ [intD p s]) := h
      obtain ⟨kv, pv, m, l, cc, hk, h⟩ := intD.openL h
      have h : Rel B' w2 [cellD o T_api_Entry en.cs.toArray, cellD p T_intake_Intake (ics s kv pv m), mapE m l cc, knownD kv.1 s.known, tabD pv.1 s.prods] := h
      simp -zeta only [nil_ptr, field_addr f_intake_Intake_5, Nat.zero_add, h.ld 1 rfl sc_int (o := 10) rfl, bin_add]
      rw [wrap_id (by omega) (by omega)]
      refine h.st 1 rfl sc_int (show 10 < 13 by omega) rfl fun w4 h => ?_
      have h := h.pick [1, 2, 3, 4] (by decide)
      have h := intD.closeL (s := { s with refused := s.refused + 1 }) (σ := []) hk h
      exact hJ _ _ (fin _ _ [] rfl h)
set_option maxHeartbeats 1000000 in
theorem apply_d (hg : GoodIS s) (h1 : s.next < 1000000000) (h2 : s.refused < 1000000000) {en : EnD} {r : List ValD} (hr : rowR en.row.1 r B) (hrl : r.length ≤ 4611686018427387904) (hkl : s.known.length ≤ 4611686018427387904) :
    Does Try.prog B (intD p s) (sCall F_intake_Intake_Apply #[ptrI p, en.v]) (iPost p (applyS s en r)) := by
  refine Does.intro fun B' w K base h k => ?_
  replace hr := base hr
  refine intake_Intake_Apply.up (intake_Intake_Apply.call ?_)
  unfold intake_Intake_Apply.pt
  have fin : ∀ (x : (Int × Int) × IS) w' τ, applyS s en r = x → Rel B' w' ([intD p x.2] ++ τ) → K (.tuple #[.int .i64 x.1.1, .int .i64 x.1.2]) w' := fun x w' τ e h => k _ _ [] w' ⟨by rw [e], by rw [e], rfl⟩ h.drop
  clear k
  unfold applyS at fin
  refine h.box fun o w1 h => ?_
  have h : Rel B' w1 [intD p s, cellD o T_api_Entry en.cs.toArray] := h
  simp -zeta only [field_addr f_api_Entry_0, Nat.add_zero, h.ld 1 rfl sc_int (o := 0) rfl, bin_eql, ifB_dec]
  refine ⟨fun c0 => ?_, fun c0 => ?_⟩
  · rw [if_pos c0] at fin
    rw [h.ldAg 1 rfl ag_api_Entry rfl]
    refine h.act 0 rfl (fun B2 own base2 => accept_d hg h1 h2 (base2 hr) hrl hkl) fun v e' τ w2 hp h => ?_
    obtain ⟨rfl, rfl, rfl⟩ := hp
    simp -zeta only [ext_2_0, ext_2_1]
    exact fin _ _ _ rfl h
  rw [if_neg c0] at fin
  refine ⟨fun c1 => ?_, fun c1 => ?_⟩
  · rw [if_pos c1] at fin
    have h := h.tick
    have h := h.pick [1, 0] (by decide)
    have h : Rel B' (tick w1) ([cellD o T_api_Entry en.cs.toArray] ++ [intD p s]) := h
    obtain ⟨kv, pv, m, l, cc, hk, h⟩ := intD.openL h
    have h : Rel B' (tick w1) [cellD o T_api_Entry en.cs.toArray, cellD p T_intake_Intake (ics s kv pv m), mapE m l cc, knownD kv.1 s.known, tabD pv.1 s.prods] := h
    simp -zeta only [nil_ptr, field_addr f_intake_Intake_6, field_addr f_api_Entry_1, Nat.zero_add, h.ld 1 rfl sc_s_api_Producer (o := 11) rfl, h.ld 0 rfl sc_int (o := 1) rfl]
    refine h.make (post := fun u τ => ∃ tv, u = .tuple #[tv, .int .i64 (fenceS s.prods en.producer).2.1, .int .i64 (fenceS s.prods en.producer).2.2] ∧ OwnTab tv (fenceS s.prods en.producer).1 τ) (fun B2 own base2 => ?_) fun u τ w3 hp h => ?_
    · obtain ⟨L, hL, rt, qt⟩ : tabD pv.1 s.prods B2 := own (i := 4) rfl
      have := Fence_o rt qt (by rw [hL]; exact hg.prods) en.producer
      rw [hL] at this
      exact this
    obtain ⟨tv, rfl, hp⟩ := hp
    have h := hp _ _ _ h
    generalize fenceS s.prods en.producer = f at *
    have h : Rel B' w3 [cellD o T_api_Entry en.cs.toArray, cellD p T_intake_Intake (ics s kv pv m), mapE m l cc, knownD kv.1 s.known, tabD pv.1 s.prods, tabD tv f.1] := h
    simp -zeta only [ext_3_0, ext_3_1, ext_3_2]
    refine LETJ_intro fun J hJ => ?_
    simp -zeta only [bin_eql, ifB_dec]
    refine ⟨fun cz => ?_, fun cz => ?_⟩
    · rw [if_pos cz] at fin
      have hu : tv.oneCell' = true := tabD.oneCell (h.here (i := 5) rfl)
      refine h.st 1 rfl sc_s_api_Producer (show 11 < 13 by omega) hu fun w5 h => ?_
      have h := h.pick [1, 2, 3, 5] (by decide)
      have h := intD.closeL (s := { s with prods := f.1 }) (pv := ⟨tv, hu⟩) (σ := []) hk h
      exact hJ _ _ (fin _ _ [] rfl h)
    · rw [if_neg cz] at fin
      have h := h.pick [1, 2, 3, 4] (by decide)
      have h := intD.closeL (σ := []) hk h
      exact hJ _ _ (fin _ _ [] rfl h)
  rw [if_neg c1] at fin
  refine LETJ_intro fun J hJ => ?_
  replace hJ : (∀ b : Bool, b = decide (en.kind = 2 ∨ en.kind = 3) → J (.bool b, ()) w1) := by
    intro b hb
    refine hJ _ _ ?_
    clear hJ
    rw [ifB_bool]
    refine ⟨fun cb => ?_, fun cb => ?_⟩
    · have hc : en.kind = 2 ∨ en.kind = 3 := by rw [cb] at hb; exact of_decide_eq_true hb.symm
      rw [if_pos hc] at fin
      simp -zeta only [field_addr f_api_Entry_6, Nat.zero_add, h.ld 1 rfl sc_int (o := 6) rfl]
      refine h.ask (fun B2 own base2 => isTime_g en.time) fun w7 h => ?_
      rw [un_not, ifB_not, ifB_dec]
      refine ⟨fun ct => ?_, fun ct => ?_⟩
      · rw [if_neg (fun hh => hh ct)] at fin
        simp -zeta only [h.ld 1 rfl sc_int (o := 0) rfl, bin_eql, ifB_dec]
        have ht := h.tick
        have ht := ht.pick [1, 0] (by decide)
        have ht : Rel B' (tick w7) ([cellD o T_api_Entry en.cs.toArray] ++ [intD p s]) := ht
        obtain ⟨kv, pv, m, l, cc, hk, ht⟩ := intD.openL ht
        have ht : Rel B' (tick w7) [cellD o T_api_Entry en.cs.toArray, cellD p T_intake_Intake (ics s kv pv m), mapE m l cc, knownD kv.1 s.known, tabD pv.1 s.prods] := ht
        have hnow := hg.now
        have hah := hg.cfg.ahead
        have hw : IntKind.i64.wrap (s.now + s.cfg.ahead) = s.now + s.cfg.ahead := wrap_id (by omega) (by omega)
        refine ⟨fun c3 => ?_, fun c3 => ?_⟩
        · rw [if_pos c3] at fin
          simp -zeta only [nil_ptr, field_addr f_intake_Intake_2, Nat.zero_add, ht.ld 1 rfl sc_int (o := 7) rfl, ht.ld 0 rfl sc_int (o := 6) rfl, blt_max]
          refine ht.st 1 rfl sc_int (show 7 < 13 by omega) rfl fun w8 h => ?_
          have h := h.pick [1, 2, 3, 4] (by decide)
          have h := intD.closeL (s := { s with now := max s.now en.time }) (σ := []) hk h
          exact fin ((0, 0), _) _ [] rfl h
        · rw [if_neg c3] at fin
          simp -zeta only [nil_ptr, field_addr f_intake_Intake_2, field_addr f_intake_Intake_0, field_addr f_api_Config_3, Nat.zero_add, ht.ld 1 rfl sc_int (o := 7) rfl, ht.ld 1 rfl sc_int (o := 3) rfl, ht.ld 0 rfl sc_int (o := 6) rfl, bin_add, hw, bin_gtr, ifB_dec]
          refine ⟨fun c4 => ?_, fun c4 => ?_⟩
          · rw [if_pos c4] at fin
            have ht := ht.pick [1, 2, 3, 4] (by decide)
            have ht := intD.closeL (σ := []) hk ht
            exact fin ((0, 21), _) _ [] rfl ht
          · rw [if_neg c4] at fin
            have ht := ht.pick [1, 2, 3, 4] (by decide)
            refine raise_r hk hg.cfg hg.top ct ht fun w9 l' hk' h => ?_
            have h := intD.closeL (σ := []) hk' h
            exact fin ((0, 0), _) _ [] rfl h
      · rw [if_pos ct] at fin
        exact fin ((0, 3), _) _ _ rfl h
    · have hc : ¬ (en.kind = 2 ∨ en.kind = 3) := by rw [cb] at hb; exact of_decide_eq_false hb.symm
      rw [if_neg hc] at fin
      exact fin ((0, 1), _) _ _ rfl h
  refine ⟨fun c2 => hJ _ (by rw [decide_eq_true (show en.kind = 2 ∨ en.kind = 3 from .inl c2), decide_eq_true c2]), fun c2 => ?_⟩
  exact hJ _ (decide_eq_decide.2 ⟨fun hh => .inr hh, fun hh => hh.elim (fun hh => absurd hh c2) id⟩)
end
end Go.Proofs.Ytefinemhfgdpdaa
