/-
  The reference of chapter 11: Apply. No condition.
-/
import Derived.Test.YtefinemhfgdpdaaGreatDoorIntW
namespace Go.Proofs.YtefinemhfgdpdaaGreatDoor
open Go.RowKit
set_option maxRecDepth 100000

section
variable {B : Base} {w : World} {p : Nat} {s : IS}
def fiPost (p : Nat) (x : (Int × Int) × IS) : Value → Dat → List Dat → Prop := fun v e' τ => v = .tuple #[.int .i64 x.1.1, .int .i64 x.1.2] ∧ e' = refD p x.2 ∧ τ = []
set_option maxHeartbeats 2000000 in
theorem fApply_d (hg : GoodIS s) (hke : KeysOk s) (h1 : s.next < 1000000000) (h2 : s.refused < 1000000000) {en : EnD} {r : List ValD} (hr : rowR en.row.1 r B) (hrl : r.length ≤ 4611686018427387904) (hkl : s.known.length ≤ 4611686018427387904) :
    Does Tryz.prog B (refD p s) (sCall F_errataref11_Intake_Apply #[ptrI p, en.v]) (fiPost p (applyS s en r)) := by
  refine Does.intro fun B' w K base h k => ?_
  replace hr := base hr
  have hlen : ∀ l : List CoD, LOk s.cnt l → l.length ≤ 10001 := fun l hl => hl.len hke hg.cfg
  refine errataref11_Intake_Apply.up (errataref11_Intake_Apply.call ?_)
  unfold errataref11_Intake_Apply.pt
  have fin : ∀ (x : (Int × Int) × IS) w' τ, applyS s en r = x → Rel B' w' ([refD p x.2] ++ τ) → K (.tuple #[.int .i64 x.1.1, .int .i64 x.1.2]) w' := fun x w' τ e h => k _ _ [] w' ⟨by rw [e], by rw [e], rfl⟩ h.drop
  clear k
  unfold applyS at fin
  have hn := hg.next
  have hf := hg.refused
  have hnow := hg.now
  have hah := hg.cfg.ahead
  have hrt := hg.cfg.rate
  refine h.box fun o w1 h => ?_
  have h : Rel B' w1 [refD p s, cellD o T_api_Entry en.cs.toArray] := h
  have opn : ∀ w', Rel B' w' [refD p s, cellD o T_api_Entry en.cs.toArray] → ∃ kv pv lv l, LOk s.cnt l ∧ Rel B' w' [cellD o T_api_Entry en.cs.toArray, cellD p T_errataref11_Intake (rcs s kv pv lv), rowR lv.1 l, knownD kv.1 s.known, tabD pv.1 s.prods] := fun w' h => by
    have h := h.pick [1, 0] (by decide)
    exact refD.openL (σ := [cellD o T_api_Entry en.cs.toArray]) h
  have opl : ∀ w', Rel B' w' [refD p s, cellD o T_api_Entry en.cs.toArray] → ∃ kv pv lv l L, LOk s.cnt l ∧ prs L = s.prods ∧ Rel B' w' [cellD o T_api_Entry en.cs.toArray, cellD p T_errataref11_Intake (rcs s kv pv lv), rowR lv.1 l, knownD kv.1 s.known, tabL pv.1 L] := fun w' h => by
    obtain ⟨kv, pv, lv, l, hk, h⟩ := opn w' h
    obtain ⟨L, hL, h⟩ := tabD.openL (σ := [cellD o T_api_Entry en.cs.toArray, cellD p T_errataref11_Intake (rcs s kv pv lv), rowR lv.1 l, knownD kv.1 s.known]) h
    exact ⟨kv, pv, lv, l, L, hk, hL, h⟩
  have rsf : ∀ (s2 : IS) (cnt2 : Int → Int) (kv pv lv : SV) (l : List CoD) (tl : List Dat) w' (K' : Value → World → Prop), LOk cnt2 l → RightC s2.cfg → -1 ≤ s2.top ∧ s2.top ≤ 1099511627776 → l.length ≤ 100001 → timeOk en.time → s2.cnt = cnt2 →
      Rel B' w' (cellD p T_errataref11_Intake (rcs s2 kv pv lv) :: [rowR lv.1 l, knownD kv.1 s2.known, tabD pv.1 s2.prods]) → (∀ w'', Rel B' w'' [refD p (raiseS s2 en.time)] → K' (.tuple #[]) w'') → upK Tryz.prog (sCall F_errataref11_Intake_raise #[ptrI p, .int .i64 en.time]) w' K' := by
    intro s2 cnt2 kv pv lv l tl w' K' hk hc ht hl hte he h k'
    subst he
    refine h.act 0 rfl (fun B2 own base2 => fRaise_d (s := s2) (own (j := 1) (by decide) rfl) hc ht hl hte) fun u e' τ w3 hp h => ?_
    obtain ⟨rfl, lv', rfl, rfl⟩ := hp
    have h : Rel B' w3 [cellD p T_errataref11_Intake (rcs (raiseS s2 en.time) kv pv lv'), rowR lv.1 l, knownD kv.1 s2.known, tabD pv.1 s2.prods, rowD T_errataref11_Count lv'.1 (l.filter fun x => decide (closedS { s2 with top := max s2.top en.time } < x.time))] := h
    have h := h.pick [0, 4, 2, 3] (by decide)
    have h : Rel B' w3 [cellD p T_errataref11_Intake (rcs (raiseS s2 en.time) kv pv lv'), rowD T_errataref11_Count lv'.1 (l.filter fun x => decide (closedS { s2 with top := max s2.top en.time } < x.time)), knownD kv.1 s2.known, tabD pv.1 s2.prods] := h
    have h := h.imp (i := 1) (e := rowR lv'.1 (l.filter fun x => decide (closedS { s2 with top := max s2.top en.time } < x.time))) rfl fun B hB => rowD.read hB
    exact k' _ (refD.closeL (s := raiseS s2 en.time) (σ := []) (hk.cut _) h)
  refine LETJ_intro fun J hJ => ?_
  replace hJ : ∀ b : Bool, b = decide (timeOk en.time) → J (.bool b, ()) w1 := by
    intro b hb
    refine hJ _ _ ?_
    clear hJ
    simp -zeta only [field_addr f_api_Entry_0, Nat.add_zero, h.ld 1 rfl sc_int (o := 0) rfl, bin_eql, ifB_dec]
    refine ⟨fun c0 => ?_, fun c0 => ?_⟩
    · have c0 : en.kind = 0 := c0
      rw [if_pos c0] at fin
      unfold acceptS at fin
      simp only at fin
      rw [h.ldAg 1 rfl ag_api_Entry rfl]
      refine h.ask (fun B2 own base2 => fPut11_g (own (i := 0) rfl) hg (fun l hl => by have := hlen l hl; omega) (base2 hr) hrl hkl) fun w2 h => ?_
      simp -zeta only [ext_2_0, ext_2_1, bin_neq, ifB_not, ifB_dec]
      refine ⟨fun c => ?_, fun c => ?_⟩
      · rw [if_neg (fun hh => hh c)] at fin
        obtain ⟨p1, p2, p3, p4, p5, p6, p7⟩ := putI_ok c
        have h := h.tick
        obtain ⟨kv, pv, lv, l, L, hk, hL, h⟩ := opl _ h
        have hll := hlen l hk
        simp -zeta only [nil_ptr, field_addr f_errataref11_Intake_6, Nat.zero_add, h.ld 1 rfl sc_s_api_Producer (o := 11) (v := pv.1) rfl, h.ldAg 0 rfl ag_api_Entry rfl]
        refine h.make (post := fun u τ => NextT pv.1 L u (putS s.prods en.producer en.epoch en.seq (putI s en r).1) τ) (fun B2 own base2 => ?_) fun u τ w5 hp h => ?_
        · have ht : tabL pv.1 L B2 := own (i := 4) rfl
          have := fPut_m ht.1 ht.2 (by rw [hL]; exact hg.prods) en (putI s en r).1
          rw [hL] at this
          exact this
        have h := NextT.step (σ := [cellD o T_api_Entry en.cs.toArray, cellD p T_errataref11_Intake (rcs s kv pv lv), rowR lv.1 l, knownD kv.1 s.known]) hp h
        generalize putI s en r = x at *
        have h : Rel B' w5 [cellD o T_api_Entry en.cs.toArray, cellD p T_errataref11_Intake (rcs s kv pv lv), rowR lv.1 l, knownD kv.1 s.known, tabD u (putS s.prods en.producer en.epoch en.seq x.1)] := h
        have hu : u.oneCell' = true := tabD.oneCell (h.here (i := 4) rfl)
        refine h.st 1 rfl sc_s_api_Producer (show 11 < 13 by omega) hu fun w6 h => ?_
        have h : Rel B' w6 [cellD o T_api_Entry en.cs.toArray, cellD p T_errataref11_Intake (rcs s kv ⟨u, hu⟩ lv), rowR lv.1 l, knownD kv.1 s.known, tabD u (putS s.prods en.producer en.epoch en.seq x.1)] := h
        simp -zeta only [field_addr f_errataref11_Intake_4, Nat.zero_add, h.ld 1 rfl sc_int (o := 9) (v := .int .i64 s.next) rfl, bin_add]
        rw [wrap_id (n := s.next + 1) (by omega) (by omega)]
        refine h.st 1 rfl sc_int (show 9 < 13 by omega) rfl fun w7 h => ?_
        have h : Rel B' w7 [cellD o T_api_Entry en.cs.toArray, cellD p T_errataref11_Intake (rcs { s with prods := putS s.prods en.producer en.epoch en.seq x.1, next := s.next + 1, cnt := fun t => if t = en.time then s.cnt en.time + 1 else s.cnt t } kv ⟨u, hu⟩ lv), rowR lv.1 l, knownD kv.1 s.known, tabD u (putS s.prods en.producer en.epoch en.seq x.1)] := h
        simp -zeta only [field_addr f_api_Entry_6, Nat.zero_add, h.ld 0 rfl sc_int (o := 6) (v := .int .i64 en.time) rfl]
        refine h.act 1 rfl (fun B2 own base2 => fAdd_d (cnt := s.cnt) (own (j := 2) (by decide) rfl) hk (fun t => by have := hg.cnt t; omega) (by omega) en.time) fun u' e' τ w8 hp h => ?_
        obtain ⟨rfl, lv', l', hk', hl', rfl, rfl⟩ := hp
        have h : Rel B' w8 [cellD o T_api_Entry en.cs.toArray, cellD p T_errataref11_Intake (rcs { s with prods := putS s.prods en.producer en.epoch en.seq x.1, next := s.next + 1, cnt := fun t => if t = en.time then s.cnt en.time + 1 else s.cnt t } kv ⟨u, hu⟩ lv'), rowR lv.1 l, knownD kv.1 s.known, tabD u (putS s.prods en.producer en.epoch en.seq x.1), rowD T_errataref11_Count lv'.1 l'] := h
        simp -zeta only [h.ld 0 rfl sc_int (o := 6) (v := .int .i64 en.time) rfl]
        have h := h.pick [1, 5, 3, 4] (by decide)
        have h : Rel B' w8 [cellD p T_errataref11_Intake (rcs { s with prods := putS s.prods en.producer en.epoch en.seq x.1, next := s.next + 1, cnt := fun t => if t = en.time then s.cnt en.time + 1 else s.cnt t } kv ⟨u, hu⟩ lv'), rowD T_errataref11_Count lv'.1 l', knownD kv.1 s.known, tabD u (putS s.prods en.producer en.epoch en.seq x.1)] := h
        have h := h.imp (i := 1) (e := rowR lv'.1 l') rfl fun B hB => rowD.read hB
        refine rsf { s with prods := putS s.prods en.producer en.epoch en.seq x.1, next := s.next + 1, cnt := fun t => if t = en.time then s.cnt en.time + 1 else s.cnt t } _ kv ⟨u, hu⟩ lv' l' [] _ _ hk' hg.cfg hg.top (by omega) p2 rfl h fun w9 h => ?_
        rw [← c]
        exact fin _ _ [] rfl h
      · rw [if_pos c] at fin
        refine LETJ_intro fun J2 hJ2 => ?_
        generalize putI s en r = x at *
        refine ⟨fun c5 => ?_, fun c5 => ?_⟩
        · rw [if_neg (fun hh => hh c5)] at fin
          exact hJ2 _ _ (fin _ _ _ rfl h)
        · rw [if_pos c5] at fin
          obtain ⟨kv, pv, lv, l, hk, h⟩ := opn _ h
          simp -zeta only [nil_ptr, field_addr f_errataref11_Intake_5, Nat.zero_add, h.ld 1 rfl sc_int (o := 10) (v := .int .i64 s.refused) rfl, bin_add]
          rw [wrap_id (by omega) (by omega)]
          refine h.st 1 rfl sc_int (show 10 < 13 by omega) rfl fun w4 h => ?_
          have h := h.pick [1, 2, 3, 4] (by decide)
          exact hJ2 _ _ (fin _ _ [] rfl (refD.closeL (s := { s with refused := s.refused + 1 }) (σ := []) hk h))
    have c0 : ¬ en.kind = 0 := c0
    rw [if_neg c0] at fin
    refine ⟨fun c1 => ?_, fun c1 => ?_⟩
    · have c1 : en.kind = 1 := c1
      rw [if_pos c1] at fin
      have h := h.tick
      obtain ⟨kv, pv, lv, l, L, hk, hL, h⟩ := opl _ h
      simp -zeta only [nil_ptr, field_addr f_errataref11_Intake_6, field_addr f_api_Entry_1, Nat.zero_add, h.ld 1 rfl sc_s_api_Producer (o := 11) (v := pv.1) rfl, h.ld 0 rfl sc_int (o := 1) (v := .int .i64 en.producer) rfl]
      refine h.make (post := fun u τ => ∃ tv, u = .tuple #[tv, .int .i64 (fenceS s.prods en.producer).2.1, .int .i64 (fenceS s.prods en.producer).2.2] ∧ NextT pv.1 L tv (fenceS s.prods en.producer).1 τ) (fun B2 own base2 => ?_) fun u τ w3 hp h => ?_
      · have ht : tabL pv.1 L B2 := own (i := 4) rfl
        have := fFence_m ht.1 ht.2 (by rw [hL]; exact hg.prods) en.producer
        rw [hL] at this
        exact this
      obtain ⟨tv, rfl, hp⟩ := hp
      generalize fenceS s.prods en.producer = f at *
      simp -zeta only [ext_3_0, ext_3_1, ext_3_2]
      refine LETJ_intro fun J3 hJ3 => ?_
      simp -zeta only [bin_eql, ifB_dec]
      refine ⟨fun cz => ?_, fun cz => ?_⟩
      · rw [if_pos cz] at fin
        have h := NextT.step (σ := [cellD o T_api_Entry en.cs.toArray, cellD p T_errataref11_Intake (rcs s kv pv lv), rowR lv.1 l, knownD kv.1 s.known]) hp h
        have h : Rel B' w3 [cellD o T_api_Entry en.cs.toArray, cellD p T_errataref11_Intake (rcs s kv pv lv), rowR lv.1 l, knownD kv.1 s.known, tabD tv f.1] := h
        have hu : tv.oneCell' = true := tabD.oneCell (h.here (i := 4) rfl)
        refine h.st 1 rfl sc_s_api_Producer (show 11 < 13 by omega) hu fun w5 h => ?_
        have h := h.pick [1, 2, 3, 4] (by decide)
        exact hJ3 _ _ (fin _ _ [] rfl (refD.closeL (s := { s with prods := f.1 }) (pv := ⟨tv, hu⟩) (σ := []) hk h))
      · rw [if_neg cz] at fin
        have h := h.pick [1, 2, 3, 4] (by decide)
        have h : Rel B' w3 [cellD p T_errataref11_Intake (rcs s kv pv lv), rowR lv.1 l, knownD kv.1 s.known, tabL pv.1 L] := h
        have h := h.imp (i := 3) (e := tabD pv.1 s.prods) rfl fun B hB => ⟨L, hL, hB.1, hB.2⟩
        exact hJ3 _ _ (fin _ _ [] rfl (refD.closeL (σ := []) hk h))
    have c1 : ¬ en.kind = 1 := c1
    rw [if_neg c1] at fin
    have hw : IntKind.i64.wrap (s.now + s.cfg.ahead) = s.now + s.cfg.ahead := wrap_id (by omega) (by omega)
    refine ⟨fun c2 => ?_, fun c2 => ?_⟩
    · have c2 : en.kind = 2 := c2
      rw [if_pos (.inl c2), if_neg (show ¬ en.kind = 3 by omega)] at fin
      rw [un_not, ifB_not, ifB_bool]
      refine ⟨fun cb => ?_, fun cb => ?_⟩
      · have ct : timeOk en.time := by rw [cb] at hb; exact of_decide_eq_true hb.symm
        rw [if_neg (fun hh => hh ct)] at fin
        have h := h.tick
        obtain ⟨kv, pv, lv, l, hk, h⟩ := opn _ h
        simp -zeta only [nil_ptr, field_addr f_errataref11_Intake_2, field_addr f_errataref11_Intake_0, field_addr f_api_Config_3, field_addr f_api_Entry_6, Nat.zero_add, h.ld 0 rfl sc_int (o := 6) (v := .int .i64 en.time) rfl, h.ld 1 rfl sc_int (o := 7) (v := .int .i64 s.now) rfl, h.ld 1 rfl sc_int (o := 3) (v := .int .i64 s.cfg.ahead) rfl, bin_add, hw, bin_gtr, ifB_dec]
        refine ⟨fun c4 => ?_, fun c4 => ?_⟩
        · rw [if_pos c4] at fin
          have h := h.pick [1, 2, 3, 4] (by decide)
          exact fin ((0, 21), _) _ [] rfl (refD.closeL (σ := []) hk h)
        · rw [if_neg c4] at fin
          have h := h.pick [1, 2, 3, 4] (by decide)
          refine rsf s _ kv pv lv l [] _ _ hk hg.cfg hg.top (by have := hlen l hk; omega) ct rfl h fun w9 h => ?_
          exact fin ((0, 0), _) _ [] rfl h
      · have ct : ¬ timeOk en.time := by rw [cb] at hb; exact of_decide_eq_false hb.symm
        rw [if_pos ct] at fin
        exact fin ((0, 3), _) _ _ rfl h
    have c2 : ¬ en.kind = 2 := c2
    refine ⟨fun c3 => ?_, fun c3 => ?_⟩
    · have c3 : en.kind = 3 := c3
      rw [if_pos (.inr c3), if_pos c3] at fin
      rw [un_not, ifB_not, ifB_bool]
      refine ⟨fun cb => ?_, fun cb => ?_⟩
      · have ct : timeOk en.time := by rw [cb] at hb; exact of_decide_eq_true hb.symm
        rw [if_neg (fun hh => hh ct)] at fin
        have h := h.tick
        obtain ⟨kv, pv, lv, l, hk, h⟩ := opn _ h
        simp -zeta only [nil_ptr, field_addr f_errataref11_Intake_2, field_addr f_api_Entry_6, Nat.zero_add, h.ld 0 rfl sc_int (o := 6) (v := .int .i64 en.time) rfl, h.ld 1 rfl sc_int (o := 7) (v := .int .i64 s.now) rfl, blt_max]
        refine h.st 1 rfl sc_int (show 7 < 13 by omega) rfl fun w8 h => ?_
        have h := h.pick [1, 2, 3, 4] (by decide)
        exact fin ((0, 0), _) _ [] rfl (refD.closeL (s := { s with now := max s.now en.time }) (σ := []) hk h)
      · have ct : ¬ timeOk en.time := by rw [cb] at hb; exact of_decide_eq_false hb.symm
        rw [if_pos ct] at fin
        exact fin ((0, 3), _) _ _ rfl h
    · have c3 : ¬ en.kind = 3 := c3
      rw [if_neg (fun hh => hh.elim c2 c3)] at fin
      exact fin ((0, 1), _) _ _ rfl h
  simp -zeta only [field_addr f_api_Entry_6, Nat.zero_add, h.ld 1 rfl sc_int (o := 6) (v := .int .i64 en.time) rfl, bin_geq, bin_leq, ifB_dec]
  refine ⟨fun c => hJ _ (decide_eq_decide.2 ⟨fun hh => ⟨c, hh⟩, fun hh => hh.2⟩), fun c => hJ _ (decide_eq_false fun hh => c hh.1).symm⟩
end
end Go.Proofs.YtefinemhfgdpdaaGreatDoor
