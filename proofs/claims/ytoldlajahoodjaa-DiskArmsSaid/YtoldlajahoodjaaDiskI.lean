/-
  DiskArms. No condition.
-/
import Derived.Test.YtoldlajahoodjaaDiskG
namespace Go.Proofs.Ytoldlajahoodjaa
open Go.RowKit

abbrev arm (c : DS) (m : Int) (k : List Int) : DS := { c with armed := m, keep := k }
theorem arm_writeE (c : DS) (m : Int) (k : List Int) (f a : Int) (t : ByteArray) : writeE (arm c m k) f a t = writeE c f a t := rfl
theorem arm_writeW (c : DS) (m : Int) (k : List Int) (f a : Int) (t : ByteArray) : writeW (arm c m k) f a t = arm (writeW c f a t) m k := by
  unfold writeW
  rw [arm_writeE]
  split
  · unfold addS
    split
    · rfl
    · rfl
  · rfl
theorem arm_later {c : DS} (hd : c.down = false) {m : Int} (hm : 2 ≤ m) (k : List Int) : endsB (arm c m k) = false ∧ endsS (arm c m k) = arm c (m - 1) k ∧ comeS (arm c m k) = arm c (m - 1) k := by
  have h1 : endsB (arm c m k) = false := by
    unfold endsB
    show (!c.down && (!decide (m = 0) && decide (m - 1 = 0))) = false
    rw [decide_eq_false (show ¬ m - 1 = 0 by omega)]
    simp
  have h2 : endsS (arm c m k) = arm c (m - 1) k := by
    unfold endsS
    rw [if_neg]
    show ¬ (c.down = true ∨ m = 0)
    rw [hd]
    simp
    omega
  refine ⟨h1, h2, ?_⟩
  unfold comeS
  rw [if_neg (by rw [h1]; decide), h2]
theorem arm_now {c : DS} (hd : c.down = false) (k : List Int) : endsB (arm c 1 k) = true ∧ endsS (arm c 1 k) = arm c 0 k ∧ comeS (arm c 1 k) = crashS (arm c 0 k) k := by
  have h1 : endsB (arm c 1 k) = true := by
    unfold endsB
    show (!c.down && (!decide ((1 : Int) = 0) && decide ((1 : Int) - 1 = 0))) = true
    rw [hd]
    decide
  have h2 : endsS (arm c 1 k) = arm c 0 k := by
    unfold endsS
    rw [if_neg]
    · rfl
    · show ¬ (c.down = true ∨ (1 : Int) = 0)
      rw [hd]
      decide
  refine ⟨h1, h2, ?_⟩
  unfold comeS
  rw [if_pos h1, h2]
theorem write_zero {c : DS} (hc : c.armed = 0) (f a : Int) (t : ByteArray) : (writeW c f a t).armed = 0 := by
  unfold writeW
  split
  · rw [add_armed]; exact hc
  · exact hc
theorem write_dn {c : DS} (f a : Int) (t : ByteArray) : (writeW c f a t).down = c.down := by
  unfold writeW
  split
  · rw [add_down]
  · rfl
/-- A call before the crash: the armed disk does what the other does. -/
theorem act_later {c : DS} (hd : c.down = false) (hc : c.armed = 0) {m : Int} (hm : 2 ≤ m) (k : List Int) (a : Act4) (kp : List Int) (h4 : a.do_ % 8 < 4) :
    actT (arm c m k) a kp = (arm (actT c a kp).1 (m - 1) k, (actT c a kp).2) ∧ (actT c a kp).1.down = false ∧ (actT c a kp).1.armed = 0 := by
  obtain ⟨h1, h2, h3⟩ := arm_later hd hm k
  have hcc := come_unarmed hc
  unfold actT
  by_cases e2 : a.do_ % 8 = 2
  · rw [if_pos e2, if_pos e2]
    unfold syncT
    rw [h3, hcc]
    show (if mayS c a.f ≠ 0 then (arm c (m - 1) k, mayS c a.f) else if 0 < c.lost then _ else _) = _ ∧ _
    by_cases d1 : mayS c a.f ≠ 0
    · rw [if_pos d1, if_pos d1]
      exact ⟨rfl, hd, hc⟩
    · rw [if_neg d1, if_neg d1]
      by_cases d2 : 0 < c.lost
      · rw [if_pos d2, if_pos d2]
        exact ⟨rfl, hd, hc⟩
      · rw [if_neg d2, if_neg d2]
        exact ⟨rfl, hd, hc⟩
  · rw [if_neg e2, if_neg e2]
    by_cases e3 : a.do_ % 8 = 3
    · rw [if_pos e3, if_pos e3]
      unfold truncT
      rw [h3, hcc]
      show (if mayS c a.f ≠ 0 then (arm c (m - 1) k, mayS c a.f) else if a.n < 0 then _ else if ((c.fs a.f).now.size : Int) < a.n then _ else _) = _ ∧ _
      by_cases d1 : mayS c a.f ≠ 0
      · rw [if_pos d1, if_pos d1]
        exact ⟨rfl, hd, hc⟩
      · rw [if_neg d1, if_neg d1]
        by_cases d2 : a.n < 0
        · rw [if_pos d2, if_pos d2]
          exact ⟨rfl, hd, hc⟩
        · rw [if_neg d2, if_neg d2]
          by_cases d3 : ((c.fs a.f).now.size : Int) < a.n
          · rw [if_pos d3, if_pos d3]
            exact ⟨rfl, hd, hc⟩
          · rw [if_neg d3, if_neg d3]
            exact ⟨rfl, hd, hc⟩
    · rw [if_neg e3, if_neg e3, if_neg (by omega), if_neg (by omega), if_neg (by omega), if_neg (by omega), if_neg (by omega), if_neg (by omega), if_neg (by omega), if_neg (by omega)]
      rw [write_unarmed hc]
      unfold writeT
      rw [if_neg (by rw [h1]; decide), h2, arm_writeW, arm_writeE]
      exact ⟨rfl, by rw [write_dn]; exact hd, write_zero hc _ _ _⟩
theorem act_lose (c : DS) (m : Int) (k : List Int) (a : Act4) (kp : List Int) (h4 : a.do_ % 8 = 4) : actT (arm c m k) a kp = (arm (actT c a kp).1 m k, (actT c a kp).2) ∧ (actT c a kp).1.down = c.down ∧ (actT c a kp).1.armed = c.armed ∧ (actT c a kp).1.fs = c.fs := by
  unfold actT
  rw [if_neg (by omega), if_neg (by omega), if_pos h4, if_neg (by omega), if_neg (by omega), if_pos h4]
  exact ⟨rfl, rfl, rfl, rfl⟩
theorem crash_facts {s t : DS} (h1 : s.down = false) (h2 : t.down = false) (h3 : s.fs = t.fs) (h4 : s.queue = t.queue) (k : List Int) : (crashS s k).fs = (crashS t k).fs ∧ (crashS s k).down = true ∧ (crashS t k).down = true := by
  unfold crashS
  rw [if_neg (by rw [h1]; decide), if_neg (by rw [h2]; decide), h3, h4]
  exact ⟨rfl, rfl, rfl⟩
/-- The call in which the crash happens. -/
theorem act_now {c : DS} (hd : c.down = false) (hc : c.armed = 0) (k : List Int) (a : Act4) (kp : List Int) (h4 : a.do_ % 8 < 4) :
    (actT (arm c 1 k) a kp).2 = 9 ∧ (actT (arm c 1 k) a kp).1.down = true ∧ (actT (arm c 1 k) a kp).1.fs = (crashS (if a.do_ % 8 < 2 then (actT c a kp).1 else c) k).fs ∧ (crashS (if a.do_ % 8 < 2 then (actT c a kp).1 else c) k).down = true := by
  obtain ⟨h1, h2, h3⟩ := arm_now hd k
  obtain ⟨g1, g2, g3⟩ := crash_facts (s := arm c 0 k) (t := c) hd hd rfl rfl k
  have hmay : ∀ f, mayS (crashS (arm c 0 k) k) f = 9 := fun f => by unfold mayS; rw [if_pos g2]
  by_cases e2 : a.do_ % 8 = 2
  · rw [if_neg (by omega)]
    unfold actT
    rw [if_pos e2]
    unfold syncT
    rw [h3, hmay, if_pos (by decide)]
    exact ⟨rfl, g2, g1, g3⟩
  · by_cases e3 : a.do_ % 8 = 3
    · rw [if_neg (by omega)]
      unfold actT
      rw [if_neg e2, if_pos e3]
      unfold truncT
      rw [h3, hmay, if_pos (by decide)]
      exact ⟨rfl, g2, g1, g3⟩
    · rw [if_pos (by omega)]
      unfold actT
      rw [if_neg e2, if_neg e3, if_neg (by omega), if_neg (by omega), if_neg (by omega), if_neg (by omega), if_neg e2, if_neg e3, if_neg (by omega), if_neg (by omega), if_neg (by omega), if_neg (by omega)]
      rw [write_unarmed hc]
      unfold writeT
      rw [if_pos h1, h2, arm_writeW]
      obtain ⟨b1, b2, b3⟩ := crash_facts (s := arm (writeW c a.f a.n a.s) 0 k) (t := writeW c a.f a.n a.s) (by show (writeW _ _ _ _).down = _; rw [write_dn]; exact hd) (by rw [write_dn]; exact hd) rfl rfl k
      exact ⟨rfl, b2, b1, b3⟩
/-- Behind the crash: nothing happens any more. -/
theorem act_down {d : DS} (hd : d.down = true) (a : Act4) (kp : List Int) (h4 : a.do_ % 8 ≤ 4) : (a.do_ % 8 < 4 → (actT d a kp).2 = 9) ∧ (actT d a kp).1.down = true ∧ (actT d a kp).1.fs = d.fs := by
  have h1 : endsB d = false := by unfold endsB; rw [hd]; rfl
  have h2 : endsS d = d := by unfold endsS; rw [if_pos (.inl hd)]
  have h3 : comeS d = d := by unfold comeS; rw [if_neg (by rw [h1]; decide), h2]
  have hmay : ∀ f, mayS d f = 9 := fun f => by unfold mayS; rw [if_pos hd]
  unfold actT
  split
  · unfold syncT
    rw [h3, hmay, if_pos (by decide)]
    exact ⟨fun _ => rfl, hd, rfl⟩
  · split
    · unfold truncT
      rw [h3, hmay, if_pos (by decide)]
      exact ⟨fun _ => rfl, hd, rfl⟩
    · split
      · exact ⟨fun _ => by omega, hd, rfl⟩
      · rw [if_neg (by omega), if_neg (by omega), if_neg (by omega)]
        unfold writeT
        rw [if_neg (by rw [h1]; decide), h2]
        have hE : writeE d a.f a.n a.s = 9 := by unfold writeE; rw [hmay, if_pos (by decide)]
        have hW : writeW d a.f a.n a.s = d := by unfold writeW; rw [hE, if_neg (by decide)]
        rw [hE, hW]
        exact ⟨fun _ => rfl, hd, rfl⟩

/-- How the two disks stand to each other. -/
def StA (n : Nat) (keep : List Int) (cnt : Nat) (d c : DS) : Prop :=
  (cnt < n ∧ c.down = false ∧ c.armed = 0 ∧ d = arm c (n - cnt : Int) keep) ∨ (n ≤ cnt ∧ d.down = true ∧ c.down = true ∧ d.fs = c.fs)

set_option maxHeartbeats 1000000 in
theorem diskArms_pt {W : World} {v0 v2 : Value} {l : List Act4} {keep : List Int} {n : Int} (r0 : rowR v0 l (lawB W)) (hm : l.length ≤ maxLen) (hq : ∀ x ∈ l, okInt W x.do_ ∧ okInt W x.f ∧ okInt W x.n ∧ okStr W x.s ∧ (∃ k : List Int, rowR x.keep.1 k (lawB W) ∧ k.length ≤ maxLen ∧ ∀ y ∈ k, okInt W y))
    (rk : rowR v2 keep (lawB W)) {K : Value → World → Prop}
    (fin : ∀ w' σ, Rel (lawB W) w' σ → K (.bool true) w') : erratalaw04_DiskArms.pt v0 (.int .i64 n) v2 W K := by
  obtain ⟨L, rfl, qd⟩ := acts_of l fun x hx => (hq x hx).2.2.2.2.imp fun _ h => h.1
  have r := r0
  clear r0
  have hr : inRange L := fun x hx => by
    have := (hq x.1 (List.mem_map_of_mem hx)).2.2.1
    exact ⟨this.2, this.1⟩
  clear hq
  have hal : (acts L).length = L.length := List.length_map ..
  rw [hal] at hm
  unfold maxLen at hm
  unfold erratalaw04_DiskArms.pt
  refine small_r (lawB.start W) fun w1 h => ?_
  refine h.ask (fun B2 own base2 => few_g (base2 r) (base2 qd) (by omega)) fun w2 h => ?_
  rw [un_not, ifB_not, ifB_bool]
  refine ⟨fun hf => ?_, fun _ => fin _ _ h⟩
  have hf := fewS_true.1 hf
  have hl := hf.len
  simp -zeta only [rowR.len rk sl_s_int, bin_gtr, bin_lss, ifB_dec]
  refine ⟨fun _ => fin _ _ h, fun hkl => ⟨fun _ => fin _ _ h, fun hn1 => ⟨fun _ => fin _ _ h, fun hn2 => ?_⟩⟩⟩
  obtain ⟨n, rfl⟩ : ∃ m : Nat, n = m := ⟨n.toNat, by omega⟩
  refine h.make (fun B2 own base2 => New_m) fun u τ w3 hp h => ?_
  obtain ⟨p, rfl, rfl⟩ := hp
  refine h.make (fun B2 own base2 => New_m) fun u τ w4 hp h => ?_
  obtain ⟨q, rfl, rfl⟩ := hp
  rw [nil_ne, ifB_false, nil_ne, ifB_false]
  refine h.act 0 rfl (fun B2 own base2 => Arm_d (base2 rk) (by omega) (n := (n : Int)) (by omega)) fun v e' τ w5 hp h => ?_
  obtain ⟨rfl, kvd, rfl, rfl⟩ := hp
  obtain ⟨B0, hB0, h, hkd⟩ := h.frz1
  have h : Rel B0 w5 [diskD p { newS with armed := max (n : Int) 0, keep := keep } kvd, diskD q newS (.slice none 0 0)] := h
  have hkd : rowR kvd keep B0 := rowD.read hkd
  refine LOOP_intro (fun x w' => ∃ (i cnt : Nat) (B : Base) (d c : DS) (kd kc : Value), i ≤ L.length ∧ cnt ≤ i ∧ x = (.int .i64 cnt, .int .i64 i, ()) ∧ (lawB W).ext B ∧ StA n keep cnt d c ∧ (rowR kd d.keep B ∧ d.keep.length ≤ 60) ∧ (rowR kc c.keep B ∧ c.keep.length ≤ 60) ∧ Rel B w' [diskD p d kd, diskD q c kc]) (fun x _ => L.length - (match x.2.1 with | .int _ n => n.toNat | _ => 0))
    ⟨0, 0, B0, _, _, kvd, .slice none 0 0, Nat.zero_le _, Nat.le_refl _, rfl, hB0, .inl ⟨by omega, rfl, rfl, by
      show ({ newS with armed := max (n : Int) 0, keep := keep } : DS) = arm newS ((n : Int) - (0 : Nat)) keep
      have e : max (n : Int) 0 = (n : Int) - ((0 : Nat) : Int) := by omega
      rw [e]⟩, ⟨hkd, by show keep.length ≤ 60; omega⟩, ⟨nilrow _, Nat.zero_le _⟩, h⟩ ?_
  clear h hkd hB0
  rintro x w6 ⟨i, cnt, B, d, c, kd, kc, hil, hci, rfl, hext, hst, ⟨hkd, hkdl⟩, ⟨hkc, hkcl⟩, h⟩ next hnext
  have r' : rowR v0 (acts L) B := Dat.mono _ hext.le r
  have qd' : keepsR L B := Dat.mono _ hext.le qd
  have rk' : rowR v2 keep B := Dat.mono _ hext.le rk
  simp -zeta only [rowR.len r' sl_s_erratalaw04_Act, bin_lss, ifB_dec]
  rw [hal]
  refine ⟨fun hlt => ?_, fun hge => ?_⟩
  · have hi : i < L.length := by omega
    obtain ⟨g, o, hx, hc⟩ := rowR.idx r' sl_s_erratalaw04_Act (P := Try.prog) (i := i) (by omega)
    have e1 : (acts L)[i]'(by omega) = L[i].1 := by simp
    rw [e1] at hc
    have hfi := hf.each _ (List.getElem_mem hi)
    have hri := hr _ (List.getElem_mem hi)
    have hki := qd' L[i] (List.getElem_mem hi)
    generalize hLi : L[i] = x at hc hfi hri hki
    obtain ⟨a, kp⟩ := x
    have hc : cellsR g o a.cs B := hc
    refine LETJ_intro fun J hJ => ?_
    replace hJ : ∀ (cnt' : Nat) (B' : Base) (d c : DS) (kd kc : Value) w', cnt' ≤ i + 1 → B.ext B' → StA n keep cnt' d c → (rowR kd d.keep B' ∧ d.keep.length ≤ 60) → (rowR kc c.keep B' ∧ c.keep.length ≤ 60) → Rel B' w' [diskD p d kd, diskD q c kc] → J (.int .i64 cnt', ()) w' := by
      intro cnt' B' d c kd kc w' h1 h2 h3 h4 h5 h
      refine hJ _ _ ?_
      rw [bin_add, wrap_id (by omega) (by omega)]
      exact hnext _ _ ⟨i + 1, cnt', B', d, c, kd, kc, hi, h1, rfl, hext.trans h2, h3, h4, h5, h⟩ (by simp only; omega)
    clear hnext
    simp -zeta only [hx, field_addr f_erratalaw04_Act_0, Nat.add_zero, cellsR.ld0 (h.hereB hc) sc_int rfl, bin_and, and_7, bin_gtr, ifB_dec]
    refine ⟨fun _ => fin _ _ (hext.rel h), fun h4 => ?_⟩
    have h4 : a.do_ % 8 ≤ 4 := by omega
    have hp8 : 0 ≤ a.do_ % 8 := by omega
    refine LETJ_intro fun J2 hJ2 => ?_
    generalize hcn : (if a.do_ % 8 < 4 then cnt + 1 else cnt) = cn
    have hcn1 : cn ≤ i + 1 := by rw [← hcn]; split <;> omega
    replace hJ2 : J2 (.int .i64 cn, ()) w6 := by
      refine hJ2 _ _ ?_
      clear hJ2
      simp -zeta only [cellsR.ldAg (h.hereB hc) ag_erratalaw04_Act rfl]
      refine do_r h 0 rfl hkd hkdl hki hfi.keep (by have := hfi.s; show a.s.size ≤ _; have : a.s.size ≤ 300 := hfi.s; omega) hri.1 fun B1 kd1 w7 hext1 hkd1 hkdl1 h => ?_
      have h : Rel B1 w7 [diskD p (actT d a kp).1 kd1, diskD q c kc] := h
      have hc1 : cellsR g o a.cs B1 := Dat.mono _ hext1.le hc
      have hki1 : rowR a.keep.1 kp B1 := Dat.mono _ hext1.le hki
      have hkc1 : rowR kc c.keep B1 := Dat.mono _ hext1.le hkc
      have rk1 : rowR v2 keep B1 := Dat.mono _ hext1.le rk'
      rcases hst with ⟨s1, s2, s3, s4⟩ | ⟨s1, s2, s3, s4⟩
      · -- before the crash
        by_cases hboth : cn < n
        · -- the other does the same
          have hsame : (actT d a kp).2 = (actT c a kp).2 ∧ StA n keep cn (actT d a kp).1 (actT c a kp).1 := by
            by_cases k4 : a.do_ % 8 < 4
            · rw [if_pos k4] at hcn
              obtain ⟨b1, b2, b3⟩ := act_later s2 s3 (m := (n : Int) - cnt) (by omega) keep a kp k4
              rw [s4, b1]
              refine ⟨rfl, .inl ⟨hboth, b2, b3, ?_⟩⟩
              show arm _ _ _ = arm _ _ _
              congr 1
              omega
            · rw [if_neg k4] at hcn
              obtain ⟨b1, b2, b3, b4⟩ := act_lose c ((n : Int) - cnt) keep a kp (by omega)
              rw [s4, b1]
              refine ⟨rfl, .inl ⟨hboth, by rw [b2]; exact s2, by rw [b3]; exact s3, ?_⟩⟩
              show arm _ _ _ = arm _ _ _
              congr 1
              omega
          refine LETJ_intro fun J3 _ => ?_
          rw [bin_lss, ifB_dec]
          refine ⟨fun _ => ?_, fun hh => absurd hh (by omega)⟩
          simp -zeta only [cellsR.ldAg (h.hereB hc1) ag_erratalaw04_Act rfl]
          refine do_r h 1 rfl hkc1 hkcl hki1 hfi.keep (by have : a.s.size ≤ 300 := hfi.s; omega) hri.1 fun B2 kc2 w8 hext2 hkc2 hkcl2 h => ?_
          rw [bin_neq, decide_eq_true hsame.1, Bool.not_true, ifB_false]
          exact hJ cn B2 _ _ kd1 kc2 _ hcn1 (hext1.trans hext2) hsame.2 ⟨Dat.mono _ hext2.le hkd1, hkdl1⟩ ⟨hkc2, hkcl2⟩ h
        · -- the crash
          have k4 : a.do_ % 8 < 4 := by
            rcases Int.lt_or_le (a.do_ % 8) 4 with h | h
            · exact h
            · rw [if_neg (by omega)] at hcn; omega
          rw [if_pos k4] at hcn
          have hcnn : cn = n := by omega
          have hm1 : (n : Int) - cnt = 1 := by omega
          rw [s4, hm1] at h hkd1 hkdl1 ⊢
          obtain ⟨b1, b2, b3, b4⟩ := act_now s2 s3 keep a kp k4
          refine LETJ_intro fun J3 hJ3 => ?_
          replace hJ3 : J3 () w7 := by
            refine hJ3 _ _ ?_
            clear hJ3
            refine LETJ_intro fun J4 hJ4 => ?_
            replace hJ4 : ∀ (B2 : Base) (kc2 : Value) w', B1.ext B2 → (rowR kc2 (if a.do_ % 8 < 2 then (actT c a kp).1 else c).keep B2 ∧ (if a.do_ % 8 < 2 then (actT c a kp).1 else c).keep.length ≤ 60) → Rel B2 w' [diskD p (actT (arm c 1 keep) a kp).1 kd1, diskD q (if a.do_ % 8 < 2 then (actT c a kp).1 else c) kc2] → J4 () w' := by
              intro B2 kc2 w8 hext2 hkc2 h
              refine hJ4 _ _ ?_
              clear hJ4
              refine LETJ_intro fun J5 hJ5 => ?_
              replace hJ5 : ∀ w', Rel B2 w' [diskD p (actT (arm c 1 keep) a kp).1 kd1, diskD q (crashS (if a.do_ % 8 < 2 then (actT c a kp).1 else c) keep) kc2] → J5 () w' := by
                intro w9 h
                refine hJ5 _ _ ?_
                rw [bin_lss, ifB_dec]
                refine ⟨fun _ => ?_, fun hh => absurd k4 hh⟩
                rw [bin_neq, decide_eq_true b1, Bool.not_true, ifB_false]
                refine h.ask (fun B3 own base3 => Down_g (own (i := 0) rfl)) fun w10 h => ?_
                rw [b2, un_not, Bool.not_true, ifB_false]
                exact hJ cn B2 _ _ kd1 kc2 _ hcn1 (hext1.trans hext2) (.inr ⟨by omega, b2, b4, b3⟩) ⟨Dat.mono _ hext2.le hkd1, hkdl1⟩ ⟨by rw [keep_crash]; exact hkc2.1, by rw [keep_crash]; exact hkc2.2⟩ h
              rw [bin_eql, ifB_dec]
              refine ⟨fun _ => ?_, fun hh => absurd (by omega) hh⟩
              rw [bin_lss, ifB_dec]
              refine ⟨fun _ => ?_, fun hh => absurd k4 hh⟩
              refine h.act 1 rfl (fun B3 own base3 => crash_d (base3 (Dat.mono _ hext2.le rk1)) (by omega)) fun v e' τ w9 hp h => ?_
              obtain ⟨rfl, rfl, rfl⟩ := hp
              exact hJ5 _ h
            rw [bin_eql, ifB_dec]
            refine ⟨fun _ => ?_, fun hh => absurd (by omega) hh⟩
            rw [bin_lss, ifB_dec]
            refine ⟨fun k2 => ?_, fun k2 => ?_⟩
            · simp -zeta only [cellsR.ldAg (h.hereB hc1) ag_erratalaw04_Act rfl]
              refine do_r h 1 rfl hkc1 hkcl hki1 hfi.keep (by have : a.s.size ≤ 300 := hfi.s; omega) hri.1 fun B2 kc2 w8 hext2 hkc2 hkcl2 h => ?_
              refine hJ4 B2 kc2 _ hext2 ?_ ?_
              · rw [if_pos k2]; exact ⟨hkc2, hkcl2⟩
              · rw [if_pos k2]; exact h
            · refine hJ4 B1 kc _ (Base.ext.refl _) ?_ ?_
              · rw [if_neg k2]; exact ⟨hkc1, hkcl⟩
              · rw [if_neg k2]; exact h
          dsimp only
          rw [bin_lss, ifB_dec]
          refine ⟨fun hh => absurd hh (by omega), fun _ => ?_⟩
          rw [bin_eql, ifB_dec]
          refine ⟨fun _ => ?_, fun hh => absurd (by omega) hh⟩
          rw [bin_eql, ifB_dec]
          exact ⟨fun hh => absurd hh (by omega), fun _ => hJ3⟩
      · -- behind it
        obtain ⟨b1, b2, b3⟩ := act_down s2 a kp h4
        have hcn2 : n ≤ cn := by rw [← hcn]; split <;> omega
        have hk4 : cn = n → a.do_ % 8 = 4 := fun e => by
          rcases Int.lt_or_le (a.do_ % 8) 4 with h | h
          · rw [if_pos h] at hcn; omega
          · omega
        refine LETJ_intro fun J3 hJ3 => ?_
        replace hJ3 : ∀ w', Rel B1 w' [diskD p (actT d a kp).1 kd1, diskD q c kc] → J3 () w' := by
          intro w8 h
          refine hJ3 _ _ ?_
          clear hJ3
          refine LETJ_intro fun J4 hJ4 => ?_
          replace hJ4 : J4 () w8 := by
            refine hJ4 _ _ ?_
            clear hJ4
            refine LETJ_intro fun J5 hJ5 => ?_
            replace hJ5 : J5 () w8 := by
              refine hJ5 _ _ ?_
              have last : upK Try.prog (sCall F_disk_Disk_Down #[ptr p]) w8 fun t126 w13 => pureK Try.prog (sUn .not t126) fun t127 => ifB t127 (K (.bool false) w13) (J (.int .i64 cn, ()) w13) := by
                refine h.ask (fun B3 own base3 => Down_g (own (i := 0) rfl)) fun w10 h => ?_
                rw [b2, un_not, Bool.not_true, ifB_false]
                exact hJ cn B1 _ _ kd1 kc _ hcn1 hext1 (.inr ⟨hcn2, b2, s3, by rw [b3]; exact s4⟩) ⟨hkd1, hkdl1⟩ ⟨hkc1, hkcl⟩ h
              rw [bin_lss, ifB_dec]
              refine ⟨fun k4 => ?_, fun _ => last⟩
              rw [bin_neq, decide_eq_true (b1 k4), Bool.not_true, ifB_false]
              exact last
            rw [bin_eql, ifB_dec]
            refine ⟨fun hh => ?_, fun _ => hJ5⟩
            rw [bin_lss, ifB_dec]
            exact ⟨fun k4 => absurd (hk4 (by omega)) (by omega), fun _ => hJ5⟩
          rw [bin_eql, ifB_dec]
          refine ⟨fun hh => ?_, fun _ => hJ4⟩
          rw [bin_lss, ifB_dec]
          exact ⟨fun k4 => absurd (hk4 (by omega)) (by omega), fun _ => hJ4⟩
        dsimp only
        rw [bin_lss, ifB_dec]
        refine ⟨fun hh => absurd hh (by omega), fun _ => ?_⟩
        rw [bin_eql, ifB_dec]
        refine ⟨fun _ => ?_, fun _ => hJ3 _ h⟩
        rw [bin_eql, ifB_dec]
        refine ⟨fun _ => ?_, fun _ => hJ3 _ h⟩
        refine h.ask (fun B3 own base3 => Down_g (own (i := 0) rfl)) fun w8 h => ?_
        rw [b2, un_not, Bool.not_true, ifB_false]
        exact hJ3 _ h
    rw [bin_lss, ifB_dec]
    refine ⟨fun k4 => ?_, fun k4 => ?_⟩
    · rw [if_pos k4] at hcn
      rw [bin_add, wrap_id (by omega) (by omega), show (cnt : Int) + 1 = (cn : Int) by omega]
      exact hJ2
    · rw [if_neg k4] at hcn
      rw [hcn]
      exact hJ2
  · clear hnext
    have hsame : d.down = c.down ∧ d.fs = c.fs := by
      rcases hst with ⟨s1, s2, s3, s4⟩ | ⟨s1, s2, s3, s4⟩
      · rw [s4]; exact ⟨rfl, rfl⟩
      · exact ⟨by rw [s2, s3], s4⟩
    refine h.ask (fun B2 own base2 => same_g (own (i := 0) rfl) (own (i := 1) rfl) (base2 r') (by omega) hsame.1 hsame.2) fun w7 h => ?_
    refine h.act 0 rfl (fun B2 own base2 => Start_d) fun v e' τ w8 hp h => ?_
    obtain ⟨rfl, rfl, rfl⟩ := hp
    refine h.act 1 rfl (fun B2 own base2 => Start_d) fun v e' τ w9 hp h => ?_
    obtain ⟨rfl, rfl, rfl⟩ := hp
    rw [ifB_true, ifB_true]
    refine h.ask (fun B2 own base2 => same_g (own (i := 0) rfl) (own (i := 1) rfl) (base2 r') (by omega) rfl hsame.2) fun w10 h => ?_
    exact fin _ _ (hext.rel h)
end Go.Proofs.Ytoldlajahoodjaa
