/-
  Chapter 4's small, few, played, after, same. No condition.
-/
import Derived.Test.YtoldlajahoodjaaDiskE
namespace Go.Proofs.Ytoldlajahoodjaa
open Go.RowKit

abbrev AL := List (Act4 × List Int)
abbrev acts (L : AL) : List Act4 := L.map (·.1)
def keepsR (L : AL) : Dat := Dat.all L fun x => rowR x.1.keep.1 x.2
theorem acts_of {W : World} (l : List Act4) (h : ∀ x ∈ l, ∃ k : List Int, rowR x.keep.1 k (lawB W)) : ∃ L : AL, acts L = l ∧ keepsR L (lawB W) := by
  induction l with
  | nil => exact ⟨[], rfl, fun p hp => by cases hp⟩
  | cons x l ih =>
    obtain ⟨L, h1, h2⟩ := ih fun y hy => h y (List.mem_cons_of_mem _ hy)
    obtain ⟨r, hr⟩ := h x List.mem_cons_self
    refine ⟨(x, r) :: L, by show x :: acts L = _; rw [h1], fun p hp => ?_⟩
    rcases List.mem_cons.1 hp with rfl | hp
    · exact hr
    · exact h2 p hp
structure fineA (x : Act4 × List Int) : Prop where
  s : x.1.s.size ≤ 300
  keep : x.2.length ≤ 60
  n : ¬ (3000 < x.1.n ∧ x.1.n < 16776916)
structure Few (L : AL) : Prop where
  each : ∀ x ∈ L, fineA x
  len : L.length ≤ 40
open Classical in
noncomputable def fewS (L : AL) : Bool := decide (Few L)
theorem fewS_true {L : AL} : fewS L = true ↔ Few L := by simp [fewS]
def playS (L : AL) : DS := L.foldl (fun s x => (actT s x.1 x.2).1) newS
theorem playS_succ {L : AL} {i : Nat} (hi : i < L.length) : playS (L.take (i + 1)) = (actT (playS (L.take i)) L[i].1 L[i].2).1 := by
  unfold playS
  rw [List.take_succ_eq_append_getElem hi, List.foldl_append]
  rfl
def inRange (L : AL) : Prop := ∀ x ∈ L, x.1.n ≤ 9223372036854775807 ∧ -9223372036854775808 ≤ x.1.n

section
variable {B : Base} {w : World}
theorem nil_ne {Kp : Value → Prop} {xo yo : Operand} {p : Nat} : pureK Try.prog (sBin .eql T_p_disk_Disk xo yo (ptr p) (.pointer none)) Kp = Kp (.bool false) := bin_eql_ptr_nil U_p_disk_Disk
theorem nil_ne' {Kp : Value → Prop} {xo yo : Operand} {p : Nat} : pureK Try.prog (sBin .neq T_p_disk_Disk xo yo (ptr p) (.pointer none)) Kp = Kp (.bool true) := bin_neq_ptr_nil U_p_disk_Disk
theorem nilrow (B : Base) : (rowR (.slice none 0 0) ([] : List Int)) B := ⟨none, 0, rfl, Nat.le_refl _, .inl rfl⟩

theorem few_g {v : Value} {L : AL} (r : rowR v (acts L) B) (q : keepsR L B) (hl : L.length ≤ 9223372036854775807) : Gives Try.prog B (sCall F_erratalaw04_few #[v]) (.bool (fewS L)) := by
  refine Gives.intro fun B' w K base h k => ?_
  replace r := base r
  replace q := base q
  refine erratalaw04_few.up (erratalaw04_few.call ?_)
  unfold erratalaw04_few.pt
  have hal : (acts L).length = L.length := List.length_map ..
  have no : ∀ w', Rel B' w' [] → ¬ Few L → K (.bool false) w' := fun w' h hn => by
    rw [Bool.eq_false_iff.2 fun e => hn (fewS_true.1 e)] at k
    exact k _ _ h
  refine LOOP_intro (fun x w' => ∃ i : Nat, i ≤ L.length ∧ x = (.int .i64 i, ()) ∧ (∀ j (hj : j < L.length), j < i → fineA L[j]) ∧ Rel B' w' []) (fun x _ => L.length - (match x.1 with | .int _ n => n.toNat | _ => 0))
    ⟨0, Nat.zero_le _, rfl, fun j _ hj => absurd hj (Nat.not_lt_zero j), h⟩ ?_
  clear h
  rintro x w1 ⟨i, hil, rfl, hin, h⟩ next hnext
  simp -zeta only [rowR.len r sl_s_erratalaw04_Act, bin_lss, ifB_dec]
  rw [hal]
  refine ⟨fun hlt => ?_, fun hge => ?_⟩
  · have hi : i < L.length := by omega
    refine LETJ_intro fun J hJ => ?_
    replace hJ : fineA L[i] → J () w1 := by
      intro hf
      refine hJ _ _ ?_
      rw [bin_add, wrap_id (by omega) (by omega)]
      refine hnext _ _ ⟨i + 1, hi, rfl, fun j hj hji => ?_, h⟩ (by simp only; omega)
      by_cases e : j = i
      · subst e; exact hf
      · exact hin j hj (by omega)
    clear hnext
    have hno : ¬ fineA L[i] → K (.bool false) w1 := fun hf => no _ h fun hw => hf (hw.each _ (List.getElem_mem hi))
    obtain ⟨g, o, hx, hc⟩ := rowR.idx r sl_s_erratalaw04_Act (P := Try.prog) (i := i) (by omega)
    have e1 : (acts L)[i]'(by omega) = L[i].1 := by simp
    rw [e1] at hc
    have hc : cellsR g o L[i].1.cs B' := hc
    have rk := q L[i] (List.getElem_mem hi)
    have hb := bl_length L[i].1.s
    simp -zeta only [hx, field_addr f_erratalaw04_Act_2, field_addr f_erratalaw04_Act_3, field_addr f_erratalaw04_Act_4, cellsR.ld (h.hereB hc) sc_int (j := 2) rfl, cellsR.ld (h.hereB hc) sc_string (j := 3) rfl, cellsR.ld (h.hereB hc) sc_s_int (j := 4) rfl, str_len U_string, rowR.len rk sl_s_int, bin_gtr, bin_lss, ifB_dec]
    exact ⟨fun e => hno fun hf => absurd hf.s (by omega), fun e1 => ⟨fun e => hno fun hf => absurd hf.keep (by omega), fun e2 => ⟨fun e3 => ⟨fun e4 => hno fun hf => hf.n ⟨e3, e4⟩, fun e4 => hJ ⟨by omega, by omega, fun hh => e4 hh.2⟩⟩, fun e3 => hJ ⟨by omega, by omega, fun hh => e3 hh.1⟩⟩⟩⟩
  · rw [bin_leq]
    have hall : ∀ x ∈ L, fineA x := fun x hx => by
      obtain ⟨j, hj, rfl⟩ := List.getElem_of_mem hx
      exact hin j hj (by omega)
    have e : fewS L = decide ((L.length : Int) ≤ 40) := by
      rw [Bool.eq_iff_iff, fewS_true, decide_eq_true_iff]
      exact ⟨fun h => by have := h.len; omega, fun h => ⟨hall, by omega⟩⟩
    rw [e] at k
    exact k _ _ h

/-- A disk and the row that it keeps: one act. -/
theorem do2_r {p : Nat} {s : DS} {kv : Value} {K : Value → World → Prop} (h : Rel B w [diskD p s kv, rowR kv s.keep]) (hkl : s.keep.length ≤ 60) {a : Act4} {keep : List Int} (ra : rowR a.keep.1 keep B) (hal : keep.length ≤ 60) (hs : a.s.size ≤ 9223372036854775807) (hn : a.n ≤ 9223372036854775807)
    (k : ∀ kv' w', (actT s a keep).1.keep.length ≤ 60 → Rel B w' [diskD p (actT s a keep).1 kv', rowR kv' (actT s a keep).1.keep] → K (.int .i64 (actT s a keep).2) w') : upK Try.prog (sCall F_erratalaw04_do #[ptr p, a.v]) w K := by
  refine h.act 0 rfl (fun B2 own base2 => do_d (own (j := 1) (by decide) rfl) (by omega) (base2 ra) (by omega) hs hn) fun v e' τ w2 hp h => ?_
  obtain ⟨rfl, kv', rfl, hp⟩ := hp
  rcases hp with ⟨rfl, hk, rfl⟩ | ⟨hk, rfl⟩
  · refine k kv' w2 (by rw [hk]; exact hkl) ?_
    rw [hk]
    exact h
  · have h := h.pick [0, 2] (by decide)
    refine k kv' w2 (by rw [hk]; exact hal) ?_
    rw [hk]
    exact h.imp (i := 1) (e := rowR kv' keep) rfl fun B hB => rowD.read hB

theorem played_m {v : Value} {L : AL} (r : rowR v (acts L) B) (q : keepsR L B) (hf : Few L) (hr : inRange L) : Makes Try.prog B (sCall F_erratalaw04_played #[v]) fun u τ => ∃ p kv, u = ptr p ∧ (playS L).keep.length ≤ 60 ∧ τ = [diskD p (playS L) kv, rowR kv (playS L).keep] := by
  refine Makes.intro fun B' w K base h k => ?_
  replace r := base r
  replace q := base q
  refine erratalaw04_played.up (erratalaw04_played.call ?_)
  unfold erratalaw04_played.pt
  have hal : (acts L).length = L.length := List.length_map ..
  have hl := hf.len
  refine h.make (fun B2 own base2 => New_m) fun u τ w1 hp h => ?_
  obtain ⟨p, rfl, rfl⟩ := hp
  have h : Rel B' w1 [diskD p newS (.slice none 0 0), rowR (.slice none 0 0) newS.keep] := by
    obtain ⟨c, h⟩ := h
    exact ⟨c, h.push (Step.refl _ c w1) (nilrow _)⟩
  refine LETJ_intro fun J hJ => ?_
  replace hJ : ∀ kv w', (playS L).keep.length ≤ 60 → Rel B' w' [diskD p (playS L) kv, rowR kv (playS L).keep] → J () w' := fun kv w' hk h => hJ _ _ (k _ _ _ ⟨p, kv, rfl, hk, rfl⟩ h)
  refine LOOP_intro (fun x w' => ∃ (i : Nat) (kv : Value), i ≤ L.length ∧ x = (.int .i64 i, ()) ∧ (playS (L.take i)).keep.length ≤ 60 ∧ Rel B' w' [diskD p (playS (L.take i)) kv, rowR kv (playS (L.take i)).keep]) (fun x _ => L.length - (match x.1 with | .int _ n => n.toNat | _ => 0))
    ⟨0, _, Nat.zero_le _, rfl, Nat.zero_le _, h⟩ ?_
  clear h
  rintro x w2 ⟨i, kv, hil, rfl, hkl, h⟩ next hnext
  simp -zeta only [rowR.len r sl_s_erratalaw04_Act, bin_lss, ifB_dec]
  rw [hal]
  refine ⟨fun hlt => ?_, fun hge => ?_⟩
  · have hi : i < L.length := by omega
    rw [nil_ne', ifB_true]
    obtain ⟨g, o, hx, hc⟩ := rowR.idx r sl_s_erratalaw04_Act (P := Try.prog) (i := i) (by omega)
    have e1 : (acts L)[i]'(by omega) = L[i].1 := by simp
    rw [e1] at hc
    have hc : cellsR g o L[i].1.cs B' := hc
    have hfi := hf.each _ (List.getElem_mem hi)
    simp -zeta only [hx, cellsR.ldAg (h.hereB hc) ag_erratalaw04_Act rfl]
    refine do2_r h hkl (q L[i] (List.getElem_mem hi)) hfi.keep (by have := hfi.s; omega) (hr _ (List.getElem_mem hi)).1 fun kv' w3 hk h => ?_
    rw [bin_add, wrap_id (by omega) (by omega)]
    rw [← playS_succ hi] at hk h
    exact hnext _ _ ⟨i + 1, kv', hi, rfl, hk, h⟩ (by simp only; omega)
  · rw [List.take_of_length_le (by omega)] at hkl h
    exact hJ kv _ hkl h

def afterS (s : DS) (f : Int) (keep : List Int) : ByteArray × Int := readT { crashS s keep with down := false } f 0 16777216
theorem after_g {p : Nat} {s : DS} {kv v : Value} {keep : List Int} (hd : diskD p s kv B) (r : rowR v keep B) (hkl : keep.length ≤ 1000000) (f : Int) : Gives Try.prog B (sCall F_erratalaw04_after #[ptr p, .int .i64 f, v]) (.tuple #[.string (afterS s f keep).1, .bool (decide ((afterS s f keep).2 = 0))]) := by
  refine Gives.intro fun B' w K base h k => ?_
  replace hd := base hd
  replace r := base r
  refine erratalaw04_after.up (erratalaw04_after.call ?_)
  unfold erratalaw04_after.pt
  refine h.make (fun B2 own base2 => Copy_m (base2 hd)) fun u τ w1 hp h => ?_
  obtain ⟨p', rfl, rfl⟩ := hp
  rw [nil_ne, ifB_false]
  refine h.act 0 rfl (fun B2 own base2 => crash_d (base2 r) (by omega)) fun v e' τ w2 hp h => ?_
  obtain ⟨rfl, rfl, rfl⟩ := hp
  refine h.act 0 rfl (fun B2 own base2 => Start_d) fun v e' τ w3 hp h => ?_
  obtain ⟨rfl, rfl, rfl⟩ := hp
  refine h.ask (fun B2 own base2 => Read_g (own (i := 0) rfl) f 0 16777216) fun w4 h => ?_
  rw [ext_2_0, ext_2_1, bin_eql]
  exact k _ _ h

/-- The same bytes in the files that acts name. -/
theorem same_g {p q : Nat} {s t : DS} {kv ku v : Value} {L : AL} (hp : diskD p s kv B) (hq : diskD q t ku B) (r : rowR v (acts L) B) (hl : L.length ≤ 1000000) (h1 : s.down = t.down) (h2 : s.fs = t.fs) : Gives Try.prog B (sCall F_erratalaw04_same #[ptr p, ptr q, v]) (.bool true) := by
  refine Gives.intro fun B' w K base h k => ?_
  replace hp := base hp
  replace hq := base hq
  replace r := base r
  refine erratalaw04_same.up (erratalaw04_same.call ?_)
  unfold erratalaw04_same.pt
  have hal : (acts L).length = L.length := List.length_map ..
  refine h.ask (fun B2 own base2 => Down_g (base2 hp)) fun w1 h => ?_
  refine h.ask (fun B2 own base2 => Down_g (base2 hq)) fun w2 h => ?_
  rw [bin_neq_bool U_bool, h1, beq_self_eq_true, Bool.not_true, ifB_false]
  refine LOOP_intro (fun x w' => ∃ i : Nat, i ≤ L.length ∧ x = (.int .i64 i, ()) ∧ Rel B' w' []) (fun x _ => L.length - (match x.1 with | .int _ n => n.toNat | _ => 0))
    ⟨0, Nat.zero_le _, rfl, h⟩ ?_
  clear h
  rintro x w3 ⟨i, hil, rfl, h⟩ next hnext
  simp -zeta only [rowR.len r sl_s_erratalaw04_Act, bin_lss, ifB_dec]
  rw [hal]
  refine ⟨fun hlt => ?_, fun _ => k _ _ h⟩
  have hi : i < L.length := by omega
  obtain ⟨g, o, hx, hc⟩ := rowR.idx r sl_s_erratalaw04_Act (P := Try.prog) (i := i) (by omega)
  have e1 : (acts L)[i]'(by omega) = L[i].1 := by simp
  rw [e1] at hc
  have hc : cellsR g o L[i].1.cs B' := hc
  have hre : readT s L[i].1.f 0 16777216 = readT t L[i].1.f 0 16777216 := by unfold readT mayS; rw [h1, h2]
  simp -zeta only [hx, field_addr f_erratalaw04_Act_1, cellsR.ld (h.hereB hc) sc_int (j := 1) rfl]
  refine h.ask (fun B2 own base2 => Read_g (base2 hp) L[i].1.f 0 16777216) fun w4 h => ?_
  simp -zeta only [ext_2_0, ext_2_1, cellsR.ld (h.hereB hc) sc_int (j := 1) rfl]
  refine h.ask (fun B2 own base2 => Read_g (base2 hq) L[i].1.f 0 16777216) fun w5 h => ?_
  have h := h.tick
  rw [ext_2_0, ext_2_1, neq_str, hre, decide_eq_true rfl, Bool.not_true, ifB_false, bin_neq, decide_eq_true rfl, Bool.not_true, ifB_false]
  simp -zeta only [cellsR.ld (h.hereB hc) sc_int (j := 1) rfl]
  obtain ⟨m, lf, cf, m2, ls, cs, qv, hF, hpc, hpm, _, _⟩ := diskD.peek hp
  obtain ⟨m', lf', cf', m2', ls', cs', qv', hF', hqc, hqm, _, _⟩ := diskD.peek hq
  refine h.ask (fun B2 own base2 => Size_g hF (base2 hpc) (base2 hpm) L[i].1.f) fun w6 h => ?_
  refine ⟨cellsR.is (h.hereB hc) sc_int (j := 1) rfl, ?_⟩
  refine h.ask (fun B2 own base2 => Size_g hF' (base2 hqc) (base2 hqm) L[i].1.f) fun w7 h => ?_
  rw [bin_neq, h2, decide_eq_true rfl, Bool.not_true, ifB_false, bin_add, wrap_id (by omega) (by omega)]
  exact hnext _ _ ⟨i + 1, hi, rfl, h⟩ (by simp only; omega)

theorem Size_d {p : Nat} {s : DS} {kv : Value} (hd : diskD p s kv B) (f : Int) : Gives Try.prog B (sCall F_disk_Disk_Size #[ptr p, .int .i64 f]) (.int .i64 (s.fs f).now.size) := by
  obtain ⟨m, lf, cf, m2, ls, cs, qv, hF, hc, hm, _, _⟩ := diskD.peek hd
  exact Size_g hF hc hm f
end

/-! ### small -/
def e1S : DS := (writeT newS 0 0 ⟨#[97, 98, 99]⟩).1
def e2S : DS := (syncT e1S 0).1
def e3S : DS := (writeT e2S 0 1 ⟨#[88, 89]⟩).1
def e4S : DS := crashS e3S [1]
def e5S : DS := { e4S with down := false }
def c1S : DS := { crashS e3S [0] with down := false }
def c2S : DS := (writeT c1S 1 62 ⟨#[97, 98, 99, 100]⟩).1
def c3S : DS := { crashS c2S [0, 1] with down := false }
def c4S : DS := (writeT c3S 16 0 ⟨#[]⟩).1
theorem small_r {B : Base} {w : World} {σ : List Dat} {K : Value → World → Prop} (h : Rel B w σ) (k : ∀ w', Rel B w' σ → K (.bool true) w') : upK Try.prog (sCall F_erratalaw04_small #[]) w K := by
  obtain ⟨B', h', back, _, _⟩ := h.frz
  replace k : ∀ w' τ, Rel B' w' τ → K (.bool true) w' := fun w' τ h => k w' (by have := back w' _ h; exact this.drop)
  clear back h
  have h := h'
  clear h'
  refine erratalaw04_small.up (erratalaw04_small.call ?_)
  unfold erratalaw04_small.pt
  have nk : ∀ B : Base, (rowR (.slice none 0 0) ([] : List Int)) B := nilrow
  refine h.make (fun B2 own base2 => New_m) fun u τ w1 hp h => ?_
  obtain ⟨p, rfl, rfl⟩ := hp
  rw [nil_ne, ifB_false]
  refine h.act 0 rfl (fun B2 own base2 => Write_d (nk _) (by decide) 0 0 (by decide)) fun v e' τ w2 hp h => ?_
  obtain ⟨rfl, rfl, rfl⟩ := hp
  have h : Rel B' w2 [diskD p e1S (.slice none 0 0)] := h
  refine h.act 0 rfl (fun B2 own base2 => Sync_d (nk _) (by decide) 0) fun v e' τ w3 hp h => ?_
  obtain ⟨rfl, rfl, rfl⟩ := hp
  have h : Rel B' w3 [diskD p e2S (.slice none 0 0)] := h
  refine h.act 0 rfl (fun B2 own base2 => Write_d (nk _) (by decide) 0 1 (by decide)) fun v e' τ w4 hp h => ?_
  obtain ⟨rfl, rfl, rfl⟩ := hp
  have h : Rel B' w4 [diskD p e3S (.slice none 0 0)] := h
  refine h.make (fun B2 own base2 => Copy_m (own (i := 0) rfl)) fun u τ w5 hp h => ?_
  obtain ⟨c, rfl, rfl⟩ := hp
  rw [nil_ne, ifB_false]
  refine h.build1 (α := Int) 1 sl_s_int (by decide) fun v1 w6 h => ?_
  refine h.act 0 rfl (fun B2 own base2 => crash_d (rowD.read (own (j := 2) (by decide) rfl)) (by decide)) fun v e' τ w7 hp h => ?_
  obtain ⟨rfl, rfl, rfl⟩ := hp
  have h : Rel B' w7 [diskD p e4S (.slice none 0 0), diskD c e3S (.slice none 0 0), rowD T_int v1 ([1] : List Int)] := h
  refine h.ask (fun B2 own base2 => Down_g (own (i := 0) rfl)) fun w8 h => ?_
  refine h.ask (fun B2 own base2 => Read_g (own (i := 0) rfl) 0 0 9) fun w9 h => ?_
  rw [ext_2_0, ext_2_1]
  refine h.act 0 rfl (fun B2 own base2 => Start_d) fun v e' τ w10 hp h => ?_
  obtain ⟨rfl, rfl, rfl⟩ := hp
  refine h.ask (fun B2 own base2 => Read_g (own (i := 0) rfl) 0 0 9) fun w11 h => ?_
  rw [ext_2_0, ext_2_1]
  refine h.build1 (α := Int) 0 sl_s_int (by decide) fun v2 w12 h => ?_
  refine h.act 1 rfl (fun B2 own base2 => crash_d (rowD.read (own (j := 3) (by decide) rfl)) (by decide)) fun v e' τ w13 hp h => ?_
  obtain ⟨rfl, rfl, rfl⟩ := hp
  refine h.act 1 rfl (fun B2 own base2 => Start_d) fun v e' τ w14 hp h => ?_
  obtain ⟨rfl, rfl, rfl⟩ := hp
  have h : Rel B' w14 [diskD p e5S (.slice none 0 0), diskD c c1S (.slice none 0 0), rowD T_int v1 ([1] : List Int), rowD T_int v2 ([0] : List Int)] := h
  refine h.ask (fun B2 own base2 => Read_g (own (i := 1) rfl) 0 1 9) fun w15 h => ?_
  rw [ext_2_0, ext_2_1]
  refine h.act 1 rfl (fun B2 own base2 => Write_d (nk _) (by decide) 1 62 (by decide)) fun v e' τ w16 hp h => ?_
  obtain ⟨rfl, rfl, rfl⟩ := hp
  refine h.buildN (α := Int) [0, 1] sl_s_int fun v3 w17 h => ?_
  refine h.act 1 rfl (fun B2 own base2 => crash_d (rowD.read (own (j := 4) (by decide) rfl)) (by decide)) fun v e' τ w18 hp h => ?_
  obtain ⟨rfl, rfl, rfl⟩ := hp
  refine h.act 1 rfl (fun B2 own base2 => Start_d) fun v e' τ w19 hp h => ?_
  obtain ⟨rfl, rfl, rfl⟩ := hp
  have h : Rel B' w19 [diskD p e5S (.slice none 0 0), diskD c c3S (.slice none 0 0), rowD T_int v1 ([1] : List Int), rowD T_int v2 ([0] : List Int), rowD T_int v3 ([0, 1] : List Int)] := h
  refine h.ask (fun B2 own base2 => Read_g (own (i := 1) rfl) 1 60 100) fun w20 h => ?_
  rw [ext_2_0, ext_2_1]
  have t1 : (writeT newS 0 0 ⟨#[97, 98, 99]⟩).2 = 0 := by decide +kernel
  have t2 : (syncT e1S 0).2 = 0 := by decide +kernel
  have t3 : e4S.down = true := by decide +kernel
  have t4 : (readT e4S 0 0 9).2 = 9 := by decide +kernel
  have t5 : readT { e4S with down := false } 0 0 9 = (⟨#[97, 88, 89]⟩, 0) := by decide +kernel
  have t6 : readT c1S 0 1 9 = (⟨#[98, 99]⟩, 0) := by decide +kernel
  have t7 : (writeT c1S 1 62 ⟨#[97, 98, 99, 100]⟩).2 = 0 := by decide +kernel
  have t8 : readT c3S 1 60 100 = (⟨#[0, 0, 0, 0, 99, 100]⟩, 0) := by decide +kernel
  have t9 : (c3S.fs 1).now.size = 66 := by decide +kernel
  have t10 : (writeT c3S 16 0 ⟨#[]⟩).2 = 1 := by decide +kernel
  have t11 : (writeT c4S 1 16777216 ⟨#[97]⟩).2 = 6 := by decide +kernel
  rw [t1, t2, t3, t4, t5, t6, t7, t8]
  simp -zeta only [bin_eql, decide_true, ifB_true, eql_str]
  refine h.ask (fun B2 own base2 => Size_d (own (i := 1) rfl) 1) fun w21 h => ?_
  rw [t9]
  simp -zeta only [bin_eql]
  rw [decide_eq_true (show ((66 : Nat) : Int) = 66 by decide), ifB_true]
  refine h.act 1 rfl (fun B2 own base2 => Write_d (nk _) (by decide) 16 0 (by decide)) fun v e' τ w22 hp h => ?_
  obtain ⟨rfl, rfl, rfl⟩ := hp
  rw [t10, bin_eql, decide_eq_true rfl, ifB_true]
  have h : Rel B' w22 [diskD p e5S (.slice none 0 0), diskD c c4S (.slice none 0 0), rowD T_int v1 ([1] : List Int), rowD T_int v2 ([0] : List Int), rowD T_int v3 ([0, 1] : List Int)] := h
  refine h.act 1 rfl (fun B2 own base2 => Write_d (nk _) (by decide) 1 16777216 (by decide)) fun v e' τ w23 hp h => ?_
  obtain ⟨rfl, rfl, rfl⟩ := hp
  rw [t11, bin_eql, decide_eq_true rfl]
  exact k _ _ h
end Go.Proofs.Ytoldlajahoodjaa
