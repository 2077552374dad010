/-
  The disk as a thing in memory; its readers, maps and small calls. No condition.
-/
import Derived.Test.YtmkigdkhpdeaeaaDoorDiskP
import Derived.Test.YtmkigdkhpdeaeaaDoorLib
import Derived.Laws.Externs
namespace Go.Proofs.YtmkigdkhpdeaeaaDoor
open Go.RowKit

theorem kInt : KeyTy Tryd.prog T_int Int := KeyTy.int U_int
theorem sameBits_int (n : Nat) (k : IntKind) (a : Int) : Instr.sameBits n (.int k a) (.int k a) = true := by cases n <;> simp [Instr.sameBits]
theorem sameBits_2 (n : Nat) (a b : Int) : Instr.sameBits (n + 1) (.agg #[.int .i64 a, .int .i64 b]) (.agg #[.int .i64 a, .int .i64 b]) = true := by simp [Instr.sameBits, sameBits_int]
theorem kSec : KeyTy Tryd.prog T_disk_sector Sec := KeyTy.agg (fs := Tryd.prog.fieldsOf T_disk_sector) (by kernel_rfl) (fun _ => rfl) (by kernel_rfl) (fun x y w => run_eq_disk_sector x y w) (fun x => sameBits_2 9999 x.file x.number)

structure DF (s : DS) (lf : List (Ent Int FileV)) (cf : Nat) (ls : List (Ent Sec Bool)) (cs : Nat) : Prop where
  wf : WfE lf cf
  files : ∀ f, s.fs f = (getE f lf).getD F0
  ws : WfE ls cs
  set_ : ∀ q, (getE q ls).getD false = decide (q ∈ s.queue)
  ok : DOk s
abbrev DX := ((Nat × List (Ent Int FileV) × Nat) × (Nat × List (Ent Sec Bool) × Nat)) × Value
abbrev dcs (m : Nat) (qv : Value) (m2 : Nat) (s : DS) (kv : Value) : Array Value := #[mapV m, qv, mapV m2, .int .i64 s.lost, .bool s.down, .int .i64 s.armed, kv]
abbrev parts (p : Nat) (s : DS) (kv : Value) (x : DX) : List Dat := [cellD p T_disk_Disk (dcs x.1.1.1 x.2 x.1.2.1 s kv), mapE x.1.1.1 x.1.1.2.1 x.1.1.2.2, rowD T_disk_sector x.2 s.queue, mapE x.1.2.1 x.1.2.2.1 x.1.2.2.2]
def diskD (p : Nat) (s : DS) (kv : Value) : Dat := Dat.ex fun x : DX => (Dat.pure (DF s x.1.1.2.1 x.1.1.2.2 x.1.2.2.1 x.1.2.2.2 ∧ kv.oneCell' = true)).and (stars (parts p s kv x))
section
variable {B : Base} {w : World} {p : Nat} {s : DS} {kv : Value}
theorem diskD.open_ (h : Rel B w [diskD p s kv]) : ∃ m lf cf m2 ls cs qv, DF s lf cf ls cs ∧ kv.oneCell' = true ∧ Rel B w [cellD p T_disk_Disk (dcs m qv m2 s kv), mapE m lf cf, rowD T_disk_sector qv s.queue, mapE m2 ls cs] := by
  obtain ⟨x, h⟩ := h.ex (i := 0) rfl
  obtain ⟨⟨h1, h2⟩, h⟩ := h.pureAnd (i := 0) rfl
  have h := Rel.unstars (σ := []) (L := parts p s kv x) h
  exact ⟨_, _, _, _, _, _, _, h1, h2, h⟩
theorem diskD.close {m cf m2 cs : Nat} {lf : List (Ent Int FileV)} {ls : List (Ent Sec Bool)} {qv : Value} (hf : DF s lf cf ls cs) (hk : kv.oneCell' = true) (h : Rel B w [cellD p T_disk_Disk (dcs m qv m2 s kv), mapE m lf cf, rowD T_disk_sector qv s.queue, mapE m2 ls cs]) : Rel B w [diskD p s kv] := by
  have h := Rel.restars (σ := []) h
  exact h.imp (i := 0) (e := diskD p s kv) rfl fun B hB => ⟨(((m, lf, cf), (m2, ls, cs)), qv), ⟨hf, hk⟩, hB⟩
/-- What can be read of a disk. -/
theorem diskD.peek (h : diskD p s kv B) : ∃ m lf cf m2 ls cs qv, DF s lf cf ls cs ∧ cellD p T_disk_Disk (dcs m qv m2 s kv) B ∧ mapE m lf cf B ∧ rowD T_disk_sector qv s.queue B ∧ mapE m2 ls cs B := by
  obtain ⟨x, ⟨h1, h2⟩, h3⟩ := h
  exact ⟨_, _, _, _, _, _, _, h1, Dat.star.left h3, Dat.star.left (Dat.star.right h3), Dat.star.left (Dat.star.right (Dat.star.right h3)), Dat.star.left (Dat.star.right (Dat.star.right (Dat.star.right h3)))⟩
theorem diskD.ok (h : diskD p s kv B) : DOk s ∧ kv.oneCell' = true := by
  obtain ⟨x, ⟨h1, h2⟩, h3⟩ := h
  exact ⟨h1.ok, h2⟩

/-! ### Readers -/
theorem may_g {m m2 : Nat} {qv : Value} (hc : cellD p T_disk_Disk (dcs m qv m2 s kv) B) (f : Int) : Gives Tryd.prog B (sCall F_disk_Disk_may #[ptr p, .int .i64 f]) (.int .i64 (mayS s f)) := by
  refine Gives.intro fun B' w K base h k => ?_
  replace hc := base hc
  refine disk_Disk_may.up (disk_Disk_may.call ?_)
  unfold disk_Disk_may.pt
  unfold mayS at k
  simp -zeta only [nil_ptr, field_addr f_disk_Disk_4, Nat.zero_add, cellD.ld (h.hereB hc) sc_bool (o := 4) rfl]
  rw [ifB_bool]
  refine ⟨fun e => ?_, fun e => ?_⟩
  · rw [if_pos e] at k; exact k _ _ h
  · rw [if_neg (by rw [e]; decide)] at k
    simp -zeta only [bin_lss, bin_geq, ifB_dec]
    refine ⟨fun h1 => ?_, fun h1 => ⟨fun h2 => ?_, fun h2 => ?_⟩⟩
    · rw [if_pos h1] at k; exact k _ _ h
    · rw [if_neg h1, if_pos h2] at k; exact k _ _ h
    · rw [if_neg h1, if_neg h2] at k; exact k _ _ h
theorem file_look {lf : List (Ent Int FileV)} {cf : Nat} {ls : List (Ent Sec Bool)} {cs m : Nat} (hF : DF s lf cf ls cs) (h : (mapE m lf cf).here w) (f : Int) {Kp : Value → Prop} : readK Tryd.prog (sLookup T_map_int_disk_file (mapV m) (.int .i64 f) false) w Kp = Kp (.agg #[.string (s.fs f).now, .string (s.fs f).last]) :=
  mapE.look (x := f) h U_map_int_disk_file kInt F0 z_disk_file rfl (by rw [← hF.files]; rfl)
theorem Size_g {m m2 : Nat} {qv : Value} {lf : List (Ent Int FileV)} {cf : Nat} {ls : List (Ent Sec Bool)} {cs : Nat} (hF : DF s lf cf ls cs) (hc : cellD p T_disk_Disk (dcs m qv m2 s kv) B) (hm : mapE m lf cf B) (f : Int) :
    Gives Tryd.prog B (sCall F_disk_Disk_Size #[ptr p, .int .i64 f]) (.int .i64 (s.fs f).now.size) := by
  refine Gives.intro fun B' w K base h k => ?_
  replace hc := base hc
  replace hm := base hm
  refine disk_Disk_Size.up (disk_Disk_Size.call ?_)
  unfold disk_Disk_Size.pt
  simp -zeta only [nil_ptr, field_addr f_disk_Disk_0, Nat.add_zero, cellD.ld (h.hereB hc) sc_map_int_disk_file (o := 0) rfl, file_look hF (h.hereB hm), field_sc (cs := #[.string (s.fs f).now, .string (s.fs f).last]) (v := .string (s.fs f).now) g_disk_file_0 rfl, len_string U_string]
  exact k _ _ h
theorem Read_g (hd : diskD p s kv B) (f at_ size : Int) : Gives Tryd.prog B (sCall F_disk_Disk_Read #[ptr p, .int .i64 f, .int .i64 at_, .int .i64 size]) (.tuple #[.string (readT s f at_ size).1, .int .i64 (readT s f at_ size).2]) := by
  refine Gives.intro fun B' w K base h k => ?_
  obtain ⟨m, lf, cf, m2, ls, cs, qv, hF, hc, hm, hq, hs⟩ := diskD.peek (base hd)
  refine disk_Disk_Read.up (disk_Disk_Read.call ?_)
  unfold disk_Disk_Read.pt
  unfold readT at k
  refine h.ask (fun B2 own base2 => may_g (base2 hc) f) fun w1 h => ?_
  simp -zeta only [bin_neq, ifB_not, ifB_dec]
  refine ⟨fun e0 => ?_, fun e0 => ?_⟩
  rotate_left
  · rw [if_pos e0] at k; exact k _ _ h
  rw [if_neg (by simpa using e0)] at k
  simp -zeta only [bin_lss, ifB_dec]
  refine ⟨fun e1 => ?_, fun e1 => ⟨fun e2 => ?_, fun e2 => ?_⟩⟩
  · rw [if_pos e1] at k; exact k _ _ h
  · rw [if_neg e1, if_pos e2] at k; exact k _ _ h
  rw [if_neg e1, if_neg e2] at k
  have hsz := hF.ok.now f
  have hb := bl_length (s.fs f).now
  simp -zeta only [nil_ptr, field_addr f_disk_Disk_0, Nat.add_zero, cellD.ld (h.hereB hc) sc_map_int_disk_file (o := 0) rfl, file_look hF (h.hereB hm), field_sc (cs := #[.string (s.fs f).now, .string (s.fs f).last]) (v := .string (s.fs f).now) g_disk_file_0 rfl, str_len U_string, blt_min]
  have e3 : min at_ ((bl (s.fs f).now).length : Int) = ((min at_.toNat (bl (s.fs f).now).length : Nat) : Int) := by omega
  rw [e3, str_cut U_string (lo := min at_.toNat (bl (s.fs f).now).length) (hi := (s.fs f).now.size) Bnd.some Bnd.none (by omega) (Nat.le_refl _)]
  have e4 : (bl (s.fs f).now).take (s.fs f).now.size = bl (s.fs f).now := by rw [← hb, List.take_length]
  rw [e4]
  have e5 : (bl (s.fs f).now).drop (min at_.toNat (bl (s.fs f).now).length) = (bl (s.fs f).now).drop at_.toNat := by
    rcases Nat.le_total at_.toNat (bl (s.fs f).now).length with h | h
    · rw [Nat.min_eq_left h]
    · rw [Nat.min_eq_right h, List.drop_length, List.drop_of_length_le h]
  rw [e5]
  generalize hr : (bl (s.fs f).now).drop at_.toNat = r at k ⊢
  simp -zeta only [str_len U_string, blt_min]
  have e6 : min size ((bl (ofL r)).length : Int) = ((min size.toNat r.length : Nat) : Int) := by
    show min size (r.length : Int) = _
    omega
  rw [e6, str_cut U_string (lo := 0) (hi := min size.toNat r.length) Bnd.none Bnd.some (Nat.zero_le _) (by show _ ≤ r.length; omega)]
  have e7 : ofL (((bl (ofL r)).take (min size.toNat r.length)).drop 0) = ofL (r.take size.toNat) := by
    show ofL ((r.take (min size.toNat r.length)).drop 0) = _
    rw [List.drop_zero]
    have : r.take (min size.toNat r.length) = r.take size.toNat := by
      rcases Nat.le_total size.toNat r.length with h | h
      · rw [Nat.min_eq_left h]
      · rw [Nat.min_eq_right h, List.take_length, List.take_of_length_le h]
    rw [this]
  rw [e7]
  exact k _ _ h

/-! ### Small calls that change it -/
theorem ends_d : Does Tryd.prog B (diskD p s kv) (sCall F_disk_Disk_ends #[ptr p]) fun v e' τ => v = .bool (endsB s) ∧ e' = diskD p (endsS s) kv ∧ τ = [] := by
  refine Does.intro fun B' w K base h k => ?_
  obtain ⟨m, lf, cf, m2, ls, cs, qv, hF, hk, h⟩ := diskD.open_ h
  refine disk_Disk_ends.up (disk_Disk_ends.call ?_)
  unfold disk_Disk_ends.pt
  have hok := hF.ok.armed
  simp -zeta only [nil_ptr, field_addr f_disk_Disk_4, field_addr f_disk_Disk_5, Nat.zero_add, h.ld 0 rfl sc_bool (o := 4) rfl, h.ld 0 rfl sc_int (o := 5) rfl]
  rw [ifB_bool]
  have same : endsB s = false → endsS s = s → K (.bool false) w := fun e1 e2 => by
    refine k _ _ [] _ ⟨by rw [e1], rfl, rfl⟩ ?_
    rw [e2]
    exact diskD.close hF hk h
  refine ⟨fun e => same (by unfold endsB; rw [e]; rfl) (by unfold endsS; rw [if_pos (.inl e)]), fun e => ?_⟩
  simp -zeta only [bin_eql, ifB_dec]
  refine ⟨fun e1 => same (by unfold endsB; rw [decide_eq_true e1]; simp) (by unfold endsS; rw [if_pos (.inr e1)]), fun e1 => ?_⟩
  clear same
  rw [bin_sub, wrap_id (by omega) (by omega)]
  refine h.st 0 rfl sc_int (show 5 < 7 by omega) rfl fun w1 h => ?_
  simp -zeta only [h.ld 0 rfl sc_int (o := 5) rfl, bin_eql]
  have e2 : endsS s = { s with armed := s.armed - 1 } := by unfold endsS; rw [if_neg (by rw [e]; simpa using e1)]
  have e3 : endsB s = decide (s.armed - 1 = 0) := by unfold endsB; rw [e, decide_eq_false e1]; rfl
  have hF' : DF (endsS s) lf cf ls cs := ⟨hF.wf, by rw [e2]; exact hF.files, hF.ws, by rw [e2]; exact hF.set_, hF.ok.ends⟩
  refine k _ _ [] _ ⟨by rw [e3], rfl, rfl⟩ ?_
  have h : Rel B' w1 [cellD p T_disk_Disk (dcs m qv m2 (endsS s) kv), mapE m lf cf, rowD T_disk_sector qv (endsS s).queue, mapE m2 ls cs] := by rw [e2]; exact h
  exact diskD.close hF' hk h
theorem Lose_d {n : Int} (hn : n ≤ 9223372036854775807) : Does Tryd.prog B (diskD p s kv) (sCall F_disk_Disk_Lose #[ptr p, .int .i64 n]) fun v e' τ => v = .tuple #[] ∧ e' = diskD p { s with lost := max n 0 } kv ∧ τ = [] := by
  refine Does.intro fun B' w K base h k => ?_
  obtain ⟨m, lf, cf, m2, ls, cs, qv, hF, hk, h⟩ := diskD.open_ h
  refine disk_Disk_Lose.up (disk_Disk_Lose.call ?_)
  unfold disk_Disk_Lose.pt
  simp -zeta only [nil_ptr, field_addr f_disk_Disk_3, Nat.zero_add, blt_max]
  refine h.st 0 rfl sc_int (show 3 < 7 by omega) rfl fun w1 h => ?_
  have hF' : DF { s with lost := max n 0 } lf cf ls cs := ⟨hF.wf, hF.files, hF.ws, hF.set_, ⟨hF.ok.now, hF.ok.last, hF.ok.q, hF.ok.nd, by show 0 ≤ max n 0 ∧ max n 0 ≤ _; omega, hF.ok.armed⟩⟩
  exact k _ _ [] _ ⟨rfl, rfl, rfl⟩ (diskD.close hF' hk h)
theorem Start_d : Does Tryd.prog B (diskD p s kv) (sCall F_disk_Disk_Start #[ptr p]) fun v e' τ => v = .tuple #[] ∧ e' = diskD p { s with down := false } kv ∧ τ = [] := by
  refine Does.intro fun B' w K base h k => ?_
  obtain ⟨m, lf, cf, m2, ls, cs, qv, hF, hk, h⟩ := diskD.open_ h
  refine disk_Disk_Start.up (disk_Disk_Start.call ?_)
  unfold disk_Disk_Start.pt
  simp -zeta only [nil_ptr, field_addr f_disk_Disk_4, Nat.zero_add]
  refine h.st 0 rfl sc_bool (show 4 < 7 by omega) rfl fun w1 h => ?_
  have hF' : DF { s with down := false } lf cf ls cs := ⟨hF.wf, hF.files, hF.ws, hF.set_, ⟨hF.ok.now, hF.ok.last, hF.ok.q, hF.ok.nd, hF.ok.lost, hF.ok.armed⟩⟩
  exact k _ _ [] _ ⟨rfl, rfl, rfl⟩ (diskD.close hF' hk h)
theorem Arm_d {n : Int} {v : Value} {keep : List Int} (r : rowR v keep B) (hl : keep.length ≤ 1000000) (hn : n ≤ 9223372036854775807) : Does Tryd.prog B (diskD p s kv) (sCall F_disk_Disk_Arm #[ptr p, .int .i64 n, v])
    fun u e' τ => u = .tuple #[] ∧ ∃ kv', e' = diskD p { s with armed := max n 0, keep := keep } kv' ∧ τ = [rowD T_int kv' keep] := by
  refine Does.intro fun B' w K base h k => ?_
  replace r := base r
  obtain ⟨m, lf, cf, m2, ls, cs, qv, hF, hk, h⟩ := diskD.open_ h
  refine disk_Disk_Arm.up (disk_Disk_Arm.call ?_)
  unfold disk_Disk_Arm.pt
  rw [blt_max]
  refine h.make (fun B2 own base2 => gslices_Clone_s_int_int (base2 r) (by omega) (by omega)) fun kv' τ w1 hp h => ?_
  subst hp
  have h1 : kv'.oneCell' = true := h.oneCell (i := 4) rfl
  simp -zeta only [nil_ptr, field_addr f_disk_Disk_5, field_addr f_disk_Disk_6, Nat.zero_add]
  refine h.st 0 rfl sc_int (show 5 < 7 by omega) rfl fun w2 h => ?_
  refine h.st 0 rfl sc_s_int (show 6 < 7 by omega) h1 fun w3 h => ?_
  have hF' : DF { s with armed := max n 0, keep := keep } lf cf ls cs := ⟨hF.wf, hF.files, hF.ws, hF.set_, ⟨hF.ok.now, hF.ok.last, hF.ok.q, hF.ok.nd, hF.ok.lost, by show 0 ≤ max n 0 ∧ max n 0 ≤ _; omega⟩⟩
  have h := h.pick [4, 0, 1, 2, 3] (by decide)
  have h : Rel B' w3 ([rowD T_int kv' keep] ++ parts p { s with armed := max n 0, keep := keep } kv' (((m, lf, cf), (m2, ls, cs)), qv)) := h
  have h := h.restars
  have h := h.imp (i := 1) (e := diskD p { s with armed := max n 0, keep := keep } kv') rfl fun B hB => ⟨_, ⟨hF', h1⟩, hB⟩
  have h := h.pick [1, 0] (by decide)
  exact k _ _ _ _ ⟨rfl, kv', rfl, rfl⟩ h

/-! ### Maps: Clone, DeleteFunc -/
theorem deleteS_d {m c : Nat} {l : List (Ent Sec Bool)} (hw : WfE l c) {fv : Value} (p : Sec → Bool) (hf : ∀ B' : Base, (∀ {d : Dat}, d B → d B') → ∀ e ∈ l, Gives Tryd.prog B' (sCallV fv #[Enc.val e.1, Enc.val e.2.1]) (.bool (p e.1))) :
    Does Tryd.prog B (mapE m l c) (sCall F_maps_DeleteFunc_map_disk_sector_bool_disk_sector_bool #[mapV m, fv]) fun v e' τ => v = .tuple #[] ∧ e' = mapE m (l.filter fun e => !p e.1) c ∧ τ = [] := by
  refine Does.intro fun B' w K base h k => ?_
  refine maps_DeleteFunc_map_disk_sector_bool_disk_sector_bool.up (maps_DeleteFunc_map_disk_sector_bool_disk_sector_bool.call ?_)
  unfold maps_DeleteFunc_map_disk_sector_bool_disk_sector_bool.pt
  refine h.range 0 rfl U_map_disk_sector_bool fun it w1 h => ?_
  have e0 : (l.filter fun e => !((#[] : Array Nat).contains e.2.2 && p e.1)) = l := List.filter_eq_self.2 fun e _ => by simp
  refine LOOP_intro (fun _ w' => ∃ seen : Array Nat, Rel B' w' [mapE m (l.filter fun e => !(seen.contains e.2.2 && p e.1)) c, iterE it m c seen c]) (fun _ w' => unseenE l (seenOf w' it)) ⟨#[], by rw [e0]; exact h⟩ ?_
  clear h
  rintro x w2 ⟨seen, h⟩ next hnext
  have hms := seenOf_eq h (j := 1) rfl
  have hwf := hw.filter fun e => !(seen.contains e.2.2 && p e.1)
  refine h.next 0 1 it rfl rfl hwf.below (fun w3 hall h => ?_) (fun e w3 he hns h => ?_)
  · rw [show (sExtract (.tuple #[.bool false]) 0) = (sExtract (.tuple #[.bool false]) 0) from rfl, pureK_eq (v := .bool false) (fun w => rfl), ifB_false]
    have e1 : (l.filter fun e => !(seen.contains e.2.2 && p e.1)) = l.filter fun e => !p e.1 := by
      refine List.filter_congr fun e he => ?_
      cases hb : !(seen.contains e.2.2 && p e.1) with
      | true =>
        have := hall e (List.mem_filter.2 ⟨he, hb⟩)
        rw [this] at hb
        simpa using hb.symm
      | false =>
        simp at hb
        rw [hb.2]; rfl
    rw [e1] at h
    exact k _ _ [] _ ⟨rfl, rfl, rfl⟩ (h.take 1)
  · have hel : e ∈ l := (List.mem_filter.1 he).1
    rw [ext_3_0, ifB_true]
    refine h.entry 0 1 it rfl rfl he hwf.stamps fun w4 h => ?_
    rw [ext_2_0, ext_2_1]
    refine h.allocAg (ds := e.1.cs.toArray) z_disk_sector rfl ag_disk_sector rfl (fun v hv => Enc.one e.1 v hv) fun b w5 h => ?_
    simp -zeta only [h.ldAg 2 rfl ag_disk_sector rfl]
    refine h.ask (fun B2 own base2 => hf B2 (fun hd => base2 (base hd)) e hel) fun w6 h => ?_
    have step : ∀ x ∈ l, x ≠ e → (seen.push e.2.2).contains x.2.2 = seen.contains x.2.2 := fun x hx hne => by
      rw [contains_push, decide_eq_false fun hh => hne (hw.eq_of_stamp hx hel hh), Bool.or_false]
    have hself : (seen.push e.2.2).contains e.2.2 = true := by simp [contains_push]
    rw [ifB_bool]
    refine ⟨fun hp => ?_, fun hp => ?_⟩
    · simp -zeta only [h.ldAg 2 rfl ag_disk_sector rfl]
      refine h.delete 0 rfl U_map_disk_sector_bool kSec e.1 fun w7 h => ?_
      have e2 : delE e.1 (l.filter fun e => !(seen.contains e.2.2 && p e.1)) = l.filter fun x => !((seen.push e.2.2).contains x.2.2 && p x.1) := by
        rw [delE_eq hwf.keys, List.filter_filter]
        refine List.filter_congr fun x hx => ?_
        by_cases hxe : x = e
        · subst hxe; rw [hself, hp]; simp
        · rw [step x hx hxe, decide_eq_true (p := x.1 ≠ e.1) (fun hh => hxe (hw.eq_of_key hx hel hh)), Bool.true_and]
      rw [e2] at h
      have h := h.take 2
      refine hnext _ _ ⟨_, h⟩ ?_
      show unseenE l (seenOf w7 it) < unseenE l (seenOf w2 it)
      rw [hms, seenOf_eq h (j := 1) rfl]
      exact unseen_push hel hns
    · have e2 : (l.filter fun e => !(seen.contains e.2.2 && p e.1)) = l.filter fun x => !((seen.push e.2.2).contains x.2.2 && p x.1) := by
        refine List.filter_congr fun x hx => ?_
        by_cases hxe : x = e
        · subst hxe; rw [hself, hp]; simp
        · rw [step x hx hxe]
      have h := h.take 2
      rw [e2] at h
      refine hnext _ _ ⟨_, h⟩ ?_
      show unseenE l (seenOf w6 it) < unseenE l (seenOf w2 it)
      rw [hms, seenOf_eq h (j := 1) rfl]
      exact unseen_push hel hns
end
end Go.Proofs.YtmkigdkhpdeaeaaDoor
