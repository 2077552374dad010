/-
  The reference's calls of chapter 4, and DiskTells. No condition.
-/
import Derived.Test.YtoldlajahoodjaaDiskJ
namespace Go.Proofs.Ytoldlajahoodjaa
open Go.RowKit

theorem addS_nil (s : DS) (f : Int) (a : Nat) : addS s f a ⟨#[]⟩ = s := by unfold addS; rw [if_pos rfl]
theorem comes_nil (s : DS) : comesS s 0 0 ⟨#[]⟩ = comeS s := by
  unfold comesS comeS
  rw [keep_ends, addS_nil, ite_self]
theorem crash_dn (s : DS) (k : List Int) : (crashS s k).down = true := by
  unfold crashS
  split
  · assumption
  · rfl
theorem writeE_eq (s : DS) (f a : Int) (t : ByteArray) : writeE s f a t = if mayS s f ≠ 0 then mayS s f else if a < 0 then 1 else if ¬ (0 ≤ a ∧ a + t.size ≤ 16777216) then 6 else 0 := by
  unfold writeE
  by_cases c0 : mayS s f ≠ 0
  · rw [if_pos c0, if_pos c0]
  rw [if_neg c0, if_neg c0]
  by_cases c1 : a < 0
  · rw [if_pos c1, if_pos c1]
  rw [if_neg c1, if_neg c1]
  by_cases c2 : 16777216 < a
  · rw [if_pos c2, if_pos (by omega)]
  rw [if_neg c2]
  by_cases c3 : 16777216 - a < t.size
  · rw [if_pos c3, if_pos (by omega)]
  · rw [if_neg c3, if_neg (by omega)]
theorem writeE_zero' {s : DS} (hd : s.down = false) {f a : Int} {t : ByteArray} : writeE s f a t = 0 ↔ (0 ≤ f ∧ f < 16) ∧ 0 ≤ a ∧ a + t.size ≤ 16777216 := by
  have hm := mayS_zero (s := s) (f := f)
  rw [writeE_eq]
  constructor
  · intro h
    by_cases c0 : mayS s f ≠ 0
    · rw [if_pos c0] at h; exact absurd h c0
    rw [if_neg c0] at h
    by_cases c1 : a < 0
    · rw [if_pos c1] at h; omega
    rw [if_neg c1] at h
    by_cases c2 : 0 ≤ a ∧ a + t.size ≤ 16777216
    · exact ⟨(hm.1 (by simpa using c0)).2, c2⟩
    · rw [if_pos c2] at h; omega
  · rintro ⟨h1, h2, h3⟩
    rw [if_neg (by rw [hm.2 ⟨hd, h1⟩]; decide), if_neg (by omega), if_neg (by omega)]
theorem ends_dn (s : DS) : (endsS s).down = s.down := by unfold endsS; split <;> rfl
theorem endsB_up {s : DS} (h : endsB s = true) : s.down = false := by
  unfold endsB at h
  cases hd : s.down
  · rfl
  · rw [hd] at h; cases h
theorem comes_write (s : DS) (f a : Int) (t : ByteArray) :
    (if mayS (comesS s f a t) f ≠ 0 then (comesS s f a t, mayS (comesS s f a t) f) else if a < 0 then (comesS s f a t, 1) else if ¬ (0 ≤ a ∧ a + (t.size : Int) ≤ 16777216) then (comesS s f a t, 6) else (addS (comesS s f a t) f a.toNat t, 0)) = writeT s f a t := by
  by_cases e : endsB s = true
  · have hd : (endsS s).down = false := by rw [ends_dn]; exact endsB_up e
    have hc : comesS s f a t = crashS (writeW (endsS s) f a t) (writeW (endsS s) f a t).keep := by
      unfold comesS
      rw [if_pos e, keep_write, keep_ends]
      congr 1
      unfold writeW
      by_cases z : writeE (endsS s) f a t = 0
      · rw [if_pos z, if_pos ((writeE_zero' hd).1 z)]
      · rw [if_neg z, if_neg fun hh => z ((writeE_zero' hd).2 hh)]
    have hm : mayS (comesS s f a t) f = 9 := by unfold mayS; rw [hc, if_pos (crash_dn _ _)]
    rw [hm, if_pos (by decide), hc]
    unfold writeT
    rw [if_pos e]
  · have hc : comesS s f a t = endsS s := by unfold comesS; rw [if_neg e]
    rw [hc]
    unfold writeT
    rw [if_neg e]
    unfold writeW
    rw [writeE_eq]
    generalize endsS s = d
    by_cases c0 : mayS d f ≠ 0
    · rw [if_pos c0, if_pos c0, if_neg c0]
    rw [if_neg c0, if_neg c0]
    by_cases c1 : a < 0
    · rw [if_pos c1, if_pos c1, if_neg (by decide)]
    rw [if_neg c1, if_neg c1]
    by_cases c2 : ¬ (0 ≤ a ∧ a + (t.size : Int) ≤ 16777216)
    · rw [if_pos c2, if_pos c2, if_neg (by decide)]
    · rw [if_neg c2, if_neg c2, if_pos rfl]

section
variable {B : Base} {w : World} {q : Nat} {s : DS} {kv : Value}
theorem RWrite_d (r : rowR kv s.keep B) (hkl : s.keep.length ≤ 1000000) (f a : Int) {t : ByteArray} (ht : t.size ≤ 1000000000) : Does Try.prog B (refD q s kv) (sCall F_errataref04_Disk_Write #[ptr q, .int .i64 f, .int .i64 a, .string t])
    fun v e' τ => v = .int .i64 (writeT s f a t).2 ∧ e' = refD q (writeT s f a t).1 kv ∧ τ = [] := by
  refine Does.intro fun B' w K base h k => ?_
  replace r := base r
  refine errataref04_Disk_Write.up (errataref04_Disk_Write.call ?_)
  unfold errataref04_Disk_Write.pt
  rw [← comes_write] at k
  refine h.act 0 rfl (fun B2 own base2 => Rcomes_d (base2 r) hkl f a t ht) fun v e' τ w1 hp h => ?_
  obtain ⟨rfl, rfl, rfl⟩ := hp
  have h : Rel B' w1 [refD q (comesS s f a t) kv] := h
  generalize comesS s f a t = c at h k
  obtain ⟨fv, Fl, qv, hF, hk, h⟩ := refD.open_ h
  refine h.ask (fun B2 own base2 => Rmay_g (own (i := 0) rfl) f) fun w2 h => ?_
  have h := refD.close hF hk h
  simp -zeta only [bin_neq, ifB_not, ifB_dec]
  refine ⟨fun e0 => ?_, fun e0 => by rw [if_pos e0] at k; exact k _ _ [] _ ⟨rfl, rfl, rfl⟩ h⟩
  rw [if_neg (by simpa using e0)] at k
  simp -zeta only [bin_lss, ifB_dec]
  refine ⟨fun e1 => by rw [if_pos e1] at k; exact k _ _ [] _ ⟨rfl, rfl, rfl⟩ h, fun e1 => ?_⟩
  rw [if_neg e1] at k
  refine h.ask (fun B2 own base2 => Rfits_g a t ht) fun w3 hz => ?_
  rw [un_not, ifB_not, ifB_dec]
  refine ⟨fun e2 => ?_, fun e2 => by rw [if_pos e2] at k; exact k _ _ [] _ ⟨rfl, rfl, rfl⟩ hz⟩
  rw [if_neg (by simpa using e2)] at k
  obtain ⟨n, rfl⟩ : ∃ n : Nat, a = n := ⟨a.toNat, by omega⟩
  have hf := (mayS_zero.1 e0).2
  refine hz.act 0 rfl (fun B2 own base2 => Radd_d hf (a := n) (t := t) (by omega)) fun v e' τ w4 hp h => ?_
  obtain ⟨rfl, rfl, rfl⟩ := hp
  rw [Int.toNat_natCast] at k
  exact k _ _ [] _ ⟨rfl, rfl, rfl⟩ h

theorem RSync_d (r : rowR kv s.keep B) (hkl : s.keep.length ≤ 1000000) (f : Int) : Does Try.prog B (refD q s kv) (sCall F_errataref04_Disk_Sync #[ptr q, .int .i64 f]) fun v e' τ => v = .int .i64 (syncT s f).2 ∧ e' = refD q (syncT s f).1 kv ∧ τ = [] := by
  refine Does.intro fun B' w K base h k => ?_
  replace r := base r
  refine errataref04_Disk_Sync.up (errataref04_Disk_Sync.call ?_)
  unfold errataref04_Disk_Sync.pt
  unfold syncT at k
  refine h.act 0 rfl (fun B2 own base2 => Rcomes_d (base2 r) hkl 0 0 ⟨#[]⟩ (by decide)) fun v e' τ w1 hp h => ?_
  obtain ⟨rfl, rfl, rfl⟩ := hp
  rw [comes_nil] at h
  have h : Rel B' w1 [refD q (comeS s) kv] := h
  generalize comeS s = c at h k
  obtain ⟨fv, Fl, qv, hF, hk, h⟩ := refD.open_ h
  refine h.ask (fun B2 own base2 => Rmay_g (own (i := 0) rfl) f) fun w2 h => ?_
  simp -zeta only [bin_neq, ifB_not, ifB_dec]
  refine ⟨fun e0 => ?_, fun e0 => by rw [if_pos e0] at k; exact k _ _ [] _ ⟨rfl, rfl, rfl⟩ (refD.close hF hk h)⟩
  rw [if_neg (by simpa using e0)] at k
  simp -zeta only [nil_ptr, field_addr f_errataref04_Disk_2, Nat.zero_add, h.ld 0 rfl sc_int (o := 2) rfl, bin_gtr, ifB_dec]
  refine ⟨fun e1 => ?_, fun e1 => ?_⟩
  · rw [if_pos e1] at k
    have hl := hF.ok.lost
    rw [bin_sub, wrap_id (by omega) (by omega)]
    refine h.st 0 rfl sc_int (show 2 < 6 by omega) rfl fun w3 h => ?_
    have hF' : RX { c with lost := c.lost - 1 } Fl := ⟨hF.files, hF.nums, hF.rng, ⟨hF.ok.now, hF.ok.last, hF.ok.q, hF.ok.nd, by show 0 ≤ c.lost - 1 ∧ c.lost - 1 ≤ _; omega, hF.ok.armed⟩⟩
    exact k _ _ [] _ ⟨rfl, rfl, rfl⟩ (refD.close hF' hk h)
  · rw [if_neg e1] at k
    refine h.ask (fun B2 own base2 => Rget_g hF (own (i := 0) rfl) (own (i := 1) rfl) f) fun w3 h => ?_
    rw [field_sc (cs := #[.int .i64 f, .string (c.fs f).now, .string (c.fs f).last]) (v := .string (c.fs f).now) g_errataref04_File_1 rfl]
    have hn := hF.ok.now f
    have h := refD.close hF hk h
    refine h.act 0 rfl (fun B2 own base2 => Rsettle_d (mayS_zero.1 e0).2 hn) fun v e' τ w4 hp h => ?_
    obtain ⟨rfl, rfl, rfl⟩ := hp
    exact k _ _ [] _ ⟨rfl, rfl, rfl⟩ h

theorem RTruncate_d (r : rowR kv s.keep B) (hkl : s.keep.length ≤ 1000000) (f size : Int) : Does Try.prog B (refD q s kv) (sCall F_errataref04_Disk_Truncate #[ptr q, .int .i64 f, .int .i64 size]) fun v e' τ => v = .int .i64 (truncT s f size).2 ∧ e' = refD q (truncT s f size).1 kv ∧ τ = [] := by
  refine Does.intro fun B' w K base h k => ?_
  replace r := base r
  refine errataref04_Disk_Truncate.up (errataref04_Disk_Truncate.call ?_)
  unfold errataref04_Disk_Truncate.pt
  unfold truncT at k
  refine h.act 0 rfl (fun B2 own base2 => Rcomes_d (base2 r) hkl 0 0 ⟨#[]⟩ (by decide)) fun v e' τ w1 hp h => ?_
  obtain ⟨rfl, rfl, rfl⟩ := hp
  rw [comes_nil] at h
  have h : Rel B' w1 [refD q (comeS s) kv] := h
  generalize comeS s = c at h k
  obtain ⟨fv, Fl, qv, hF, hk, h⟩ := refD.open_ h
  refine h.ask (fun B2 own base2 => Rmay_g (own (i := 0) rfl) f) fun w2 h => ?_
  simp -zeta only [bin_neq, ifB_not, ifB_dec]
  refine ⟨fun e0 => ?_, fun e0 => by rw [if_pos e0] at k; exact k _ _ [] _ ⟨rfl, rfl, rfl⟩ (refD.close hF hk h)⟩
  rw [if_neg (by simpa using e0)] at k
  refine h.ask (fun B2 own base2 => Rget_g hF (own (i := 0) rfl) (own (i := 1) rfl) f) fun w3 h => ?_
  rw [field_sc (cs := #[.int .i64 f, .string (c.fs f).now, .string (c.fs f).last]) (v := .string (c.fs f).now) g_errataref04_File_1 rfl]
  have hn := hF.ok.now f
  have hb := bl_length (c.fs f).now
  have h := refD.close hF hk h
  simp -zeta only [bin_lss, str_len U_string, bin_gtr, ifB_dec]
  refine ⟨fun e1 => by rw [if_pos e1] at k; exact k _ _ [] _ ⟨rfl, rfl, rfl⟩ h, fun e1 => ⟨fun e2 => by rw [if_neg e1, if_pos (by omega)] at k; exact k _ _ [] _ ⟨rfl, rfl, rfl⟩ h, fun e2 => ?_⟩⟩
  rw [if_neg e1, if_neg (by omega)] at k
  obtain ⟨n, rfl⟩ : ∃ n : Nat, size = n := ⟨size.toNat, by omega⟩
  rw [str_cut U_string (lo := 0) (hi := n) Bnd.none Bnd.some (Nat.zero_le _) (by omega), List.drop_zero]
  refine h.act 0 rfl (fun B2 own base2 => Rsettle_d (mayS_zero.1 e0).2 (x := ofL ((bl (c.fs f).now).take n)) (by rw [ofL_size, List.length_take]; omega)) fun v e' τ w4 hp h => ?_
  obtain ⟨rfl, rfl, rfl⟩ := hp
  exact k _ _ [] _ ⟨rfl, rfl, rfl⟩ h

theorem RLose_d {n : Int} (hn : n ≤ 9223372036854775807) : Does Try.prog B (refD q s kv) (sCall F_errataref04_Disk_Lose #[ptr q, .int .i64 n]) fun v e' τ => v = .tuple #[] ∧ e' = refD q { s with lost := max n 0 } kv ∧ τ = [] := by
  refine Does.intro fun B' w K base h k => ?_
  obtain ⟨fv, Fl, qv, hF, hk, h⟩ := refD.open_ h
  refine errataref04_Disk_Lose.up (errataref04_Disk_Lose.call ?_)
  unfold errataref04_Disk_Lose.pt
  simp -zeta only [nil_ptr, field_addr f_errataref04_Disk_2, Nat.zero_add, blt_max]
  refine h.st 0 rfl sc_int (show 2 < 6 by omega) rfl fun w1 h => ?_
  have hF' : RX { s with lost := max n 0 } Fl := ⟨hF.files, hF.nums, hF.rng, ⟨hF.ok.now, hF.ok.last, hF.ok.q, hF.ok.nd, by show 0 ≤ max n 0 ∧ max n 0 ≤ _; omega, hF.ok.armed⟩⟩
  exact k _ _ [] _ ⟨rfl, rfl, rfl⟩ (refD.close hF' hk h)
theorem RStart_d : Does Try.prog B (refD q s kv) (sCall F_errataref04_Disk_Start #[ptr q]) fun v e' τ => v = .tuple #[] ∧ e' = refD q { s with down := false } kv ∧ τ = [] := by
  refine Does.intro fun B' w K base h k => ?_
  obtain ⟨fv, Fl, qv, hF, hk, h⟩ := refD.open_ h
  refine errataref04_Disk_Start.up (errataref04_Disk_Start.call ?_)
  unfold errataref04_Disk_Start.pt
  simp -zeta only [nil_ptr, field_addr f_errataref04_Disk_3, Nat.zero_add]
  refine h.st 0 rfl sc_bool (show 3 < 6 by omega) rfl fun w1 h => ?_
  have hF' : RX { s with down := false } Fl := ⟨hF.files, hF.nums, hF.rng, ⟨hF.ok.now, hF.ok.last, hF.ok.q, hF.ok.nd, hF.ok.lost, hF.ok.armed⟩⟩
  exact k _ _ [] _ ⟨rfl, rfl, rfl⟩ (refD.close hF' hk h)
theorem RArm_d {n : Int} {v : Value} {keep : List Int} (r : rowR v keep B) (hl : keep.length ≤ 1000000) (hn : n ≤ 9223372036854775807) : Does Try.prog B (refD q s kv) (sCall F_errataref04_Disk_Arm #[ptr q, .int .i64 n, v])
    fun u e' τ => u = .tuple #[] ∧ ∃ kv', e' = refD q { s with armed := max n 0, keep := keep } kv' ∧ τ = [rowD T_int kv' keep] := by
  refine Does.intro fun B' w K base h k => ?_
  replace r := base r
  obtain ⟨fv, Fl, qv, hF, hk, h⟩ := refD.open_ h
  refine errataref04_Disk_Arm.up (errataref04_Disk_Arm.call ?_)
  unfold errataref04_Disk_Arm.pt
  simp -zeta only [nil_ptr, field_addr f_errataref04_Disk_4, field_addr f_errataref04_Disk_5, Nat.zero_add, blt_max]
  refine h.st 0 rfl sc_int (show 4 < 6 by omega) rfl fun w1 h => ?_
  refine h.build0 (α := Int) sl_s_int fun v1 w2 h hne => ?_
  refine h.append 3 rfl sl_s_int (Rd.base r) (by simp only [List.length_nil]; omega) (by simp only [List.length_nil]; omega) fun kv' w3 h => ?_
  have h1 : kv'.oneCell' = true := h.oneCell (i := 3) rfl
  refine h.st 0 rfl sc_s_int (show 5 < 6 by omega) h1 fun w4 h => ?_
  have hF' : RX { s with armed := max n 0, keep := keep } Fl := ⟨hF.files, hF.nums, hF.rng, ⟨hF.ok.now, hF.ok.last, hF.ok.q, hF.ok.nd, hF.ok.lost, by show 0 ≤ max n 0 ∧ max n 0 ≤ _; omega⟩⟩
  have h := h.pick [3, 0, 1, 2] (by decide)
  have h : Rel B' w4 ([rowD T_int kv' keep] ++ rparts q { s with armed := max n 0, keep := keep } kv' ((fv, Fl), qv)) := h
  have h := h.restars
  have h := h.imp (i := 1) (e := refD q { s with armed := max n 0, keep := keep } kv') rfl fun B hB => ⟨_, ⟨hF', h1⟩, hB⟩
  have h := h.pick [1, 0] (by decide)
  exact k _ _ _ _ ⟨rfl, kv', rfl, rfl⟩ h

theorem RNew_m : Makes Try.prog B (sCall F_errataref04_New #[]) fun v τ => ∃ q, v = ptr q ∧ τ = [refD q newS (.slice none 0 0)] := by
  refine Makes.intro fun B' w K base h k => ?_
  refine errataref04_New.up (errataref04_New.call ?_)
  unfold errataref04_New.pt
  rw [bd_errataref04_Disk_]
  refine h.box fun q w1 h => ?_
  have h := (h.addNil RFile T_errataref04_File).addNil RSec T_errataref04_Sector
  have hF : RX newS [] := ⟨fun _ => rfl, List.nodup_nil, fun x hx => (by cases hx), newS_ok⟩
  exact k _ _ _ ⟨q, rfl, rfl⟩ (refD.close (fv := .slice none 0 0) (qv := .slice none 0 0) hF rfl h)

theorem tell_d (r : rowR kv s.keep B) (hkl : s.keep.length ≤ 1000000) {a : Act4} {keep : List Int} (ra : rowR a.keep.1 keep B) (hal : keep.length ≤ 1000000) (hs : a.s.size ≤ 1000000000) (hn : a.n ≤ 9223372036854775807) :
    Does Try.prog B (refD q s kv) (sCall F_erratalaw04_tell #[ptr q, a.v]) fun v e' τ => v = .int .i64 (actT s a keep).2 ∧ ∃ kv', e' = refD q (actT s a keep).1 kv' ∧ ((kv' = kv ∧ (actT s a keep).1.keep = s.keep ∧ τ = []) ∨ ((actT s a keep).1.keep = keep ∧ τ = [rowD T_int kv' keep])) := by
  refine Does.intro fun B' w K base h k => ?_
  replace r := base r
  replace ra := base ra
  refine erratalaw04_tell.up (erratalaw04_tell.call ?_)
  unfold erratalaw04_tell.pt
  unfold actT at k
  refine h.box fun b w1 h => ?_
  have h : Rel B' w1 [refD q s kv, cellD b T_erratalaw04_Act a.cs.toArray] := h
  refine LETJ_intro fun J hJ => ?_
  replace hJ : ∀ w', K (.int .i64 0) w' → J () w' := fun w' h => hJ _ _ h
  simp -zeta only [field_addr f_erratalaw04_Act_0, field_addr f_erratalaw04_Act_1, field_addr f_erratalaw04_Act_2, field_addr f_erratalaw04_Act_3, field_addr f_erratalaw04_Act_4, Nat.add_zero, Nat.zero_add, h.ld 1 rfl sc_int (o := 0) rfl, h.ld 1 rfl sc_int (o := 1) rfl, h.ld 1 rfl sc_int (o := 2) rfl, h.ld 1 rfl sc_string (o := 3) rfl, h.ld 1 rfl sc_s_int (o := 4) rfl, bin_and, and_7, and_3, bin_eql, ifB_dec]
  refine ⟨fun e => ?_, fun e2 => ⟨fun e => ?_, fun e3 => ⟨fun e => ?_, fun e4 => ⟨fun e => ?_, fun e5 => ⟨fun e => ?_, fun e6 => ⟨fun e => ?_, fun e7 => ?_⟩⟩⟩⟩⟩⟩
  · rw [if_pos e] at k
    refine h.act 0 rfl (fun B2 own base2 => RSync_d (base2 r) hkl a.f) fun v e' τ w2 hp h => ?_
    obtain ⟨rfl, rfl, rfl⟩ := hp
    exact k _ _ [] _ ⟨rfl, kv, rfl, .inl ⟨rfl, keep_syncT _ _, rfl⟩⟩ (h.take 1)
  · rw [if_neg e2, if_pos e] at k
    refine h.act 0 rfl (fun B2 own base2 => RTruncate_d (base2 r) hkl a.f a.n) fun v e' τ w2 hp h => ?_
    obtain ⟨rfl, rfl, rfl⟩ := hp
    exact k _ _ [] _ ⟨rfl, kv, rfl, .inl ⟨rfl, keep_truncT _ _ _, rfl⟩⟩ (h.take 1)
  · rw [if_neg e2, if_neg e3, if_pos e] at k
    refine h.act 0 rfl (fun B2 own base2 => RLose_d (n := a.n % 4) (by omega)) fun v e' τ w2 hp h => ?_
    obtain ⟨rfl, rfl, rfl⟩ := hp
    exact hJ _ (k _ _ [] _ ⟨rfl, kv, rfl, .inl ⟨rfl, rfl, rfl⟩⟩ (h.take 1))
  · rw [if_neg e2, if_neg e3, if_neg e4, if_pos e] at k
    refine h.act 0 rfl (fun B2 own base2 => RArm_d (base2 ra) hal hn) fun v e' τ w2 hp h => ?_
    obtain ⟨rfl, kv', rfl, rfl⟩ := hp
    exact hJ _ (k _ _ _ _ ⟨rfl, kv', rfl, .inr ⟨rfl, rfl⟩⟩ (h.pick [0, 2] (by decide)))
  · rw [if_neg e2, if_neg e3, if_neg e4, if_neg e5, if_pos e] at k
    refine h.act 0 rfl (fun B2 own base2 => RCrash_d (base2 ra) (by omega)) fun v e' τ w2 hp h => ?_
    obtain ⟨rfl, rfl, rfl⟩ := hp
    exact hJ _ (k _ _ [] _ ⟨rfl, kv, rfl, .inl ⟨rfl, keep_crash _ _, rfl⟩⟩ (h.take 1))
  · rw [if_neg e2, if_neg e3, if_neg e4, if_neg e5, if_neg e6, if_pos e] at k
    refine h.act 0 rfl (fun B2 own base2 => RStart_d) fun v e' τ w2 hp h => ?_
    obtain ⟨rfl, rfl, rfl⟩ := hp
    exact hJ _ (k _ _ [] _ ⟨rfl, kv, rfl, .inl ⟨rfl, rfl, rfl⟩⟩ (h.take 1))
  · rw [if_neg e2, if_neg e3, if_neg e4, if_neg e5, if_neg e6, if_neg e7] at k
    refine h.act 0 rfl (fun B2 own base2 => RWrite_d (base2 r) hkl a.f a.n hs) fun v e' τ w2 hp h => ?_
    obtain ⟨rfl, rfl, rfl⟩ := hp
    exact k _ _ [] _ ⟨rfl, kv, rfl, .inl ⟨rfl, keep_writeT _ _ _ _, rfl⟩⟩ (h.take 1)
theorem tell_r {σ : List Dat} {K : Value → World → Prop} (h : Rel B w σ) (i : Nat) (hi : σ[i]? = some (refD q s kv)) (r : rowR kv s.keep B) (hkl : s.keep.length ≤ 60) {a : Act4} {keep : List Int} (ra : rowR a.keep.1 keep B) (hal : keep.length ≤ 60) (hs : a.s.size ≤ 1000000000) (hn : a.n ≤ 9223372036854775807)
    (k : ∀ B' kv' w', B.ext B' → rowR kv' (actT s a keep).1.keep B' → (actT s a keep).1.keep.length ≤ 60 → Rel B' w' (σ.set i (refD q (actT s a keep).1 kv')) → K (.int .i64 (actT s a keep).2) w') : upK Try.prog (sCall F_erratalaw04_tell #[ptr q, a.v]) w K := by
  refine h.act i hi (fun B2 own base2 => tell_d (base2 r) (by omega) (base2 ra) (by omega) hs hn) fun v e' τ w2 hp h => ?_
  obtain ⟨rfl, kv', rfl, hp⟩ := hp
  rcases hp with ⟨rfl, hk, rfl⟩ | ⟨hk, rfl⟩
  · rw [List.append_nil] at h
    exact k B kv' w2 (Base.ext.refl B) (by rw [hk]; exact r) (by rw [hk]; exact hkl) h
  · obtain ⟨B', h1, h2, h3⟩ := h.frz1
    exact k B' kv' w2 h1 (by rw [hk]; exact rowD.read h3) (by rw [hk]; exact hal) h2
end

set_option maxHeartbeats 1000000 in
theorem diskTells_pt {W : World} {v0 : Value} {l : List Act4} {f a size : Int} (r0 : rowR v0 l (lawB W)) (hm : l.length ≤ maxLen) (hq : ∀ x ∈ l, okInt W x.do_ ∧ okInt W x.f ∧ okInt W x.n ∧ okStr W x.s ∧ (∃ k : List Int, rowR x.keep.1 k (lawB W) ∧ k.length ≤ maxLen ∧ ∀ y ∈ k, okInt W y))
    {K : Value → World → Prop} (fin : ∀ w' σ, Rel (lawB W) w' σ → K (.bool true) w') : erratalaw04_DiskTells.pt v0 (.int .i64 f) (.int .i64 a) (.int .i64 size) W K := by
  obtain ⟨L, rfl, qd⟩ := acts_of l fun x hx => (hq x hx).2.2.2.2.imp fun _ h => h.1
  have r := r0
  clear r0
  have hr : inRange L := fun x hx => by
    have := (hq x.1 (List.mem_map_of_mem hx)).2.2.1
    exact ⟨this.2, this.1⟩
  clear hq
  have hal : (acts L).length = L.length := List.length_map ..
  rw [hal] at hm
  unfold maxLen at hm
  unfold erratalaw04_DiskTells.pt
  refine small_r (lawB.start W) fun w1 h => ?_
  refine h.ask (fun B2 own base2 => few_g (base2 r) (base2 qd) (by omega)) fun w2 h => ?_
  rw [un_not, ifB_not, ifB_bool]
  refine ⟨fun hf => ?_, fun _ => fin _ _ h⟩
  have hf := fewS_true.1 hf
  have hl := hf.len
  refine h.make (fun B2 own base2 => New_m) fun u τ w3 hp h => ?_
  obtain ⟨p, rfl, rfl⟩ := hp
  refine h.make (fun B2 own base2 => RNew_m) fun u τ w4 hp h => ?_
  obtain ⟨q, rfl, rfl⟩ := hp
  rw [nil_ne, ifB_false]
  have h : Rel (lawB W) w4 [diskD p newS (.slice none 0 0), refD q newS (.slice none 0 0)] := h
  refine LOOP_intro (fun x w' => ∃ (i p : Nat) (B : Base) (s : DS) (kd kr : Value), i ≤ L.length ∧ x = (ptr p, .int .i64 i, ()) ∧ (lawB W).ext B ∧ rowR kd s.keep B ∧ rowR kr s.keep B ∧ s.keep.length ≤ 60 ∧ Rel B w' [diskD p s kd, refD q s kr]) (fun x _ => L.length - (match x.2.1 with | .int _ n => n.toNat | _ => 0))
    ⟨0, p, lawB W, newS, _, _, Nat.zero_le _, rfl, Base.ext.refl _, nilrow _, nilrow _, Nat.zero_le _, h⟩ ?_
  clear h
  rintro x w5 ⟨i, p, B, s, kd, kr, hil, rfl, hext, hkd, hkr, hkl, h⟩ next hnext
  have r' : rowR v0 (acts L) B := Dat.mono _ hext.le r
  have qd' : keepsR L B := Dat.mono _ hext.le qd
  simp -zeta only [rowR.len r' sl_s_erratalaw04_Act, bin_lss, ifB_dec]
  rw [hal]
  refine ⟨fun hlt => ?_, fun hge => ?_⟩
  · have hi : i < L.length := by omega
    obtain ⟨g, o, hx, hc⟩ := rowR.idx r' sl_s_erratalaw04_Act (P := Try.prog) (i := i) (by omega)
    have e1 : (acts L)[i]'(by omega) = L[i].1 := by simp
    rw [e1] at hc
    obtain ⟨g0, o0, hx0, hc0⟩ := rowR.idx r' sl_s_erratalaw04_Act (P := Try.prog) (i := 0) (by omega)
    have hx0 : ∀ {Kp : Value → Prop}, pureK Try.prog (sIdxAddr T_s_erratalaw04_Act v0 (.int .i64 0)) Kp = Kp (.pointer (some ⟨g0, o0, none⟩)) := hx0
    have e2 : (acts L)[0]'(by omega) = (L[0]'(by omega)).1 := by simp
    rw [e2] at hc0
    have hfi := hf.each _ (List.getElem_mem hi)
    have hri := hr _ (List.getElem_mem hi)
    have hki := qd' L[i] (List.getElem_mem hi)
    have hf0 := hf.each _ (List.getElem_mem (show 0 < L.length by omega))
    have hr0 := hr _ (List.getElem_mem (show 0 < L.length by omega))
    have hk0 := qd' L[0] (List.getElem_mem (show 0 < L.length by omega))
    generalize L[i] = x at hc hfi hri hki
    obtain ⟨ac, kp⟩ := x
    have hc : cellsR g o ac.cs B := hc
    generalize L[0]'(by omega) = x at hc0 hf0 hr0 hk0
    obtain ⟨ac0, kp0⟩ := x
    have hc0 : cellsR g0 o0 ac0.cs B := hc0
    refine LETJ_intro fun J hJ => ?_
    replace hJ : ∀ (p' : Nat) (B' : Base) (s' : DS) (kd kr : Value) w', B.ext B' → rowR kd s'.keep B' → rowR kr s'.keep B' → s'.keep.length ≤ 60 → Rel B' w' [diskD p' s' kd, refD q s' kr] → J (ptr p', ()) w' := by
      intro p' B' s' kd kr w' h2 h3 h4 h5 h
      refine hJ _ _ ?_
      rw [bin_add, wrap_id (by omega) (by omega)]
      exact hnext _ _ ⟨i + 1, p', B', s', kd, kr, hi, rfl, hext.trans h2, h3, h4, h5, h⟩ (by simp only; omega)
    clear hnext
    have h := h.tick
    have hs1 : ac.s.size ≤ 300 := hfi.s
    have hs0 : ac0.s.size ≤ 300 := hf0.s
    simp -zeta only [hx, cellsR.ldAg (h.hereB hc) ag_erratalaw04_Act rfl]
    refine do_r h 0 rfl hkd hkl hki hfi.keep (by omega) hri.1 fun B1 kd1 w7 hext1 hkd1 hkl1 h => ?_
    have h : Rel B1 w7 [diskD p (actT s ac kp).1 kd1, refD q s kr] := h
    have hc1 : cellsR g o ac.cs B1 := Dat.mono _ hext1.le hc
    refine ⟨cellsR.isAg (h.hereB hc1) ag_erratalaw04_Act rfl, ?_⟩
    refine tell_r h 1 rfl (Dat.mono _ hext1.le hkr) hkl (Dat.mono _ hext1.le hki) hfi.keep (by omega) hri.1 fun B2 kr2 w8 hext2 hkr2 hkl2 h => ?_
    have h : Rel B2 w8 [diskD p (actT s ac kp).1 kd1, refD q (actT s ac kp).1 kr2] := h
    have hkd2 : rowR kd1 (actT s ac kp).1.keep B2 := Dat.mono _ hext2.le hkd1
    have hB2 := hext1.trans hext2
    rw [bin_neq, decide_eq_true rfl, Bool.not_true, ifB_false]
    generalize (actT s ac kp).1 = s2 at h hkd2 hkr2 hkl2
    refine h.ask (fun B2 own base2 => Down_g (own (i := 0) rfl)) fun w9 h => ?_
    refine h.ask (fun B2 own base2 => RDown_g (own (i := 1) rfl)) fun w10 h => ?_
    rw [bin_neq_bool U_bool, beq_self_eq_true, Bool.not_true, ifB_false]
    refine h.ask (fun B2 own base2 => Size_d (own (i := 0) rfl) f) fun w11 h => ?_
    refine h.ask (fun B2 own base2 => RSize_g (own (i := 1) rfl) f) fun w12 h => ?_
    rw [bin_neq, decide_eq_true rfl, Bool.not_true, ifB_false]
    have r2 : rowR v0 (acts L) B2 := Dat.mono _ hB2.le r'
    simp -zeta only [rowR.len r2 sl_s_erratalaw04_Act, bin_quo (show (2 : Int) ≠ 0 by decide), bin_eql, ifB_dec]
    refine ⟨fun _ => ?_, fun _ => hJ p B2 s2 kd1 kr2 _ hB2 hkd2 hkr2 hkl2 h⟩
    refine h.make (fun B2 own base2 => Copy_m (own (i := 0) rfl)) fun u τ w13 hp h => ?_
    obtain ⟨p', rfl, rfl⟩ := hp
    rw [nil_ne, ifB_false]
    have h : Rel B2 w13 [diskD p s2 kd1, refD q s2 kr2, diskD p' s2 kd1] := h
    have hc02 : cellsR g0 o0 ac0.cs B2 := Dat.mono _ hB2.le hc0
    simp -zeta only [hx0, cellsR.ldAg (h.hereB hc02) ag_erratalaw04_Act rfl]
    refine do_r h 0 rfl hkd2 hkl2 (Dat.mono _ hB2.le hk0) hf0.keep (by omega) hr0.1 fun B3 kd3 w14 hext3 hkd3 hkl3 h => ?_
    refine h.act 0 rfl (fun B2 own base2 => Sync_d (base2 hkd3) (by omega) f) fun v e' τ w15 hp h => ?_
    obtain ⟨rfl, rfl, rfl⟩ := hp
    have h := h.pick [2, 1] (by decide)
    exact hJ p' B3 s2 kd1 kr2 _ (hB2.trans hext3) (Dat.mono _ hext3.le hkd2) (Dat.mono _ hext3.le hkr2) hkl2 h
  · clear hnext
    refine h.ask (fun B2 own base2 => Read_g (own (i := 0) rfl) f a size) fun w6 h => ?_
    simp -zeta only [ext_2_0, ext_2_1]
    refine h.ask (fun B2 own base2 => RRead_g (own (i := 1) rfl) f a size) fun w7 h => ?_
    simp -zeta only [ext_2_0, ext_2_1]
    rw [ifB_true, eql_str, decide_eq_true rfl, ifB_true, bin_eql, decide_eq_true rfl]
    exact fin _ _ (hext.rel h)
end Go.Proofs.Ytoldlajahoodjaa
