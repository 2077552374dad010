/-
  The reference's calls of chapter 4, and DiskTells. No condition.
-/
import Derived.Test.YtmkigdkhpdeaeaaDoorDiskJ
namespace Go.Proofs.YtmkigdkhpdeaeaaDoor
open Go.RowKit

theorem addS_nil (s : DS) (f : Int) (a : Nat) : addS s f a ⟨#[]⟩ = s := by unfold addS; rw [if_pos rfl]
theorem comes_nil (s : DS) : comesS s 0 0 ⟨#[]⟩ = comeS s := by
  unfold comesS comeS
  rw [keep_ends, addS_nil, ite_self]
theorem crash_dn (s : DS) (k : List Int) : (crashS s k).down = true := by
  unfold crashS
  split
  · assumption
  · rfl
theorem writeE_eq (s : DS) (f a : Int) (t : ByteArray) : writeE s f a t = if mayS s f ≠ 0 then mayS s f else if a < 0 then 1 else if ¬ (0 ≤ a ∧ a + t.size ≤ 16777216) then 6 else 0 := by
  unfold writeE
  by_cases c0 : mayS s f ≠ 0
  · rw [if_pos c0, if_pos c0]
  rw [if_neg c0, if_neg c0]
  by_cases c1 : a < 0
  · rw [if_pos c1, if_pos c1]
  rw [if_neg c1, if_neg c1]
  by_cases c2 : 16777216 < a
  · rw [if_pos c2, if_pos (by omega)]
  rw [if_neg c2]
  by_cases c3 : 16777216 - a < t.size
  · rw [if_pos c3, if_pos (by omega)]
  · rw [if_neg c3, if_neg (by omega)]
theorem writeE_zero' {s : DS} (hd : s.down = false) {f a : Int} {t : ByteArray} : writeE s f a t = 0 ↔ (0 ≤ f ∧ f < 16) ∧ 0 ≤ a ∧ a + t.size ≤ 16777216 := by
  have hm := mayS_zero (s := s) (f := f)
  rw [writeE_eq]
  constructor
  · intro h
    by_cases c0 : mayS s f ≠ 0
    · rw [if_pos c0] at h; exact absurd h c0
    rw [if_neg c0] at h
    by_cases c1 : a < 0
    · rw [if_pos c1] at h; omega
    rw [if_neg c1] at h
    by_cases c2 : 0 ≤ a ∧ a + t.size ≤ 16777216
    · exact ⟨(hm.1 (by simpa using c0)).2, c2⟩
    · rw [if_pos c2] at h; omega
  · rintro ⟨h1, h2, h3⟩
    rw [if_neg (by rw [hm.2 ⟨hd, h1⟩]; decide), if_neg (by omega), if_neg (by omega)]
theorem ends_dn (s : DS) : (endsS s).down = s.down := by unfold endsS; split <;> rfl
theorem endsB_up {s : DS} (h : endsB s = true) : s.down = false := by
  unfold endsB at h
  cases hd : s.down
  · rfl
  · rw [hd] at h; cases h
theorem comes_write (s : DS) (f a : Int) (t : ByteArray) :
    (if mayS (comesS s f a t) f ≠ 0 then (comesS s f a t, mayS (comesS s f a t) f) else if a < 0 then (comesS s f a t, 1) else if ¬ (0 ≤ a ∧ a + (t.size : Int) ≤ 16777216) then (comesS s f a t, 6) else (addS (comesS s f a t) f a.toNat t, 0)) = writeT s f a t := by
  by_cases e : endsB s = true
  · have hd : (endsS s).down = false := by rw [ends_dn]; exact endsB_up e
    have hc : comesS s f a t = crashS (writeW (endsS s) f a t) (writeW (endsS s) f a t).keep := by
      unfold comesS
      rw [if_pos e, keep_write, keep_ends]
      congr 1
      unfold writeW
      by_cases z : writeE (endsS s) f a t = 0
      · rw [if_pos z, if_pos ((writeE_zero' hd).1 z)]
      · rw [if_neg z, if_neg fun hh => z ((writeE_zero' hd).2 hh)]
    have hm : mayS (comesS s f a t) f = 9 := by unfold mayS; rw [hc, if_pos (crash_dn _ _)]
    rw [hm, if_pos (by decide), hc]
    unfold writeT
    rw [if_pos e]
  · have hc : comesS s f a t = endsS s := by unfold comesS; rw [if_neg e]
    rw [hc]
    unfold writeT
    rw [if_neg e]
    unfold writeW
    rw [writeE_eq]
    generalize endsS s = d
    by_cases c0 : mayS d f ≠ 0
    · rw [if_pos c0, if_pos c0, if_neg c0]
    rw [if_neg c0, if_neg c0]
    by_cases c1 : a < 0
    · rw [if_pos c1, if_pos c1, if_neg (by decide)]
    rw [if_neg c1, if_neg c1]
    by_cases c2 : ¬ (0 ≤ a ∧ a + (t.size : Int) ≤ 16777216)
    · rw [if_pos c2, if_pos c2, if_neg (by decide)]
    · rw [if_neg c2, if_neg c2, if_pos rfl]

section
variable {B : Base} {w : World} {q : Nat} {s : DS} {kv : Value}
theorem RWrite_d (r : rowR kv s.keep B) (hkl : s.keep.length ≤ 1000000) (f a : Int) {t : ByteArray} (ht : t.size ≤ 1000000000) : Does Tryd.prog B (refD q s kv) (sCall F_errataref04_Disk_Write #[ptr q, .int .i64 f, .int .i64 a, .string t])
    fun v e' τ => v = .int .i64 (writeT s f a t).2 ∧ e' = refD q (writeT s f a t).1 kv ∧ τ = [] := by
  refine Does.intro fun B' w K base h k => ?_
  replace r := base r
  refine errataref04_Disk_Write.up (errataref04_Disk_Write.call ?_)
  unfold errataref04_Disk_Write.pt
  rw [← comes_write] at k
  refine h.act 0 rfl (fun B2 own base2 => Rcomes_d (base2 r) hkl f a t ht) fun v e' τ w1 hp h => ?_
  obtain ⟨rfl, rfl, rfl⟩ := hp
  have h : Rel B' w1 [refD q (comesS s f a t) kv] := h
  generalize comesS s f a t = c at h k
  obtain ⟨fv, Fl, qv, hF, hk, h⟩ := refD.open_ h
  refine h.ask (fun B2 own base2 => Rmay_g (own (i := 0) rfl) f) fun w2 h => ?_
  have h := refD.close hF hk h
  simp -zeta only [bin_neq, ifB_not, ifB_dec]
  refine ⟨fun e0 => ?_, fun e0 => by rw [if_pos e0] at k; exact k _ _ [] _ ⟨rfl, rfl, rfl⟩ h⟩
  rw [if_neg (by simpa using e0)] at k
  simp -zeta only [bin_lss, ifB_dec]
  refine ⟨fun e1 => by rw [if_pos e1] at k; exact k _ _ [] _ ⟨rfl, rfl, rfl⟩ h, fun e1 => ?_⟩
  rw [if_neg e1] at k
  refine h.ask (fun B2 own base2 => Rfits_g a t ht) fun w3 hz => ?_
  rw [un_not, ifB_not, ifB_dec]
  refine ⟨fun e2 => ?_, fun e2 => by rw [if_pos e2] at k; exact k _ _ [] _ ⟨rfl, rfl, rfl⟩ hz⟩
  rw [if_neg (by simpa using e2)] at k
  obtain ⟨n, rfl⟩ : ∃ n : Nat, a = n := ⟨a.toNat, by omega⟩
  have hf := (mayS_zero.1 e0).2
  refine hz.act 0 rfl (fun B2 own base2 => Radd_d hf (a := n) (t := t) (by omega)) fun v e' τ w4 hp h => ?_
  obtain ⟨rfl, rfl, rfl⟩ := hp
  rw [Int.toNat_natCast] at k
  exact k _ _ [] _ ⟨rfl, rfl, rfl⟩ h

theorem RSync_d (r : rowR kv s.keep B) (hkl : s.keep.length ≤ 1000000) (f : Int) : Does Tryd.prog B (refD q s kv) (sCall F_errataref04_Disk_Sync #[ptr q, .int .i64 f]) fun v e' τ => v = .int .i64 (syncT s f).2 ∧ e' = refD q (syncT s f).1 kv ∧ τ = [] := by
  refine Does.intro fun B' w K base h k => ?_
  replace r := base r
  refine errataref04_Disk_Sync.up (errataref04_Disk_Sync.call ?_)
  unfold errataref04_Disk_Sync.pt
  unfold syncT at k
  refine h.act 0 rfl (fun B2 own base2 => Rcomes_d (base2 r) hkl 0 0 ⟨#[]⟩ (by decide)) fun v e' τ w1 hp h => ?_
  obtain ⟨rfl, rfl, rfl⟩ := hp
  rw [comes_nil] at h
  have h : Rel B' w1 [refD q (comeS s) kv] := h
  generalize comeS s = c at h k
  obtain ⟨fv, Fl, qv, hF, hk, h⟩ := refD.open_ h
  refine h.ask (fun B2 own base2 => Rmay_g (own (i := 0) rfl) f) fun w2 h => ?_
  simp -zeta only [bin_neq, ifB_not, ifB_dec]
  refine ⟨fun e0 => ?_, fun e0 => by rw [if_pos e0] at k; exact k _ _ [] _ ⟨rfl, rfl, rfl⟩ (refD.close hF hk h)⟩
  rw [if_neg (by simpa using e0)] at k
  simp -zeta only [nil_ptr, field_addr f_errataref04_Disk_2, Nat.zero_add, h.ld 0 rfl sc_int (o := 2) rfl, bin_gtr, ifB_dec]
  refine ⟨fun e1 => ?_, fun e1 => ?_⟩
  · rw [if_pos e1] at k
    have hl := hF.ok.lost
    rw [bin_sub, wrap_id (by omega) (by omega)]
    refine h.st 0 rfl sc_int (show 2 < 6 by omega) rfl fun w3 h => ?_
    have hF' : RX { c with lost := c.lost - 1 } Fl := ⟨hF.files, hF.nums, hF.rng, ⟨hF.ok.now, hF.ok.last, hF.ok.q, hF.ok.nd, by show 0 ≤ c.lost - 1 ∧ c.lost - 1 ≤ _; omega, hF.ok.armed⟩⟩
    exact k _ _ [] _ ⟨rfl, rfl, rfl⟩ (refD.close hF' hk h)
  · rw [if_neg e1] at k
    refine h.ask (fun B2 own base2 => Rget_g hF (own (i := 0) rfl) (own (i := 1) rfl) f) fun w3 h => ?_
    rw [field_sc (cs := #[.int .i64 f, .string (c.fs f).now, .string (c.fs f).last]) (v := .string (c.fs f).now) g_errataref04_File_1 rfl]
    have hn := hF.ok.now f
    have h := refD.close hF hk h
    refine h.act 0 rfl (fun B2 own base2 => Rsettle_d (mayS_zero.1 e0).2 hn) fun v e' τ w4 hp h => ?_
    obtain ⟨rfl, rfl, rfl⟩ := hp
    exact k _ _ [] _ ⟨rfl, rfl, rfl⟩ h

theorem RLose_d {n : Int} (hn : n ≤ 9223372036854775807) : Does Tryd.prog B (refD q s kv) (sCall F_errataref04_Disk_Lose #[ptr q, .int .i64 n]) fun v e' τ => v = .tuple #[] ∧ e' = refD q { s with lost := max n 0 } kv ∧ τ = [] := by
  refine Does.intro fun B' w K base h k => ?_
  obtain ⟨fv, Fl, qv, hF, hk, h⟩ := refD.open_ h
  refine errataref04_Disk_Lose.up (errataref04_Disk_Lose.call ?_)
  unfold errataref04_Disk_Lose.pt
  simp -zeta only [nil_ptr, field_addr f_errataref04_Disk_2, Nat.zero_add, blt_max]
  refine h.st 0 rfl sc_int (show 2 < 6 by omega) rfl fun w1 h => ?_
  have hF' : RX { s with lost := max n 0 } Fl := ⟨hF.files, hF.nums, hF.rng, ⟨hF.ok.now, hF.ok.last, hF.ok.q, hF.ok.nd, by show 0 ≤ max n 0 ∧ max n 0 ≤ _; omega, hF.ok.armed⟩⟩
  exact k _ _ [] _ ⟨rfl, rfl, rfl⟩ (refD.close hF' hk h)
theorem RStart_d : Does Tryd.prog B (refD q s kv) (sCall F_errataref04_Disk_Start #[ptr q]) fun v e' τ => v = .tuple #[] ∧ e' = refD q { s with down := false } kv ∧ τ = [] := by
  refine Does.intro fun B' w K base h k => ?_
  obtain ⟨fv, Fl, qv, hF, hk, h⟩ := refD.open_ h
  refine errataref04_Disk_Start.up (errataref04_Disk_Start.call ?_)
  unfold errataref04_Disk_Start.pt
  simp -zeta only [nil_ptr, field_addr f_errataref04_Disk_3, Nat.zero_add]
  refine h.st 0 rfl sc_bool (show 3 < 6 by omega) rfl fun w1 h => ?_
  have hF' : RX { s with down := false } Fl := ⟨hF.files, hF.nums, hF.rng, ⟨hF.ok.now, hF.ok.last, hF.ok.q, hF.ok.nd, hF.ok.lost, hF.ok.armed⟩⟩
  exact k _ _ [] _ ⟨rfl, rfl, rfl⟩ (refD.close hF' hk h)
theorem RArm_d {n : Int} {v : Value} {keep : List Int} (r : rowR v keep B) (hl : keep.length ≤ 1000000) (hn : n ≤ 9223372036854775807) : Does Tryd.prog B (refD q s kv) (sCall F_errataref04_Disk_Arm #[ptr q, .int .i64 n, v])
    fun u e' τ => u = .tuple #[] ∧ ∃ kv', e' = refD q { s with armed := max n 0, keep := keep } kv' ∧ τ = [rowD T_int kv' keep] := by
  refine Does.intro fun B' w K base h k => ?_
  replace r := base r
  obtain ⟨fv, Fl, qv, hF, hk, h⟩ := refD.open_ h
  refine errataref04_Disk_Arm.up (errataref04_Disk_Arm.call ?_)
  unfold errataref04_Disk_Arm.pt
  simp -zeta only [nil_ptr, field_addr f_errataref04_Disk_4, field_addr f_errataref04_Disk_5, Nat.zero_add, blt_max]
  refine h.st 0 rfl sc_int (show 4 < 6 by omega) rfl fun w1 h => ?_
  refine h.build0 (α := Int) sl_s_int fun v1 w2 h hne => ?_
  refine h.append 3 rfl sl_s_int (Rd.base r) (by simp only [List.length_nil]; omega) (by simp only [List.length_nil]; omega) fun kv' w3 h => ?_
  have h1 : kv'.oneCell' = true := h.oneCell (i := 3) rfl
  refine h.st 0 rfl sc_s_int (show 5 < 6 by omega) h1 fun w4 h => ?_
  have hF' : RX { s with armed := max n 0, keep := keep } Fl := ⟨hF.files, hF.nums, hF.rng, ⟨hF.ok.now, hF.ok.last, hF.ok.q, hF.ok.nd, hF.ok.lost, by show 0 ≤ max n 0 ∧ max n 0 ≤ _; omega⟩⟩
  have h := h.pick [3, 0, 1, 2] (by decide)
  have h : Rel B' w4 ([rowD T_int kv' keep] ++ rparts q { s with armed := max n 0, keep := keep } kv' ((fv, Fl), qv)) := h
  have h := h.restars
  have h := h.imp (i := 1) (e := refD q { s with armed := max n 0, keep := keep } kv') rfl fun B hB => ⟨_, ⟨hF', h1⟩, hB⟩
  have h := h.pick [1, 0] (by decide)
  exact k _ _ _ _ ⟨rfl, kv', rfl, rfl⟩ h

theorem RNew_m : Makes Tryd.prog B (sCall F_errataref04_New #[]) fun v τ => ∃ q, v = ptr q ∧ τ = [refD q newS (.slice none 0 0)] := by
  refine Makes.intro fun B' w K base h k => ?_
  refine errataref04_New.up (errataref04_New.call ?_)
  unfold errataref04_New.pt
  rw [bd_errataref04_Disk_]
  refine h.box fun q w1 h => ?_
  have h := (h.addNil RFile T_errataref04_File).addNil RSec T_errataref04_Sector
  have hF : RX newS [] := ⟨fun _ => rfl, List.nodup_nil, fun x hx => (by cases hx), newS_ok⟩
  exact k _ _ _ ⟨q, rfl, rfl⟩ (refD.close (fv := .slice none 0 0) (qv := .slice none 0 0) hF rfl h)

end

end Go.Proofs.YtmkigdkhpdeaeaaDoor
