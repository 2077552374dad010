/-
  The disk's calls: Write, Sync, Truncate, Copy, New; chapter 4's small, few, do. No condition.
-/
import Derived.Test.YtmkigdkhpdeaeaaDoorDiskC
namespace Go.Proofs.YtmkigdkhpdeaeaaDoor
open Go.RowKit

theorem keep_ends (s : DS) : (endsS s).keep = s.keep := by unfold endsS; split <;> rfl
theorem keep_add (s : DS) (f : Int) (a : Nat) (t : ByteArray) : (addS s f a t).keep = s.keep := by unfold addS; split <;> rfl
theorem keep_write (s : DS) (f a : Int) (t : ByteArray) : (writeW s f a t).keep = s.keep := by unfold writeW; split; exact keep_add _ _ _ _; rfl
theorem keep_crash (s : DS) (k : List Int) : (crashS s k).keep = s.keep := by unfold crashS; split <;> rfl
theorem keep_come (s : DS) : (comeS s).keep = s.keep := by unfold comeS; split; rw [keep_crash, keep_ends]; exact keep_ends s
theorem keep_writeT (s : DS) (f a : Int) (t : ByteArray) : (writeT s f a t).1.keep = s.keep := by
  unfold writeT
  split
  · show (crashS _ _).keep = _; rw [keep_crash, keep_write, keep_ends]
  · show (writeW _ _ _ _).keep = _; rw [keep_write, keep_ends]
theorem keep_syncT (s : DS) (f : Int) : (syncT s f).1.keep = s.keep := by
  unfold syncT
  split
  · exact keep_come s
  · split
    · exact keep_come s
    · exact keep_come s
theorem keep_truncT (s : DS) (f n : Int) : (truncT s f n).1.keep = s.keep := by
  unfold truncT
  split
  · exact keep_come s
  · split
    · exact keep_come s
    · split
      · exact keep_come s
      · exact keep_come s

section
variable {B : Base} {w : World} {p : Nat} {s : DS} {kv : Value}
theorem keepv (h : diskD p s kv B) {w : World} {σ : List Dat} (hr : Rel B w σ) {Kp : Value → Prop} : pureK Tryd.prog (sFieldAddr T_disk_Disk (ptr p) 6) (fun t => readK Tryd.prog (sLoad T_s_int t) w Kp) = Kp kv := by
  obtain ⟨m, lf, cf, m2, ls, cs, qv, hF, hc, hm, hq, hs⟩ := diskD.peek h
  rw [field_addr f_disk_Disk_6, Nat.zero_add, cellD.ld (hr.hereB hc) sc_s_int (o := 6) rfl]
theorem keepv_at {σ : List Dat} (hr : Rel B w σ) (i : Nat) (hi : σ[i]? = some (diskD p s kv)) {Kp : Value → Prop} (k : Kp kv) : pureK Tryd.prog (sNil (ptr p)) fun t0 => pureK Tryd.prog (sFieldAddr T_disk_Disk t0 6) fun t => readK Tryd.prog (sLoad T_s_int t) w Kp := by
  obtain ⟨m, lf, cf, m2, ls, cs, qv, hF, hc, hm, hq, hs⟩ := diskD.peek (hr.here hi)
  rw [nil_ptr, field_addr f_disk_Disk_6, Nat.zero_add, cellD.ld hc sc_s_int (o := 6) rfl]
  exact k

theorem Write_d (r : rowR kv s.keep B) (hkl : s.keep.length ≤ 1000000) (f at_ : Int) {t : ByteArray} (ht : t.size ≤ 9223372036854775807) : Does Tryd.prog B (diskD p s kv) (sCall F_disk_Disk_Write #[ptr p, .int .i64 f, .int .i64 at_, .string t])
    fun v e' τ => v = .int .i64 (writeT s f at_ t).2 ∧ e' = diskD p (writeT s f at_ t).1 kv ∧ τ = [] := by
  refine Does.intro fun B' w K base h k => ?_
  replace r := base r
  refine disk_Disk_Write.up (disk_Disk_Write.call ?_)
  unfold disk_Disk_Write.pt
  unfold writeT at k
  refine h.act 0 rfl (fun B2 own base2 => ends_d) fun v e' τ w1 hp h => ?_
  obtain ⟨rfl, rfl, rfl⟩ := hp
  refine h.act 0 rfl (fun B2 own base2 => write_d f at_ ht) fun v e' τ w2 hp h => ?_
  obtain ⟨rfl, rfl, rfl⟩ := hp
  have h : Rel B' w2 [diskD p (writeW (endsS s) f at_ t) kv] := h
  rw [ifB_bool]
  refine ⟨fun e => ?_, fun e => ?_⟩
  · rw [if_pos e] at k
    refine keepv_at h 0 rfl ?_
    have hk : (writeW (endsS s) f at_ t).keep = s.keep := by rw [keep_write, keep_ends]
    refine h.act 0 rfl (fun B2 own base2 => crash_d (keep := (writeW (endsS s) f at_ t).keep) (by rw [hk]; exact base2 r) (by rw [hk]; omega)) fun v e' τ w3 hp h => ?_
    obtain ⟨rfl, rfl, rfl⟩ := hp
    exact k _ _ [] _ ⟨rfl, rfl, rfl⟩ h
  · rw [if_neg (by rw [e]; decide)] at k
    exact k _ _ [] _ ⟨rfl, rfl, rfl⟩ h

theorem come_r {σ : List Dat} {K : World → Prop} (r : rowR kv s.keep B) (hkl : s.keep.length ≤ 1000000) (h : Rel B w [diskD p s kv]) (k : ∀ w', Rel B w' [diskD p (comeS s) kv] → K w') :
    upK Tryd.prog (sCall F_disk_Disk_ends #[ptr p]) w fun t7 w5 => ifB t7 (pureK Tryd.prog (sNil (ptr p)) fun t10 => pureK Tryd.prog (sFieldAddr T_disk_Disk t10 6) fun t11 => readK Tryd.prog (sLoad T_s_int t11) w5 fun t12 => upK Tryd.prog (sCall F_disk_Disk_Crash #[ptr p, t12]) w5 fun t13 w6 => K w6) (K w5) := by
  refine h.act 0 rfl (fun B2 own base2 => ends_d) fun v e' τ w1 hp h => ?_
  obtain ⟨rfl, rfl, rfl⟩ := hp
  unfold comeS at k
  rw [ifB_bool]
  refine ⟨fun e => ?_, fun e => ?_⟩
  · rw [if_pos e] at k
    refine keepv_at h 0 rfl ?_
    have hk : (endsS s).keep = s.keep := keep_ends s
    refine h.act 0 rfl (fun B2 own base2 => crash_d (keep := (endsS s).keep) (by rw [hk]; exact base2 r) (by rw [hk]; omega)) fun v e' τ w3 hp h => ?_
    obtain ⟨rfl, rfl, rfl⟩ := hp
    exact k _ h
  · rw [if_neg (by rw [e]; decide)] at k
    exact k _ h

theorem Sync_d (r : rowR kv s.keep B) (hkl : s.keep.length ≤ 1000000) (f : Int) : Does Tryd.prog B (diskD p s kv) (sCall F_disk_Disk_Sync #[ptr p, .int .i64 f]) fun v e' τ => v = .int .i64 (syncT s f).2 ∧ e' = diskD p (syncT s f).1 kv ∧ τ = [] := by
  refine Does.intro fun B' w K base h k => ?_
  replace r := base r
  refine disk_Disk_Sync.up (disk_Disk_Sync.call ?_)
  unfold disk_Disk_Sync.pt
  unfold syncT at k
  refine LETJ_intro fun J hJ => ?_
  replace hJ : ∀ w', Rel B' w' [diskD p (comeS s) kv] → J () w' := by
    intro w1 h
    refine hJ _ _ ?_
    clear hJ
    obtain ⟨m, lf, cf, m2, ls, cs, qv, hF, hk, h⟩ := diskD.open_ h
    refine h.ask (fun B2 own base2 => may_g (own (i := 0) rfl) f) fun w2 h => ?_
    simp -zeta only [bin_neq, ifB_not, ifB_dec]
    refine ⟨fun e0 => ?_, fun e0 => ?_⟩
    · rw [if_neg (by simpa using e0)] at k
      simp -zeta only [nil_ptr, field_addr f_disk_Disk_3, Nat.zero_add, h.ld 0 rfl sc_int (o := 3) rfl, bin_gtr, ifB_dec]
      refine ⟨fun e1 => ?_, fun e1 => ?_⟩
      · rw [if_pos e1] at k
        have hl := hF.ok.lost
        rw [bin_sub, wrap_id (by omega) (by omega)]
        refine h.st 0 rfl sc_int (show 3 < 7 by omega) rfl fun w3 h => ?_
        have hF' : DF { comeS s with lost := (comeS s).lost - 1 } lf cf ls cs := ⟨hF.wf, hF.files, hF.ws, hF.set_, ⟨hF.ok.now, hF.ok.last, hF.ok.q, hF.ok.nd, by show 0 ≤ (comeS s).lost - 1 ∧ (comeS s).lost - 1 ≤ _; omega, hF.ok.armed⟩⟩
        exact k _ _ [] _ ⟨rfl, rfl, rfl⟩ (diskD.close hF' hk h)
      · rw [if_neg e1] at k
        simp -zeta only [field_addr f_disk_Disk_0, Nat.add_zero, h.ld 0 rfl sc_map_int_disk_file (o := 0) rfl, file_look hF (h.here (i := 1) rfl), field_sc (cs := #[.string ((comeS s).fs f).now, .string ((comeS s).fs f).last]) (v := .string ((comeS s).fs f).now) g_disk_file_0 rfl]
        have hn := hF.ok.now f
        have h := diskD.close hF hk h
        refine h.act 0 rfl (fun B2 own base2 => settle_d f hn) fun v e' τ w3 hp h => ?_
        obtain ⟨rfl, rfl, rfl⟩ := hp
        exact k _ _ [] _ ⟨rfl, rfl, rfl⟩ h
    · rw [if_pos e0] at k
      exact k _ _ [] _ ⟨rfl, rfl, rfl⟩ (diskD.close hF hk h)
  exact come_r (σ := []) (K := fun w => J () w) r hkl h hJ

theorem New_m : Makes Tryd.prog B (sCall F_disk_New #[]) fun v τ => ∃ p, v = ptr p ∧ τ = [diskD p newS (.slice none 0 0)] := by
  refine Makes.intro fun B' w K base h k => ?_
  refine disk_New.up (disk_New.call ?_)
  unfold disk_New.pt
  refine h.mkMap Int FileV fun m w1 h => ?_
  refine h.mkMap Sec Bool fun m2 w2 h => ?_
  rw [bd_disk_Disk_0_2]
  refine h.box fun p w3 h => ?_
  have h := h.addNil Sec T_disk_sector
  have h := h.pick [2, 0, 3, 1] (by decide)
  have hF : DF newS [] 0 [] 0 := ⟨WfE.nil, fun _ => rfl, WfE.nil, fun q => by simp [getE, findE, newS], newS_ok⟩
  exact k _ _ _ ⟨p, rfl, rfl⟩ (diskD.close (m := m) (m2 := m2) (qv := .slice none 0 0) hF rfl h)

end

end Go.Proofs.YtmkigdkhpdeaeaaDoor
