/-
  The disk's calls: Write, Sync, Truncate, Copy, New; chapter 4's small, few, do. No condition.
-/
import Derived.Test.YtoldlajahoodjaaDiskC
namespace Go.Proofs.Ytoldlajahoodjaa
open Go.RowKit
abbrev Act4 := D_erratalaw04_Act

theorem keep_ends (s : DS) : (endsS s).keep = s.keep := by unfold endsS; split <;> rfl
theorem keep_add (s : DS) (f : Int) (a : Nat) (t : ByteArray) : (addS s f a t).keep = s.keep := by unfold addS; split <;> rfl
theorem keep_write (s : DS) (f a : Int) (t : ByteArray) : (writeW s f a t).keep = s.keep := by unfold writeW; split; exact keep_add _ _ _ _; rfl
theorem keep_crash (s : DS) (k : List Int) : (crashS s k).keep = s.keep := by unfold crashS; split <;> rfl
theorem keep_come (s : DS) : (comeS s).keep = s.keep := by unfold comeS; split; rw [keep_crash, keep_ends]; exact keep_ends s
theorem keep_writeT (s : DS) (f a : Int) (t : ByteArray) : (writeT s f a t).1.keep = s.keep := by
  unfold writeT
  split
  · show (crashS _ _).keep = _; rw [keep_crash, keep_write, keep_ends]
  · show (writeW _ _ _ _).keep = _; rw [keep_write, keep_ends]
theorem keep_syncT (s : DS) (f : Int) : (syncT s f).1.keep = s.keep := by
  unfold syncT
  split
  · exact keep_come s
  · split
    · exact keep_come s
    · exact keep_come s
theorem keep_truncT (s : DS) (f n : Int) : (truncT s f n).1.keep = s.keep := by
  unfold truncT
  split
  · exact keep_come s
  · split
    · exact keep_come s
    · split
      · exact keep_come s
      · exact keep_come s

section
variable {B : Base} {w : World} {p : Nat} {s : DS} {kv : Value}
theorem keepv (h : diskD p s kv B) {w : World} {σ : List Dat} (hr : Rel B w σ) {Kp : Value → Prop} : pureK Try.prog (sFieldAddr T_disk_Disk (ptr p) 6) (fun t => readK Try.prog (sLoad T_s_int t) w Kp) = Kp kv := by
  obtain ⟨m, lf, cf, m2, ls, cs, qv, hF, hc, hm, hq, hs⟩ := diskD.peek h
  rw [field_addr f_disk_Disk_6, Nat.zero_add, cellD.ld (hr.hereB hc) sc_s_int (o := 6) rfl]
theorem keepv_at {σ : List Dat} (hr : Rel B w σ) (i : Nat) (hi : σ[i]? = some (diskD p s kv)) {Kp : Value → Prop} (k : Kp kv) : pureK Try.prog (sNil (ptr p)) fun t0 => pureK Try.prog (sFieldAddr T_disk_Disk t0 6) fun t => readK Try.prog (sLoad T_s_int t) w Kp := by
  obtain ⟨m, lf, cf, m2, ls, cs, qv, hF, hc, hm, hq, hs⟩ := diskD.peek (hr.here hi)
  rw [nil_ptr, field_addr f_disk_Disk_6, Nat.zero_add, cellD.ld hc sc_s_int (o := 6) rfl]
  exact k

theorem Write_d (r : rowR kv s.keep B) (hkl : s.keep.length ≤ 1000000) (f at_ : Int) {t : ByteArray} (ht : t.size ≤ 9223372036854775807) : Does Try.prog B (diskD p s kv) (sCall F_disk_Disk_Write #[ptr p, .int .i64 f, .int .i64 at_, .string t])
    fun v e' τ => v = .int .i64 (writeT s f at_ t).2 ∧ e' = diskD p (writeT s f at_ t).1 kv ∧ τ = [] := by
  refine Does.intro fun B' w K base h k => ?_
  replace r := base r
  refine disk_Disk_Write.up (disk_Disk_Write.call ?_)
  unfold disk_Disk_Write.pt
  unfold writeT at k
  refine h.act 0 rfl (fun B2 own base2 => ends_d) fun v e' τ w1 hp h => ?_
  obtain ⟨rfl, rfl, rfl⟩ := hp
  refine h.act 0 rfl (fun B2 own base2 => write_d f at_ ht) fun v e' τ w2 hp h => ?_
  obtain ⟨rfl, rfl, rfl⟩ := hp
  have h : Rel B' w2 [diskD p (writeW (endsS s) f at_ t) kv] := h
  rw [ifB_bool]
  refine ⟨fun e => ?_, fun e => ?_⟩
  · rw [if_pos e] at k
    refine keepv_at h 0 rfl ?_
    have hk : (writeW (endsS s) f at_ t).keep = s.keep := by rw [keep_write, keep_ends]
    refine h.act 0 rfl (fun B2 own base2 => crash_d (keep := (writeW (endsS s) f at_ t).keep) (by rw [hk]; exact base2 r) (by rw [hk]; omega)) fun v e' τ w3 hp h => ?_
    obtain ⟨rfl, rfl, rfl⟩ := hp
    exact k _ _ [] _ ⟨rfl, rfl, rfl⟩ h
  · rw [if_neg (by rw [e]; decide)] at k
    exact k _ _ [] _ ⟨rfl, rfl, rfl⟩ h

theorem come_r {σ : List Dat} {K : World → Prop} (r : rowR kv s.keep B) (hkl : s.keep.length ≤ 1000000) (h : Rel B w [diskD p s kv]) (k : ∀ w', Rel B w' [diskD p (comeS s) kv] → K w') :
    upK Try.prog (sCall F_disk_Disk_ends #[ptr p]) w fun t7 w5 => ifB t7 (pureK Try.prog (sNil (ptr p)) fun t10 => pureK Try.prog (sFieldAddr T_disk_Disk t10 6) fun t11 => readK Try.prog (sLoad T_s_int t11) w5 fun t12 => upK Try.prog (sCall F_disk_Disk_Crash #[ptr p, t12]) w5 fun t13 w6 => K w6) (K w5) := by
  refine h.act 0 rfl (fun B2 own base2 => ends_d) fun v e' τ w1 hp h => ?_
  obtain ⟨rfl, rfl, rfl⟩ := hp
  unfold comeS at k
  rw [ifB_bool]
  refine ⟨fun e => ?_, fun e => ?_⟩
  · rw [if_pos e] at k
    refine keepv_at h 0 rfl ?_
    have hk : (endsS s).keep = s.keep := keep_ends s
    refine h.act 0 rfl (fun B2 own base2 => crash_d (keep := (endsS s).keep) (by rw [hk]; exact base2 r) (by rw [hk]; omega)) fun v e' τ w3 hp h => ?_
    obtain ⟨rfl, rfl, rfl⟩ := hp
    exact k _ h
  · rw [if_neg (by rw [e]; decide)] at k
    exact k _ h

theorem Sync_d (r : rowR kv s.keep B) (hkl : s.keep.length ≤ 1000000) (f : Int) : Does Try.prog B (diskD p s kv) (sCall F_disk_Disk_Sync #[ptr p, .int .i64 f]) fun v e' τ => v = .int .i64 (syncT s f).2 ∧ e' = diskD p (syncT s f).1 kv ∧ τ = [] := by
  refine Does.intro fun B' w K base h k => ?_
  replace r := base r
  refine disk_Disk_Sync.up (disk_Disk_Sync.call ?_)
  unfold disk_Disk_Sync.pt
  unfold syncT at k
  refine LETJ_intro fun J hJ => ?_
  replace hJ : ∀ w', Rel B' w' [diskD p (comeS s) kv] → J () w' := by
    intro w1 h
    refine hJ _ _ ?_
    clear hJ
    obtain ⟨m, lf, cf, m2, ls, cs, qv, hF, hk, h⟩ := diskD.open_ h
    refine h.ask (fun B2 own base2 => may_g (own (i := 0) rfl) f) fun w2 h => ?_
    simp -zeta only [bin_neq, ifB_not, ifB_dec]
    refine ⟨fun e0 => ?_, fun e0 => ?_⟩
    · rw [if_neg (by simpa using e0)] at k
      simp -zeta only [nil_ptr, field_addr f_disk_Disk_3, Nat.zero_add, h.ld 0 rfl sc_int (o := 3) rfl, bin_gtr, ifB_dec]
      refine ⟨fun e1 => ?_, fun e1 => ?_⟩
      · rw [if_pos e1] at k
        have hl := hF.ok.lost
        rw [bin_sub, wrap_id (by omega) (by omega)]
        refine h.st 0 rfl sc_int (show 3 < 7 by omega) rfl fun w3 h => ?_
        have hF' : DF { comeS s with lost := (comeS s).lost - 1 } lf cf ls cs := ⟨hF.wf, hF.files, hF.ws, hF.set_, ⟨hF.ok.now, hF.ok.last, hF.ok.q, hF.ok.nd, by show 0 ≤ (comeS s).lost - 1 ∧ (comeS s).lost - 1 ≤ _; omega, hF.ok.armed⟩⟩
        exact k _ _ [] _ ⟨rfl, rfl, rfl⟩ (diskD.close hF' hk h)
      · rw [if_neg e1] at k
        simp -zeta only [field_addr f_disk_Disk_0, Nat.add_zero, h.ld 0 rfl sc_map_int_disk_file (o := 0) rfl, file_look hF (h.here (i := 1) rfl), field_sc (cs := #[.string ((comeS s).fs f).now, .string ((comeS s).fs f).last]) (v := .string ((comeS s).fs f).now) g_disk_file_0 rfl]
        have hn := hF.ok.now f
        have h := diskD.close hF hk h
        refine h.act 0 rfl (fun B2 own base2 => settle_d f hn) fun v e' τ w3 hp h => ?_
        obtain ⟨rfl, rfl, rfl⟩ := hp
        exact k _ _ [] _ ⟨rfl, rfl, rfl⟩ h
    · rw [if_pos e0] at k
      exact k _ _ [] _ ⟨rfl, rfl, rfl⟩ (diskD.close hF hk h)
  exact come_r (σ := []) (K := fun w => J () w) r hkl h hJ

theorem Truncate_d (r : rowR kv s.keep B) (hkl : s.keep.length ≤ 1000000) (f size : Int) : Does Try.prog B (diskD p s kv) (sCall F_disk_Disk_Truncate #[ptr p, .int .i64 f, .int .i64 size]) fun v e' τ => v = .int .i64 (truncT s f size).2 ∧ e' = diskD p (truncT s f size).1 kv ∧ τ = [] := by
  refine Does.intro fun B' w K base h k => ?_
  replace r := base r
  refine disk_Disk_Truncate.up (disk_Disk_Truncate.call ?_)
  unfold disk_Disk_Truncate.pt
  unfold truncT at k
  refine LETJ_intro fun J hJ => ?_
  replace hJ : ∀ w', Rel B' w' [diskD p (comeS s) kv] → J () w' := by
    intro w1 h
    refine hJ _ _ ?_
    clear hJ
    obtain ⟨m, lf, cf, m2, ls, cs, qv, hF, hk, h⟩ := diskD.open_ h
    refine h.ask (fun B2 own base2 => may_g (own (i := 0) rfl) f) fun w2 h => ?_
    simp -zeta only [bin_neq, ifB_not, ifB_dec]
    refine ⟨fun e0 => ?_, fun e0 => ?_⟩
    · rw [if_neg (by simpa using e0)] at k
      simp -zeta only [bin_lss, ifB_dec]
      refine ⟨fun e1 => ?_, fun e1 => ?_⟩
      · rw [if_pos e1] at k
        exact k _ _ [] _ ⟨rfl, rfl, rfl⟩ (diskD.close hF hk h)
      · rw [if_neg e1] at k
        refine h.ask (fun B2 own base2 => Size_g hF (own (i := 0) rfl) (own (i := 1) rfl) f) fun w3 h => ?_
        simp -zeta only [bin_gtr, ifB_dec]
        refine ⟨fun e2 => ?_, fun e2 => ?_⟩
        · rw [if_pos e2] at k
          exact k _ _ [] _ ⟨rfl, rfl, rfl⟩ (diskD.close hF hk h)
        · rw [if_neg e2] at k
          obtain ⟨n, rfl⟩ : ∃ n : Nat, size = n := ⟨size.toNat, by omega⟩
          simp -zeta only [nil_ptr, field_addr f_disk_Disk_0, Nat.add_zero, h.ld 0 rfl sc_map_int_disk_file (o := 0) rfl, file_look hF (h.here (i := 1) rfl), field_sc (cs := #[.string ((comeS s).fs f).now, .string ((comeS s).fs f).last]) (v := .string ((comeS s).fs f).now) g_disk_file_0 rfl]
          rw [str_cut U_string (lo := 0) (hi := n) Bnd.none Bnd.some (Nat.zero_le _) (by omega), List.drop_zero]
          have hn := hF.ok.now f
          have hb := bl_length ((comeS s).fs f).now
          have h := diskD.close hF hk h
          refine h.act 0 rfl (fun B2 own base2 => settle_d f (x := ofL ((bl ((comeS s).fs f).now).take n)) (by rw [ofL_size, List.length_take]; omega)) fun v e' τ w3 hp h => ?_
          obtain ⟨rfl, rfl, rfl⟩ := hp
          exact k _ _ [] _ ⟨rfl, rfl, rfl⟩ h
    · rw [if_pos e0] at k
      exact k _ _ [] _ ⟨rfl, rfl, rfl⟩ (diskD.close hF hk h)
  exact come_r (σ := []) (K := fun w => J () w) r hkl h hJ

theorem New_m : Makes Try.prog B (sCall F_disk_New #[]) fun v τ => ∃ p, v = ptr p ∧ τ = [diskD p newS (.slice none 0 0)] := by
  refine Makes.intro fun B' w K base h k => ?_
  refine disk_New.up (disk_New.call ?_)
  unfold disk_New.pt
  refine h.mkMap Int FileV fun m w1 h => ?_
  refine h.mkMap Sec Bool fun m2 w2 h => ?_
  rw [bd_disk_Disk_0_2]
  refine h.box fun p w3 h => ?_
  have h := h.addNil Sec T_disk_sector
  have h := h.pick [2, 0, 3, 1] (by decide)
  have hF : DF newS [] 0 [] 0 := ⟨WfE.nil, fun _ => rfl, WfE.nil, fun q => by simp [getE, findE, newS], newS_ok⟩
  exact k _ _ _ ⟨p, rfl, rfl⟩ (diskD.close (m := m) (m2 := m2) (qv := .slice none 0 0) hF rfl h)

theorem Copy_m (hd : diskD p s kv B) : Makes Try.prog B (sCall F_disk_Disk_Copy #[ptr p]) fun v τ => ∃ p', v = ptr p' ∧ τ = [diskD p' s kv] := by
  refine Makes.intro fun B' w K base h k => ?_
  have hk := (diskD.ok hd).2
  obtain ⟨m, lf, cf, m2, ls, cs, qv, hF, hc, hm, hq, hs⟩ := diskD.peek (base hd)
  have hqr := rowD.read hq
  have hqv := rowR.oneCell hqr
  have hql := hF.ok.qlen
  refine disk_Disk_Copy.up (disk_Disk_Copy.call ?_)
  unfold disk_Disk_Copy.pt
  simp -zeta only [nil_ptr, cellD.ldAg (h.hereB hc) ag_disk_Disk rfl]
  refine h.allocAg (ds := dcs m qv m2 s kv) z_disk_Disk rfl ag_disk_Disk rfl (fun v hv => by
    simp only [List.mem_cons, List.not_mem_nil, or_false] at hv
    rcases hv with rfl | rfl | rfl | rfl | rfl | rfl | rfl <;> first | rfl | assumption) fun p' w1 h => ?_
  have h := h.tick
  simp -zeta only [field_addr f_disk_Disk_0, field_addr f_disk_Disk_1, field_addr f_disk_Disk_2, Nat.add_zero, Nat.zero_add, cellD.ld (h.hereB hc) sc_map_int_disk_file (o := 0) rfl, cellD.ld (h.hereB hc) sc_s_disk_sector (o := 1) rfl, cellD.ld (h.hereB hc) sc_map_disk_sector_bool (o := 2) rfl]
  refine h.make (fun B2 own base2 => cloneF_m (base2 hm)) fun v τ w2 hp h => ?_
  obtain ⟨m', rfl, rfl⟩ := hp
  refine ⟨cellD.is (h.hereB hc) sc_map_disk_sector_bool (o := 2) rfl, cellD.is (h.hereB hc) sc_s_disk_sector (o := 1) rfl, ?_⟩
  refine h.make (fun B2 own base2 => gslices_Clone_s_disk_sector_disk_sector (base2 hqr) (by omega) (by omega)) fun qv' τ w3 hp h => ?_
  subst hp
  refine ⟨cellD.is (h.hereB hc) sc_map_disk_sector_bool (o := 2) rfl, ?_⟩
  refine h.make (fun B2 own base2 => cloneS_m (base2 hs)) fun v τ w4 hp h => ?_
  obtain ⟨m2', rfl, rfl⟩ := hp
  have h1 : qv'.oneCell' = true := h.oneCell (i := 2) rfl
  refine h.st 0 rfl sc_map_int_disk_file (show 0 < 7 by omega) rfl fun w5 h => ?_
  refine h.st 0 rfl sc_s_disk_sector (show 1 < 7 by omega) h1 fun w6 h => ?_
  refine h.st 0 rfl sc_map_disk_sector_bool (show 2 < 7 by omega) rfl fun w7 h => ?_
  exact k _ _ _ ⟨p', rfl, rfl⟩ (diskD.close hF hk h)
end

/-! ### Acts -/
def actT (s : DS) (a : Act4) (keep : List Int) : DS × Int :=
  if a.do_ % 8 = 2 then syncT s a.f else if a.do_ % 8 = 3 then truncT s a.f a.n else if a.do_ % 8 = 4 then ({ s with lost := max (a.n % 4) 0 }, 0) else if a.do_ % 8 = 5 then ({ s with armed := max a.n 0, keep := keep }, 0)
  else if a.do_ % 8 = 6 then (crashS s keep, 0) else if a.do_ % 8 = 7 then ({ s with down := false }, 0) else writeT s a.f a.n a.s
theorem and_7 (a : Int) : IntKind.wrap .i64 (BitVec.ofInt IntKind.i64.bits a &&& BitVec.ofInt IntKind.i64.bits 7).toNat = a % 8 := and_lo 3 (by omega) a 7 rfl
theorem and_3 (a : Int) : IntKind.wrap .i64 (BitVec.ofInt IntKind.i64.bits a &&& BitVec.ofInt IntKind.i64.bits 3).toNat = a % 4 := and_lo 2 (by omega) a 3 rfl

section
variable {B : Base} {w : World} {p : Nat} {s : DS} {kv : Value}
theorem do_d (r : rowR kv s.keep B) (hkl : s.keep.length ≤ 1000000) {a : Act4} {keep : List Int} (ra : rowR a.keep.1 keep B) (hal : keep.length ≤ 1000000) (hs : a.s.size ≤ 9223372036854775807) (hn : a.n ≤ 9223372036854775807) :
    Does Try.prog B (diskD p s kv) (sCall F_erratalaw04_do #[ptr p, a.v]) fun v e' τ => v = .int .i64 (actT s a keep).2 ∧ ∃ kv', e' = diskD p (actT s a keep).1 kv' ∧ ((kv' = kv ∧ (actT s a keep).1.keep = s.keep ∧ τ = []) ∨ ((actT s a keep).1.keep = keep ∧ τ = [rowD T_int kv' keep])) := by
  refine Does.intro fun B' w K base h k => ?_
  replace r := base r
  replace ra := base ra
  refine erratalaw04_do.up (erratalaw04_do.call ?_)
  unfold erratalaw04_do.pt
  unfold actT at k
  refine h.box fun b w1 h => ?_
  have h : Rel B' w1 [diskD p s kv, cellD b T_erratalaw04_Act a.cs.toArray] := h
  refine LETJ_intro fun J hJ => ?_
  replace hJ : ∀ w', K (.int .i64 0) w' → J () w' := fun w' h => hJ _ _ h
  simp -zeta only [field_addr f_erratalaw04_Act_0, field_addr f_erratalaw04_Act_1, field_addr f_erratalaw04_Act_2, field_addr f_erratalaw04_Act_3, field_addr f_erratalaw04_Act_4, Nat.add_zero, Nat.zero_add, h.ld 1 rfl sc_int (o := 0) rfl, h.ld 1 rfl sc_int (o := 1) rfl, h.ld 1 rfl sc_int (o := 2) rfl, h.ld 1 rfl sc_string (o := 3) rfl, h.ld 1 rfl sc_s_int (o := 4) rfl, bin_and, and_7, and_3, bin_eql, ifB_dec]
  refine ⟨fun e => ?_, fun e2 => ⟨fun e => ?_, fun e3 => ⟨fun e => ?_, fun e4 => ⟨fun e => ?_, fun e5 => ⟨fun e => ?_, fun e6 => ⟨fun e => ?_, fun e7 => ?_⟩⟩⟩⟩⟩⟩
  · rw [if_pos e] at k
    refine h.act 0 rfl (fun B2 own base2 => Sync_d (base2 r) hkl a.f) fun v e' τ w2 hp h => ?_
    obtain ⟨rfl, rfl, rfl⟩ := hp
    exact k _ _ [] _ ⟨rfl, kv, rfl, .inl ⟨rfl, keep_syncT _ _, rfl⟩⟩ (h.take 1)
  · rw [if_neg e2, if_pos e] at k
    refine h.act 0 rfl (fun B2 own base2 => Truncate_d (base2 r) hkl a.f a.n) fun v e' τ w2 hp h => ?_
    obtain ⟨rfl, rfl, rfl⟩ := hp
    exact k _ _ [] _ ⟨rfl, kv, rfl, .inl ⟨rfl, keep_truncT _ _ _, rfl⟩⟩ (h.take 1)
  · rw [if_neg e2, if_neg e3, if_pos e] at k
    refine h.act 0 rfl (fun B2 own base2 => Lose_d (n := a.n % 4) (by omega)) fun v e' τ w2 hp h => ?_
    obtain ⟨rfl, rfl, rfl⟩ := hp
    exact hJ _ (k _ _ [] _ ⟨rfl, kv, rfl, .inl ⟨rfl, rfl, rfl⟩⟩ (h.take 1))
  · rw [if_neg e2, if_neg e3, if_neg e4, if_pos e] at k
    refine h.act 0 rfl (fun B2 own base2 => Arm_d (base2 ra) hal hn) fun v e' τ w2 hp h => ?_
    obtain ⟨rfl, kv', rfl, rfl⟩ := hp
    exact hJ _ (k _ _ _ _ ⟨rfl, kv', rfl, .inr ⟨rfl, rfl⟩⟩ (h.pick [0, 2] (by decide)))
  · rw [if_neg e2, if_neg e3, if_neg e4, if_neg e5, if_pos e] at k
    refine h.act 0 rfl (fun B2 own base2 => crash_d (base2 ra) (by omega)) fun v e' τ w2 hp h => ?_
    obtain ⟨rfl, rfl, rfl⟩ := hp
    exact hJ _ (k _ _ [] _ ⟨rfl, kv, rfl, .inl ⟨rfl, keep_crash _ _, rfl⟩⟩ (h.take 1))
  · rw [if_neg e2, if_neg e3, if_neg e4, if_neg e5, if_neg e6, if_pos e] at k
    refine h.act 0 rfl (fun B2 own base2 => Start_d) fun v e' τ w2 hp h => ?_
    obtain ⟨rfl, rfl, rfl⟩ := hp
    exact hJ _ (k _ _ [] _ ⟨rfl, kv, rfl, .inl ⟨rfl, rfl, rfl⟩⟩ (h.take 1))
  · rw [if_neg e2, if_neg e3, if_neg e4, if_neg e5, if_neg e6, if_neg e7] at k
    refine h.act 0 rfl (fun B2 own base2 => Write_d (base2 r) hkl a.f a.n hs) fun v e' τ w2 hp h => ?_
    obtain ⟨rfl, rfl, rfl⟩ := hp
    exact k _ _ [] _ ⟨rfl, kv, rfl, .inl ⟨rfl, keep_writeT _ _ _ _, rfl⟩⟩ (h.take 1)

/-- An act, as a law performs it: the rows that the disk keeps go to what stays. -/
theorem do_r {σ : List Dat} {K : Value → World → Prop} (h : Rel B w σ) (i : Nat) (hi : σ[i]? = some (diskD p s kv)) (r : rowR kv s.keep B) (hkl : s.keep.length ≤ 60) {a : Act4} {keep : List Int} (ra : rowR a.keep.1 keep B) (hal : keep.length ≤ 60) (hs : a.s.size ≤ 9223372036854775807) (hn : a.n ≤ 9223372036854775807)
    (k : ∀ B' kv' w', B.ext B' → rowR kv' (actT s a keep).1.keep B' → (actT s a keep).1.keep.length ≤ 60 → Rel B' w' (σ.set i (diskD p (actT s a keep).1 kv')) → K (.int .i64 (actT s a keep).2) w') : upK Try.prog (sCall F_erratalaw04_do #[ptr p, a.v]) w K := by
  refine h.act i hi (fun B2 own base2 => do_d (base2 r) (by omega) (base2 ra) (by omega) hs hn) fun v e' τ w2 hp h => ?_
  obtain ⟨rfl, kv', rfl, hp⟩ := hp
  rcases hp with ⟨rfl, hk, rfl⟩ | ⟨hk, rfl⟩
  · rw [List.append_nil] at h
    exact k B kv' w2 (Base.ext.refl B) (by rw [hk]; exact r) (by rw [hk]; exact hkl) h
  · obtain ⟨B', h1, h2, h3⟩ := h.frz1
    exact k B' kv' w2 h1 (by rw [hk]; exact rowD.read h3) (by rw [hk]; exact hal) h2
end
end Go.Proofs.Ytoldlajahoodjaa
