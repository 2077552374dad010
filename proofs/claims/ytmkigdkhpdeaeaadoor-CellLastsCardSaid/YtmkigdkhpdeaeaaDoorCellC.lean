/-
  The reference's cell. No condition.
-/
import Derived.Test.YtmkigdkhpdeaeaaDoorCellB
namespace Go.Proofs.YtmkigdkhpdeaeaaDoor
open Go.RowKit

theorem ofNat_mod (n : Nat) : UInt8.ofNat (n % 256) = UInt8.ofNat n := UInt8.toNat_inj.1 (by simp)
section
variable {B : Base} {w : World} {q : Nat} {s : DS} {kv : Value}
theorem begin_g (k : Int) : Gives Tryd.prog B (sCall F_errataref05_begin #[.int .i64 k]) (.int .i64 (offs k)) := by
  refine Gives.intro fun B' w K base h fin => ?_
  refine errataref05_begin.up (errataref05_begin.call ?_)
  unfold errataref05_begin.pt
  unfold offs at fin
  simp -zeta only [bin_eql, ifB_dec]
  exact ⟨fun e => by rw [if_pos e] at fin; exact fin _ _ h, fun e => by rw [if_neg e] at fin; exact fin _ _ h⟩
theorem RGet_g {c : Nat} {f : Int} {st : CS} (hc : cellD c T_errataref05_Cell (ccs q f st) B) : Gives Tryd.prog B (sCall F_errataref05_Cell_Get #[ptr c]) (.tuple #[.string st.value, .bool (!decide (st.slot = 0))]) := by
  refine Gives.intro fun B' w K base h k => ?_
  replace hc := base hc
  refine errataref05_Cell_Get.up (errataref05_Cell_Get.call ?_)
  unfold errataref05_Cell_Get.pt
  have h := h.tick
  simp -zeta only [nil_ptr, field_addr f_errataref05_Cell_3, field_addr f_errataref05_Cell_2, Nat.zero_add, cellD.ld (h.hereB hc) sc_string (o := 3) rfl, cellD.ld (h.hereB hc) sc_int (o := 2) rfl, bin_neq]
  exact k _ _ h

set_option maxRecDepth 10000 in
theorem RSet_d (r : rowR kv s.keep B) (hkl : s.keep.length ≤ 1000000) {c : Nat} {f : Int} {st : CS} (hst : slotOk st) {v : ByteArray} :
    Both Tryd.prog B (refD q s kv) (cellD c T_errataref05_Cell (ccs q f st)) (sCall F_errataref05_Cell_Set #[ptr c, .string v]) fun u d1 d2 => u = .int .i64 (setS s st f v).2 ∧ d1 = refD q (setS s st f v).1.1 kv ∧ d2 = cellD c T_errataref05_Cell (ccs q f (setS s st f v).1.2) := by
  refine Both.intro fun B' w K base h k => ?_
  replace r := base r
  refine errataref05_Cell_Set.up (errataref05_Cell_Set.call ?_)
  unfold errataref05_Cell_Set.pt
  have hb := bl_length v
  have fin : ∀ (x : (DS × CS) × Int) w', setS s st f v = x → Rel B' w' [refD q x.1.1 kv, cellD c T_errataref05_Cell (ccs q f x.1.2)] → K (.int .i64 x.2) w' := fun x w' e h => k _ _ _ w' ⟨by rw [e], by rw [e], by rw [e]⟩ h
  clear k
  simp -zeta only [str_len U_string, bin_gtr, ifB_dec]
  refine ⟨fun e0 => fin ((s, st), 6) _ (by unfold setS; rw [if_pos (by omega)]) h, fun e0 => ?_⟩
  have hv : v.size ≤ 65536 := by omega
  refine LETJ_intro fun J hJ => ?_
  replace hJ : (sure1 s st f).2 = 0 → ∀ w', Rel B' w' [refD q (sure1 s st f).1 kv, cellD c T_errataref05_Cell (ccs q f (st1 st))] → J () w' := by
    intro z w1 h
    refine hJ _ _ ?_
    clear hJ
    have fin : ∀ (x : (DS × CS) × Int) w', set1 (sure1 s st f).1 (st1 st) f v = x → Rel B' w' [refD q x.1.1 kv, cellD c T_errataref05_Cell (ccs q f x.1.2)] → K (.int .i64 x.2) w' := fun x w' e h => fin x w' (by unfold setS; rw [if_neg (by omega), if_neg (by rw [z]; decide)]; exact e) h
    rw [← keep_sure1 s st f] at r hkl
    generalize (sure1 s st f).1 = s1 at r hkl h fin
    generalize st1 st = st1 at h fin
    refine LETJ_intro fun J2 hJ2 => ?_
    replace hJ2 : J2 (.int .i64 (nextK st1), ()) w1 := by
      refine hJ2 _ _ ?_
      clear hJ2
      have h := h.tick
      simp -zeta only [nil_ptr, field_addr f_errataref05_Cell_0, field_addr f_errataref05_Cell_1, field_addr f_errataref05_Cell_2, field_addr f_errataref05_Cell_3, field_addr f_errataref05_Cell_4, Nat.add_zero, Nat.zero_add, h.ld 1 rfl sc_p_errataref04_Disk (o := 0) rfl, h.ld 1 rfl sc_int (o := 1) rfl]
      refine h.ask (fun B2 own base2 => begin_g (nextK st1)) fun w1b h => ?_
      refine ⟨h.is 1 rfl sc_int (o := 1) rfl, h.is 1 rfl sc_p_errataref04_Disk (o := 0) rfl, ?_⟩
      refine h.act 0 rfl (fun B2 own base2 => RWrite_d (base2 r) hkl f (offs (nextK st1)) (by omega)) fun u e' τ w2 hp h => ?_
      obtain ⟨rfl, rfl, rfl⟩ := hp
      have h : Rel B' w2 [refD q (writeT s1 f (offs (nextK st1)) v).1 kv, cellD c T_errataref05_Cell (ccs q f st1)] := h
      simp -zeta only [bin_neq, ifB_not, ifB_dec]
      refine ⟨fun z => ?_, fun z => fin _ _ (by unfold set1; rw [if_pos z]) h⟩
      have fin : ∀ (x : (DS × CS) × Int) w', set2 (writeT s1 f (offs (nextK st1)) v).1 st1 f v = x → Rel B' w' [refD q x.1.1 kv, cellD c T_errataref05_Cell (ccs q f x.1.2)] → K (.int .i64 x.2) w' := fun x w' e h => fin x w' (by unfold set1; rw [if_neg (fun hh => hh z)]; exact e) h
      rw [← keep_writeT s1 f (offs (nextK st1)) v] at r hkl
      clear z
      generalize (writeT s1 f (offs (nextK st1)) v).1 = s2 at r hkl h fin
      have h := h.tick
      simp -zeta only [h.ld 1 rfl sc_p_errataref04_Disk (o := 0) rfl, h.ld 1 rfl sc_int (o := 1) rfl]
      refine h.act 0 rfl (fun B2 own base2 => RSync_d (base2 r) hkl f) fun u e' τ w3 hp h => ?_
      obtain ⟨rfl, rfl, rfl⟩ := hp
      have h : Rel B' w3 [refD q (syncT s2 f).1 kv, cellD c T_errataref05_Cell (ccs q f st1)] := h
      simp -zeta only [bin_neq, ifB_not, ifB_dec]
      refine ⟨fun z => ?_, fun z => fin _ _ (by unfold set2; rw [if_pos z]) h⟩
      have fin : ∀ (x : (DS × CS) × Int) w', set3 (syncT s2 f).1 st1 f v = x → Rel B' w' [refD q x.1.1 kv, cellD c T_errataref05_Cell (ccs q f x.1.2)] → K (.int .i64 x.2) w' := fun x w' e h => fin x w' (by unfold set2; rw [if_neg (fun hh => hh z)]; exact e) h
      rw [← keep_syncT s2 f] at r hkl
      clear z
      generalize (syncT s2 f).1 = s3 at r hkl h fin
      rw [hb]
      refine LETJ_intro fun J3 hJ3 => ?_
      replace hJ3 : ∀ w', Rel B' w' [refD q (writeT s3 f 0 (headB st1 v)).1 kv, cellD c T_errataref05_Cell (ccs q f st1)] → J3 (.int .i64 (writeT s3 f 0 (headB st1 v)).2, ()) w' := by
        intro w5 h
        refine hJ3 _ _ ?_
        clear hJ3
        simp -zeta only [bin_neq, ifB_not, ifB_dec]
        refine ⟨fun z => ?_, fun z => fin _ _ (by unfold set3; rw [if_pos z]) h⟩
        have fin : ∀ w', Rel B' w' [refD q (syncT (writeT s3 f 0 (headB st1 v)).1 f).1 kv, cellD c T_errataref05_Cell (ccs q f ⟨nextK st1, v, decide ((syncT (writeT s3 f 0 (headB st1 v)).1 f).2 = 0)⟩)] → K (.int .i64 (syncT (writeT s3 f 0 (headB st1 v)).1 f).2) w' := fun w' h => fin (((syncT (writeT s3 f 0 (headB st1 v)).1 f).1, ⟨nextK st1, v, decide ((syncT (writeT s3 f 0 (headB st1 v)).1 f).2 = 0)⟩), (syncT (writeT s3 f 0 (headB st1 v)).1 f).2) w' (by unfold set3; rw [if_neg (fun hh => hh z)]) h
        rw [← keep_writeT s3 f 0 (headB st1 v)] at r hkl
        clear z
        generalize (writeT s3 f 0 (headB st1 v)).1 = s4 at r hkl h fin
        refine h.st 1 rfl sc_int (show 2 < 5 by omega) rfl fun w6 h => ?_
        refine h.st 1 rfl sc_string (show 3 < 5 by omega) rfl fun w7 h => ?_
        refine h.st 1 rfl sc_bool (show 4 < 5 by omega) rfl fun w8 h => ?_
        have h : Rel B' w8 [refD q s4 kv, cellD c T_errataref05_Cell (ccs q f ⟨nextK st1, v, false⟩)] := h
        have h := h.tick
        simp -zeta only [h.ld 1 rfl sc_p_errataref04_Disk (o := 0) rfl, h.ld 1 rfl sc_int (o := 1) rfl]
        refine h.act 0 rfl (fun B2 own base2 => RSync_d (base2 r) hkl f) fun u e' τ w9 hp h => ?_
        obtain ⟨rfl, rfl, rfl⟩ := hp
        rw [bin_eql]
        refine h.st 1 rfl sc_bool (show 4 < 5 by omega) rfl fun w10 h => ?_
        exact fin _ h
      have h := h.tick
      have I1 := h.is 1 rfl sc_int (o := 1) (P := Tryd.prog) rfl
      have I2 := h.is 1 rfl sc_p_errataref04_Disk (o := 0) (P := Tryd.prog) rfl
      obtain ⟨kn, hkn⟩ : ∃ kn : Nat, nextK st1 = kn := ⟨(nextK st1).toNat, by rcases nextK_range st1 with e | e <;> omega⟩
      have m1 : ((v.size : Int).tmod 256) = ((v.size % 256 : Nat) : Int) := by rw [Int.tmod_eq_emod_of_nonneg (by omega)]; omega
      have m2 : IntKind.i64.wrap ((v.size : Int).tdiv 256) = ((v.size / 256 : Nat) : Int) := by rw [Int.tdiv_eq_ediv_of_nonneg (by omega), wrap_id (by omega) (by omega)]; omega
      have m3 : (((v.size / 256 : Nat) : Int).tmod 256) = ((v.size / 256 % 256 : Nat) : Int) := by rw [Int.tmod_eq_emod_of_nonneg (by omega)]; omega
      have m4 : IntKind.i64.wrap ((v.size : Int).tdiv 65536) = ((v.size / 65536 : Nat) : Int) := by rw [Int.tdiv_eq_ediv_of_nonneg (by omega), wrap_id (by omega) (by omega)]; omega
      have hH : [UInt8.ofNat kn, UInt8.ofNat (v.size % 256), UInt8.ofNat (v.size / 256 % 256), UInt8.ofNat (v.size / 65536), 0] = headL (nextK st1).toNat v.size := by
        unfold headL
        rw [hkn, Int.toNat_natCast, ofNat_mod, ofNat_mod, show v.size / 16777216 = 0 by omega]
        rfl
      rw [hkn]
      simp -zeta only [h.ld 1 rfl sc_p_errataref04_Disk (o := 0) rfl, h.ld 1 rfl sc_int (o := 1) rfl, bin_rem (show (256 : Int) ≠ 0 by decide), bin_quo (show (256 : Int) ≠ 0 by decide), bin_quo (show (65536 : Int) ≠ 0 by decide), m1, m2, m3, m4, conv_int U_int U_uint8, wrap_u8, I1, I2, true_and, and_self]
      clear I1 I2
      refine h.buildN (α := UInt8) [UInt8.ofNat kn, UInt8.ofNat (v.size % 256), UInt8.ofNat (v.size / 256 % 256), UInt8.ofNat (v.size / 65536), 0] sl_s_uint8 (fun v1 w4 h => ?_)
      refine ⟨h.is 1 rfl sc_int (o := 1) rfl, h.is 1 rfl sc_p_errataref04_Disk (o := 0) rfl, ?_⟩
      refine upK_of (conv_row (rowD.read (h.here (i := 2) rfl)) U_s_uint8 U_uint8 U_string) ?_
      refine ⟨h.is 1 rfl sc_int (o := 1) rfl, h.is 1 rfl sc_p_errataref04_Disk (o := 0) rfl, ?_⟩
      rw [hH, show ofL (headL (nextK st1).toNat v.size) = headB st1 v from rfl]
      have h := h.take 2
      refine h.act 0 rfl (fun B2 own base2 => RWrite_d (base2 r) hkl f 0 (t := headB st1 v) (by have : (headB st1 v).size = 5 := rfl; omega)) fun u e' τ w5 hp h => ?_
      obtain ⟨rfl, rfl, rfl⟩ := hp
      exact hJ3 _ h
    simp -zeta only [nil_ptr, field_addr f_errataref05_Cell_2, Nat.zero_add, h.ld 1 rfl sc_int (o := 2) rfl, bin_eql, ifB_dec]
    unfold nextK at hJ2
    exact ⟨fun e => by rw [if_pos e] at hJ2; exact hJ2, fun e => by rw [if_neg e] at hJ2; exact hJ2⟩
  simp -zeta only [nil_ptr, field_addr f_errataref05_Cell_0, field_addr f_errataref05_Cell_1, field_addr f_errataref05_Cell_2, field_addr f_errataref05_Cell_4, Nat.add_zero, Nat.zero_add, h.ld 1 rfl sc_bool (o := 4) rfl, h.ld 1 rfl sc_int (o := 2) rfl]
  rw [un_not, ifB_not, ifB_bool]
  have idl : st1 st = { st with sure := st.sure || decide (0 < st.slot) } := rfl
  refine ⟨fun e => ?_, fun e => ?_⟩
  · have e1 : sure1 s st f = (s, 0) := by unfold sure1; rw [if_neg (by rw [e]; simp)]
    have e2 : st1 st = st := by rw [idl, e]; obtain ⟨a, b, d⟩ := st; subst e; rfl
    refine hJ (by rw [e1]) _ ?_
    rw [e1, e2]
    exact h
  · simp -zeta only [bin_neq, ifB_not, ifB_dec]
    refine ⟨fun e3 => ?_, fun e3 => ?_⟩
    · have e3 : ¬ 0 < st.slot := by omega
      have e1 : sure1 s st f = (s, 0) := by unfold sure1; rw [if_neg (fun hh => e3 hh.2)]
      have e2 : st1 st = st := by rw [idl, e, decide_eq_false e3]; obtain ⟨a, b, d⟩ := st; simp only at e; subst e; rfl
      refine hJ (by rw [e1]) _ ?_
      rw [e1, e2]
      exact h
    · have e3 : 0 < st.slot := by unfold slotOk at hst; omega
      have e1 : sure1 s st f = syncT s f := by unfold sure1; rw [if_pos ⟨e, e3⟩]
      have e2 : st1 st = { st with sure := true } := by rw [idl, decide_eq_true e3, Bool.or_true]
      rw [e1, e2] at hJ
      have h := h.tick
      simp -zeta only [h.ld 1 rfl sc_p_errataref04_Disk (o := 0) rfl, h.ld 1 rfl sc_int (o := 1) rfl]
      refine h.act 0 rfl (fun B2 own base2 => RSync_d (base2 r) hkl f) fun u e' τ w2 hp h => ?_
      obtain ⟨rfl, rfl, rfl⟩ := hp
      simp -zeta only [bin_neq, ifB_not, ifB_dec]
      refine ⟨fun z => ?_, fun z => fin (((syncT s f).1, st), (syncT s f).2) _ (by unfold setS; rw [if_neg (by omega), e1, if_pos z]) h⟩
      refine h.st 1 rfl sc_bool (show 4 < 5 by omega) rfl fun w3 h => ?_
      exact hJ z _ h
set_option maxRecDepth 10000 in
theorem Ropen_m (hd : refD q s kv B) (f : Int) : Makes Tryd.prog B (sCall F_errataref05_Open #[ptr q, .int .i64 f])
    fun v τ => (∃ c st, openS s f = (some st, 0) ∧ v = .tuple #[ptr c, .int .i64 0] ∧ τ = [cellD c T_errataref05_Cell (ccs q f st)]) ∨ ((openS s f).1 = none ∧ v = .tuple #[.pointer none, .int .i64 (openS s f).2] ∧ τ = []) := by
  refine Makes.intro fun B' w K base h k => ?_
  replace hd := base hd
  refine errataref05_Open.up (errataref05_Open.call ?_)
  unfold errataref05_Open.pt
  have no : ∀ w' σ e, Rel B' w' σ → openS s f = (none, e) → K (.tuple #[.pointer none, .int .i64 e]) w' := fun w' σ e h he => k _ _ _ (.inr ⟨by rw [he], by rw [he], rfl⟩) h.nil
  have yes : ∀ w' c st, Rel B' w' [cellD c T_errataref05_Cell (ccs q f st)] → openS s f = (some st, 0) → K (.tuple #[ptr c, .int .i64 0]) w' := fun w' c st h he => k _ _ _ (.inl ⟨c, st, he, rfl, rfl⟩) h
  clear k
  refine h.ask (fun B2 own base2 => RRead_g (base2 hd) f 0 5) fun w1 h => ?_
  unfold openS at no yes
  have hsz := readT_size s f 0 5
  generalize hR : readT s f 0 5 = R at no yes hsz
  obtain ⟨hd0, e0⟩ := R
  have hsz : hd0.size ≤ 5 := hsz
  dsimp only at no yes
  simp -zeta only [ext_2_0, ext_2_1, bin_neq, ifB_not, ifB_dec]
  refine ⟨fun z => ?_, fun z => no _ _ _ h (by rw [if_pos z])⟩
  have z : e0 = 0 := z
  subst z
  rw [if_neg (fun hh => hh rfl)] at no yes
  rw [bd_errataref05_Cell_0_1]
  refine h.box fun c w2 h => ?_
  have h : Rel B' w2 [cellD c T_errataref05_Cell (ccs q f c0S)] := h
  rw [eql_str, ifB_dec]
  refine ⟨fun e1 => yes _ _ _ h (by rw [if_pos e1]), fun e1 => ?_⟩
  rw [if_neg e1] at no yes
  have hpos := size_pos e1
  have hbl := bl_length hd0
  simp -zeta only [str_idz (z := 0) 0 U_string hpos]
  rw [show ((.int .u8 0 : Value)) = .int .u8 ((0 : Nat) : Int) from rfl, u8_eqz 0 (by decide), show UInt8.ofNat 0 = 0 from rfl, ifB_dec]
  refine ⟨fun e2 => yes _ _ _ h (by rw [if_pos e2]), fun e2 => ?_⟩
  rw [if_neg e2] at no yes
  unfold open2 at no yes
  simp -zeta only [str_len U_string, bin_lss, ifB_dec]
  refine ⟨fun e3 => no _ _ _ h (by rw [if_pos (by omega)]), fun e3 => ?_⟩
  have h5 : (bl hd0).length = 5 := by omega
  rw [if_neg (by omega)] at no yes
  refine LETJ_intro fun J hJ => ?_
  replace hJ : ∀ w', Rel B' w' [cellD c T_errataref05_Cell (ccs q f c0S)] → J (.int .i64 (hnum (bl hd0)), ()) w' := by
    intro w3 h
    refine hJ _ _ ?_
    clear hJ
    have hlt := numN_lt (bl hd0) 4 (Nat.le_refl _)
    rw [numN_4] at hlt
    generalize hn : hnum (bl hd0) = n at hlt no yes
    refine LETJ_intro fun J2 hJ2 => ?_
    replace hJ2 : n ≤ 65536 → ((bl hd0).getD 0 0 = 1 ∨ (bl hd0).getD 0 0 = 2) → J2 () w3 := by
      intro hle hk
      refine hJ2 _ _ ?_
      clear hJ2
      rw [if_neg (by rintro ⟨a, b⟩; rcases hk with hk | hk; exact a hk; exact b hk), if_neg (by omega)] at no yes
      have hk0 : (((bl hd0).getD 0 0).toNat : Int) = 1 ∨ (((bl hd0).getD 0 0).toNat : Int) = 2 := by
        rcases hk with hk | hk
        · rw [hk]; exact .inl rfl
        · rw [hk]; exact .inr rfl
      rw [conv_int U_uint8 U_int]
      generalize (((bl hd0).getD 0 0).toNat : Int) = x at hk0 no yes
      rw [wrap_id (by omega) (by omega)]
      simp -zeta only [nil_ptr, field_addr f_errataref05_Cell_2, field_addr f_errataref05_Cell_3, Nat.zero_add]
      refine h.st 0 rfl sc_int (show 2 < 5 by omega) rfl fun w4 h => ?_
      simp -zeta only [h.ld 0 rfl sc_int (o := 2) rfl]
      refine h.ask (fun B2 own base2 => begin_g x) fun w4b h => ?_
      refine h.ask (fun B2 own base2 => RRead_g (base2 hd) f (offs x) (n : Int)) fun w5 h => ?_
      have hsz2 := readT_size s f (offs x) (n : Int)
      generalize readT s f (offs x) (n : Int) = R2 at no yes hsz2
      obtain ⟨t, e4⟩ := R2
      have hsz2 : t.size ≤ n := by simpa using hsz2
      dsimp only at no yes
      simp -zeta only [ext_2_0, ext_2_1]
      refine h.st 0 rfl sc_string (show 3 < 5 by omega) rfl fun w6 h => ?_
      have hbt := bl_length t
      simp -zeta only [bin_neq, ifB_not, ifB_dec, h.ld 0 rfl sc_string (o := 3) rfl, str_len U_string]
      refine ⟨fun e5 => ?_, fun e5 => no _ _ _ h (by rw [if_pos e5])⟩
      have e5 : e4 = 0 := e5
      subst e5
      rw [if_neg (fun hh => hh rfl)] at no yes
      refine ⟨fun e6 => ?_, fun e6 => no _ _ _ h (by rw [if_pos (by omega)])⟩
      rw [if_neg (by omega)] at yes
      exact yes _ c ⟨x, t, false⟩ h rfl
    have n1 : ∀ {Kp : Value → Prop} {a b : Operand}, pureK Tryd.prog (sBin .neq T_uint8 a b (.int .u8 ((bl hd0).getD 0 0).toNat) (.int .u8 1)) Kp = Kp (.bool (!decide ((bl hd0).getD 0 0 = 1))) := by
      intro Kp a b
      rw [bin_neq]
      congr 3
      exact decide_eq_decide.2 ⟨fun h => UInt8.toNat_inj.1 (by have : (1 : UInt8).toNat = 1 := rfl; omega), fun h => by rw [h]; rfl⟩
    have n2 : ∀ {Kp : Value → Prop} {a b : Operand}, pureK Tryd.prog (sBin .neq T_uint8 a b (.int .u8 ((bl hd0).getD 0 0).toNat) (.int .u8 2)) Kp = Kp (.bool (!decide ((bl hd0).getD 0 0 = 2))) := by
      intro Kp a b
      rw [bin_neq]
      congr 3
      exact decide_eq_decide.2 ⟨fun h => UInt8.toNat_inj.1 (by have : (2 : UInt8).toNat = 2 := rfl; omega), fun h => by rw [h]; rfl⟩
    rw [n1, ifB_not, ifB_dec]
    simp -zeta only [bin_gtr, ifB_dec]
    refine ⟨fun k1 => ⟨fun e => no _ _ _ h (by rw [if_neg (fun hh => hh.1 k1), if_pos (by omega)]), fun e => hJ2 (by omega) (.inl k1)⟩, fun k1 => ?_⟩
    rw [n2, ifB_not, ifB_dec]
    exact ⟨fun k2 => ⟨fun e => no _ _ _ h (by rw [if_neg (fun hh => hh.2 k2), if_pos (by omega)]), fun e => hJ2 (by omega) (.inr k2)⟩, fun k2 => no _ _ _ h (by rw [if_pos ⟨k1, k2⟩])⟩
  have h := h.tick
  simp -zeta only [str_idz (z := 1) 1 U_string (show 1 < hd0.size by omega), str_idz (z := 2) 2 U_string (show 2 < hd0.size by omega), str_idz (z := 3) 3 U_string (show 3 < hd0.size by omega), str_idz (z := 4) 4 U_string (show 4 < hd0.size by omega), conv_int U_uint8 U_int, bin_mul, bin_add, and_self]
  refine cast (congrArg (fun z : Int => J (.int .i64 z, ()) (tick w2)) ?_) (hJ _ h)
  unfold hnum
  have b1 := u8_lt ((bl hd0).getD 1 0)
  have b2 := u8_lt ((bl hd0).getD 2 0)
  have b3 := u8_lt ((bl hd0).getD 3 0)
  have b4 := u8_lt ((bl hd0).getD 4 0)
  generalize ((bl hd0).getD 1 0).toNat = x1 at *
  generalize ((bl hd0).getD 2 0).toNat = x2 at *
  generalize ((bl hd0).getD 3 0).toNat = x3 at *
  generalize ((bl hd0).getD 4 0).toNat = x4 at *
  have W : ∀ z : Int, 0 ≤ z → z ≤ 9223372036854775807 → IntKind.i64.wrap z = z := fun z a b => wrap_id (by omega) b
  rw [W x1 (by omega) (by omega), W x2 (by omega) (by omega), W x3 (by omega) (by omega), W x4 (by omega) (by omega), W (256 * x2) (by omega) (by omega), W (65536 * x3) (by omega) (by omega), W (16777216 * x4) (by omega) (by omega), W (x1 + 256 * x2) (by omega) (by omega), W (x1 + 256 * x2 + 65536 * x3) (by omega) (by omega), W _ (by omega) (by omega)]
  omega
end
end Go.Proofs.YtmkigdkhpdeaeaaDoor
