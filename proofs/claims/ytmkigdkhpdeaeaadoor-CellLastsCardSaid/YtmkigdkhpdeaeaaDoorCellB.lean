/-
  The cell's Set. No condition.
-/
import Derived.Test.YtmkigdkhpdeaeaaDoorCellA
namespace Go.Proofs.YtmkigdkhpdeaeaaDoor
open Go.RowKit

section
variable {P : Program} {B : Base} {w : World} {s : Sem Next} {K : Value → World → Prop} {d1 d2 : Dat} {post : Value → Dat → Dat → Prop}
/-- A call that changes two things. -/
def Both (P : Program) (B : Base) (d1 d2 : Dat) (s : Sem Next) (post : Value → Dat → Dat → Prop) : Prop := Does P B (stars [d1, d2]) s fun v e' τ => ∃ d1' d2', post v d1' d2' ∧ e' = stars [d1', d2'] ∧ τ = []
theorem Both.intro (h : ∀ (B' : Base) (w : World) (K : Value → World → Prop), (∀ {d : Dat}, d B → d B') → Rel B' w [d1, d2] → (∀ v d1' d2' w', post v d1' d2' → Rel B' w' [d1', d2'] → K v w') → upK P s w K) : Both P B d1 d2 s post := by
  refine Does.intro fun B' w K base h0 k => ?_
  have h0 := Rel.unstars (σ := []) (L := [d1, d2]) h0
  refine h B' w K base h0 fun v d1' d2' w' hp h2 => ?_
  have h2 := Rel.restars (σ := []) (L := [d1', d2']) h2
  exact k v _ [] w' ⟨d1', d2', hp, rfl, rfl⟩ h2
theorem Rel.act2 {τ : List Dat} (h : Rel B w (τ ++ [d1, d2])) (G : ∀ B' : Base, (∀ {j : Nat} {d : Dat}, τ[j]? = some d → d B') → (∀ {d : Dat}, d B → d B') → Both P B' d1 d2 s post)
    (k : ∀ v d1' d2' w', post v d1' d2' → Rel B w' (τ ++ [d1', d2']) → K v w') : upK P s w K := by
  have h := Rel.restars (L := [d1, d2]) h
  refine h.act τ.length get_last (fun B' own base => G B' (fun {j d} hj => ?_) base) fun v e' τ' w' hp h => ?_
  · have hlt : j < τ.length := by
      rcases Nat.lt_or_ge j τ.length with hl | hl
      · exact hl
      · rw [List.getElem?_eq_none hl] at hj; cases hj
    exact own (j := j) (by omega) (by rw [List.getElem?_append_left hlt]; exact hj)
  · obtain ⟨d1', d2', hp, rfl, rfl⟩ := hp
    rw [List.set_append_right _ _ (Nat.le_refl _), Nat.sub_self, List.set_cons_zero, List.append_nil] at h
    exact k v d1' d2' w' hp (Rel.unstars h)
end

section
variable {B : Base} {w : World} {p : Nat} {s : DS} {kv : Value}
theorem header_i {k : Int} (hk : k = 1 ∨ k = 2) {t : ByteArray} (hs : t.size ≤ 1000000) : Gives Tryd.prog B (sCall F_cell_header #[.int .i64 k, .string t]) (.string (ofL (headL k.toNat t.size))) := by
  rcases hk with rfl | rfl
  · exact header_g (k := 1) hs
  · exact header_g (k := 2) hs

set_option maxRecDepth 10000 in
theorem set_d (hT : offD B) (r : rowR kv s.keep B) (hkl : s.keep.length ≤ 1000000) {c : Nat} {f : Int} {st : CS} {v : ByteArray} :
    Both Tryd.prog B (diskD p s kv) (cellD c T_cell_Cell (ccs p f st)) (sCall F_cell_Cell_Set #[ptr c, .string v]) fun u d1 d2 => u = .int .i64 (setS s st f v).2 ∧ d1 = diskD p (setS s st f v).1.1 kv ∧ d2 = cellD c T_cell_Cell (ccs p f (setS s st f v).1.2) := by
  refine Both.intro fun B' w K base h k => ?_
  replace hT := base hT
  replace r := base r
  refine cell_Cell_Set.up (cell_Cell_Set.call ?_)
  unfold cell_Cell_Set.pt
  have hb := bl_length v
  have fin : ∀ (x : (DS × CS) × Int) w', setS s st f v = x → Rel B' w' [diskD p x.1.1 kv, cellD c T_cell_Cell (ccs p f x.1.2)] → K (.int .i64 x.2) w' := fun x w' e h => k _ _ _ w' ⟨by rw [e], by rw [e], by rw [e]⟩ h
  clear k
  simp -zeta only [str_len U_string, bin_gtr, ifB_dec]
  refine ⟨fun e0 => fin ((s, st), 6) _ (by unfold setS; rw [if_pos (by omega)]) h, fun e0 => ?_⟩
  have hv : v.size ≤ 65536 := by omega
  refine LETJ_intro fun J hJ => ?_
  replace hJ : (sure1 s st f).2 = 0 → ∀ w', Rel B' w' [diskD p (sure1 s st f).1 kv, cellD c T_cell_Cell (ccs p f (st1 st))] → J () w' := by
    intro z w1 h
    refine hJ _ _ ?_
    clear hJ
    have fin : ∀ (x : (DS × CS) × Int) w', set1 (sure1 s st f).1 (st1 st) f v = x → Rel B' w' [diskD p x.1.1 kv, cellD c T_cell_Cell (ccs p f x.1.2)] → K (.int .i64 x.2) w' := fun x w' e h => fin x w' (by unfold setS; rw [if_neg (by omega), if_neg (by rw [z]; decide)]; exact e) h
    rw [← keep_sure1 s st f] at r hkl
    generalize (sure1 s st f).1 = s1 at r hkl h fin
    generalize st1 st = st1 at h fin
    refine LETJ_intro fun J2 hJ2 => ?_
    replace hJ2 : J2 (.int .i64 (nextK st1), ()) w1 := by
      refine hJ2 _ _ ?_
      clear hJ2
      have h := h.tick
      simp -zeta only [nil_ptr, field_addr f_cell_Cell_0, field_addr f_cell_Cell_1, field_addr f_cell_Cell_2, field_addr f_cell_Cell_3, field_addr f_cell_Cell_4, Nat.add_zero, Nat.zero_add, h.ld 1 rfl sc_p_disk_Disk (o := 0) rfl, h.ld 1 rfl sc_int (o := 1) rfl]
      rw [off_ld hT h (nextK_range st1)]
      refine h.act 0 rfl (fun B2 own base2 => Write_d (base2 r) hkl f (offs (nextK st1)) (by omega)) fun u e' τ w2 hp h => ?_
      obtain ⟨rfl, rfl, rfl⟩ := hp
      have h : Rel B' w2 [diskD p (writeT s1 f (offs (nextK st1)) v).1 kv, cellD c T_cell_Cell (ccs p f st1)] := h
      simp -zeta only [bin_neq, ifB_not, ifB_dec]
      refine ⟨fun z => ?_, fun z => fin _ _ (by unfold set1; rw [if_pos z]) h⟩
      have fin : ∀ (x : (DS × CS) × Int) w', set2 (writeT s1 f (offs (nextK st1)) v).1 st1 f v = x → Rel B' w' [diskD p x.1.1 kv, cellD c T_cell_Cell (ccs p f x.1.2)] → K (.int .i64 x.2) w' := fun x w' e h => fin x w' (by unfold set1; rw [if_neg (fun hh => hh z)]; exact e) h
      rw [← keep_writeT s1 f (offs (nextK st1)) v] at r hkl
      clear z
      generalize (writeT s1 f (offs (nextK st1)) v).1 = s2 at r hkl h fin
      have h := h.tick
      simp -zeta only [h.ld 1 rfl sc_p_disk_Disk (o := 0) rfl, h.ld 1 rfl sc_int (o := 1) rfl]
      refine h.act 0 rfl (fun B2 own base2 => Sync_d (base2 r) hkl f) fun u e' τ w3 hp h => ?_
      obtain ⟨rfl, rfl, rfl⟩ := hp
      have h : Rel B' w3 [diskD p (syncT s2 f).1 kv, cellD c T_cell_Cell (ccs p f st1)] := h
      simp -zeta only [bin_neq, ifB_not, ifB_dec]
      refine ⟨fun z => ?_, fun z => fin _ _ (by unfold set2; rw [if_pos z]) h⟩
      have fin : ∀ (x : (DS × CS) × Int) w', set3 (syncT s2 f).1 st1 f v = x → Rel B' w' [diskD p x.1.1 kv, cellD c T_cell_Cell (ccs p f x.1.2)] → K (.int .i64 x.2) w' := fun x w' e h => fin x w' (by unfold set2; rw [if_neg (fun hh => hh z)]; exact e) h
      rw [← keep_syncT s2 f] at r hkl
      clear z
      generalize (syncT s2 f).1 = s3 at r hkl h fin
      have h := h.tick
      simp -zeta only [h.ld 1 rfl sc_p_disk_Disk (o := 0) rfl, h.ld 1 rfl sc_int (o := 1) rfl]
      refine h.ask (fun B2 own base2 => header_i (nextK_range st1) (by omega)) fun w4 h => ?_
      rw [show ofL (headL (nextK st1).toNat v.size) = headB st1 v from rfl]
      refine ⟨h.is 1 rfl sc_int (o := 1) rfl, h.is 1 rfl sc_p_disk_Disk (o := 0) rfl, ?_⟩
      refine h.act 0 rfl (fun B2 own base2 => Write_d (base2 r) hkl f 0 (t := headB st1 v) (by have : (headB st1 v).size = 5 := rfl; omega)) fun u e' τ w5 hp h => ?_
      obtain ⟨rfl, rfl, rfl⟩ := hp
      have h : Rel B' w5 [diskD p (writeT s3 f 0 (headB st1 v)).1 kv, cellD c T_cell_Cell (ccs p f st1)] := h
      simp -zeta only [bin_neq, ifB_not, ifB_dec]
      refine ⟨fun z => ?_, fun z => fin _ _ (by unfold set3; rw [if_pos z]) h⟩
      have fin : ∀ w', Rel B' w' [diskD p (syncT (writeT s3 f 0 (headB st1 v)).1 f).1 kv, cellD c T_cell_Cell (ccs p f ⟨nextK st1, v, decide ((syncT (writeT s3 f 0 (headB st1 v)).1 f).2 = 0)⟩)] → K (.int .i64 (syncT (writeT s3 f 0 (headB st1 v)).1 f).2) w' := fun w' h => fin (((syncT (writeT s3 f 0 (headB st1 v)).1 f).1, ⟨nextK st1, v, decide ((syncT (writeT s3 f 0 (headB st1 v)).1 f).2 = 0)⟩), (syncT (writeT s3 f 0 (headB st1 v)).1 f).2) w' (by unfold set3; rw [if_neg (fun hh => hh z)]) h
      rw [← keep_writeT s3 f 0 (headB st1 v)] at r hkl
      clear z
      generalize (writeT s3 f 0 (headB st1 v)).1 = s4 at r hkl h fin
      refine h.st 1 rfl sc_int (show 2 < 5 by omega) rfl fun w6 h => ?_
      refine h.st 1 rfl sc_string (show 3 < 5 by omega) rfl fun w7 h => ?_
      refine h.st 1 rfl sc_bool (show 4 < 5 by omega) rfl fun w8 h => ?_
      have h : Rel B' w8 [diskD p s4 kv, cellD c T_cell_Cell (ccs p f ⟨nextK st1, v, false⟩)] := h
      have h := h.tick
      simp -zeta only [h.ld 1 rfl sc_p_disk_Disk (o := 0) rfl, h.ld 1 rfl sc_int (o := 1) rfl]
      refine h.act 0 rfl (fun B2 own base2 => Sync_d (base2 r) hkl f) fun u e' τ w9 hp h => ?_
      obtain ⟨rfl, rfl, rfl⟩ := hp
      rw [bin_eql]
      refine h.st 1 rfl sc_bool (show 4 < 5 by omega) rfl fun w10 h => ?_
      exact fin _ h
    simp -zeta only [nil_ptr, field_addr f_cell_Cell_2, Nat.zero_add, h.ld 1 rfl sc_int (o := 2) rfl, bin_eql, ifB_dec]
    unfold nextK at hJ2
    exact ⟨fun e => by rw [if_pos e] at hJ2; exact hJ2, fun e => by rw [if_neg e] at hJ2; exact hJ2⟩
  simp -zeta only [nil_ptr, field_addr f_cell_Cell_0, field_addr f_cell_Cell_1, field_addr f_cell_Cell_2, field_addr f_cell_Cell_4, Nat.add_zero, Nat.zero_add, h.ld 1 rfl sc_bool (o := 4) rfl, h.ld 1 rfl sc_int (o := 2) rfl]
  rw [un_not, ifB_not, ifB_bool]
  have idl : st1 st = { st with sure := st.sure || decide (0 < st.slot) } := rfl
  refine ⟨fun e => ?_, fun e => ?_⟩
  · have e1 : sure1 s st f = (s, 0) := by unfold sure1; rw [if_neg (by rw [e]; simp)]
    have e2 : st1 st = st := by rw [idl, e]; obtain ⟨a, b, d⟩ := st; subst e; rfl
    refine hJ (by rw [e1]) _ ?_
    rw [e1, e2]
    exact h
  · simp -zeta only [bin_gtr, ifB_dec]
    refine ⟨fun e3 => ?_, fun e3 => ?_⟩
    · have e1 : sure1 s st f = syncT s f := by unfold sure1; rw [if_pos ⟨e, e3⟩]
      have e2 : st1 st = { st with sure := true } := by rw [idl, decide_eq_true e3, Bool.or_true]
      rw [e1, e2] at hJ
      have h := h.tick
      simp -zeta only [h.ld 1 rfl sc_p_disk_Disk (o := 0) rfl, h.ld 1 rfl sc_int (o := 1) rfl]
      refine h.act 0 rfl (fun B2 own base2 => Sync_d (base2 r) hkl f) fun u e' τ w2 hp h => ?_
      obtain ⟨rfl, rfl, rfl⟩ := hp
      simp -zeta only [bin_neq, ifB_not, ifB_dec]
      refine ⟨fun z => ?_, fun z => fin (((syncT s f).1, st), (syncT s f).2) _ (by unfold setS; rw [if_neg (by omega), e1, if_pos z]) h⟩
      refine h.st 1 rfl sc_bool (show 4 < 5 by omega) rfl fun w3 h => ?_
      exact hJ z _ h
    · have e1 : sure1 s st f = (s, 0) := by unfold sure1; rw [if_neg (fun hh => e3 hh.2)]
      have e2 : st1 st = st := by rw [idl, e, decide_eq_false e3]; obtain ⟨a, b, d⟩ := st; simp only at e; subst e; rfl
      refine hJ (by rw [e1]) _ ?_
      rw [e1, e2]
      exact h
end
end Go.Proofs.YtmkigdkhpdeaeaaDoor
