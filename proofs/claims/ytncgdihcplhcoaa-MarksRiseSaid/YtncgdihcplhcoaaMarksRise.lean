/-
  MarksRise: no mark and no common mark ever decreases; what is behind was idle. No condition.
-/
import Derived.Test.YtncgdihcplhcoaaMarksTree
import Derived.Test.YtncgdihcplhcoaaTypes
namespace Go.Proofs.Ytncgdihcplhcoaa
open Go.RowKit

/-! ### The plain law -/
structure Rise (n : Nat) (s : MarkS) (ws : List Bool) (some_ : Bool) : Prop where
  len : s.l.length = n
  wlen : ws.length = 50
  idle : ∀ k (h : k < s.l.length), s.l[k].idle = true → ws[k]? = some true
  late : ∀ k (h : k < s.l.length), s.l[k].mark < s.common → ws[k]? = some true
  quiet : some_ = false → (∀ x ∈ s.l, x.idle = false) ∧ s.common = lowest (s.l.map (·.mark))

def was (ws : List Bool) (n : Nat) (x : OpM) (e : Int) : List Bool := if e = 0 ∧ x.do_ % 4 = 2 ∧ 0 ≤ x.i ∧ x.i < n then ws.set x.i.toNat true else ws
def some' (b : Bool) (n : Nat) (x : OpM) (e : Int) : Bool := if e = 0 ∧ x.do_ % 4 = 2 ∧ 0 ≤ x.i ∧ x.i < n then true else b

theorem doOp_cases (s : MarkS) (x : OpM) : ((doOp s x).1 ≠ 0 ∧ (doOp s x).2 = s) ∨ ∃ (n : Nat) (hn : n < s.l.length) (y : Inp), (doOp s x).1 = 0 ∧ x.i = n ∧ (doOp s x).2 = upd s n y ∧ s.l[n].mark ≤ y.mark ∧ (y.idle = true ↔ x.do_ % 4 = 2) := by
  have hidle : ∀ on, ((idle s x.i on).1 ≠ 0 ∧ (idle s x.i on).2 = s) ∨ ∃ (n : Nat) (hn : n < s.l.length), (idle s x.i on).1 = 0 ∧ x.i = n ∧ (idle s x.i on).2 = upd s n ⟨s.l[n].mark, on⟩ := by
    intro on
    by_cases hh : has s x.i = true
    · obtain ⟨n, hx, hn⟩ := has_iff.1 hh
      right
      refine ⟨n, hn, ?_⟩
      rw [hx] at hh ⊢
      have e : inp s n = s.l[n] := by simp [inp, List.getD, hn]
      simp [idle, hh, e]
    · left
      simp [idle, hh]
  unfold doOp
  split
  · rename_i h2
    rcases hidle true with h | ⟨n, hn, h1, h2', h3⟩
    · exact .inl h
    · exact .inr ⟨n, hn, _, h1, h2', h3, Int.le_refl _, by simp [h2]⟩
  · rename_i h2
    split
    · rename_i h3
      rcases hidle false with h | ⟨n, hn, h1, h2', h3'⟩
      · exact .inl h
      · exact .inr ⟨n, hn, _, h1, h2', h3', Int.le_refl _, by simp [h3]⟩
    · by_cases he : (note s x.i x.mark).1 = 0
      · obtain ⟨n, hx, hn, hm⟩ := note_err he
        right
        rw [hx] at he ⊢
        refine ⟨n, hn, ⟨max x.mark s.l[n].mark, false⟩, he, rfl, by rw [note_ok hn hm], ?_, by simp [h2]⟩
        show _ ≤ max _ _
        omega
      · exact .inl ⟨he, note_same he⟩

theorem settled_cases (s : MarkS) : settled s = s.common ∨ (s.common ≤ settled s ∧ ∀ x ∈ s.l, x.idle = false → settled s ≤ x.mark) := by
  unfold settled
  split
  · exact .inl rfl
  · rename_i h
    rcases Int.le_total (lowest (alive s.l)) s.common with h1 | h1
    · left; omega
    · right
      refine ⟨by omega, fun x hx hi => ?_⟩
      obtain ⟨_, h2⟩ := lowest_spec h
      have := h2 x.mark (List.mem_map.2 ⟨x, List.mem_filter.2 ⟨hx, by simp [hi]⟩, rfl⟩)
      omega
theorem settled_ge (s : MarkS) : s.common ≤ settled s := by
  rcases settled_cases s with h | h
  · omega
  · exact h.1

theorem Rise.step {n : Nat} {s : MarkS} {ws : List Bool} {b : Bool} (h : Rise n s ws b) (hn : n ≤ 50) (x : OpM) : Rise n (doOp s x).2 (was ws n x (doOp s x).1) (some' b n x (doOp s x).1) ∧ s.common ≤ (doOp s x).2.common ∧
    ∀ k (hk : k < s.l.length) (hk' : k < (doOp s x).2.l.length), s.l[k].mark ≤ (doOp s x).2.l[k].mark := by
  rcases doOp_cases s x with ⟨h1, h2⟩ | ⟨m, hm, y, h1, h2, h3, h4, h5⟩
  · have e1 : was ws n x (doOp s x).1 = ws := by unfold was; rw [if_neg (by omega)]
    have e2 : some' b n x (doOp s x).1 = b := by unfold some'; rw [if_neg (by omega)]
    rw [e1, e2, h2]
    exact ⟨h, Int.le_refl _, fun k hk hk' => Int.le_refl _⟩
  · have hml : m < n := by rw [← h.len]; exact hm
    have hwlen : (was ws n x (doOp s x).1).length = 50 := by
      unfold was
      split
      · rw [List.length_set]; exact h.wlen
      · exact h.wlen
    have hold : ∀ k : Nat, ws[k]? = some true → (was ws n x (doOp s x).1)[k]? = some true := by
      intro k hk
      unfold was
      split
      · by_cases e : x.i.toNat = k
        · rw [e, List.getElem?_set_self (by rw [h.wlen]; omega)]
        · rw [List.getElem?_set_ne e]; exact hk
      · exact hk
    have hnew : y.idle = true → (was ws n x (doOp s x).1)[m]? = some true := by
      intro hy
      unfold was
      rw [if_pos ⟨h1, h5.1 hy, by omega, by omega⟩]
      have : x.i.toNat = m := by omega
      rw [this, List.getElem?_set_self (by rw [h.wlen]; omega)]
    rw [h3]
    have el : (upd s m y).l = s.l.set m y := by simp [upd]
    have ec : (upd s m y).common = settled ⟨s.l.set m y, s.common⟩ := by simp [upd]
    have hidle : ∀ k (hk : k < (s.l.set m y).length), (s.l.set m y)[k].idle = true → (was ws n x (doOp s x).1)[k]? = some true := by
      intro k hk hi
      rw [List.getElem_set] at hi
      split at hi
      · rename_i e
        subst e
        exact hnew hi
      · exact hold k (h.idle k (by simpa using hk) hi)
    have hmark : ∀ k (hk : k < s.l.length) (hk' : k < (s.l.set m y).length), s.l[k].mark ≤ (s.l.set m y)[k].mark := by
      intro k hk hk'
      rw [List.getElem_set]
      split
      · rename_i e
        subst e
        exact h4
      · exact Int.le_refl _
    have hge : s.common ≤ settled ⟨s.l.set m y, s.common⟩ := settled_ge ⟨s.l.set m y, s.common⟩
    refine ⟨⟨by rw [el, List.length_set]; exact h.len, hwlen, ?_, ?_, ?_⟩, by rw [ec]; exact hge, ?_⟩
    · simp only [el]
      exact hidle
    · simp only [el, ec]
      intro k hk hlt
      have hk0 : k < s.l.length := by simpa using hk
      rcases settled_cases ⟨s.l.set m y, s.common⟩ with hc | ⟨_, hc⟩
      · have hc : settled ⟨s.l.set m y, s.common⟩ = s.common := hc
        have := hmark k hk0 hk
        exact hold k (h.late k hk0 (by omega))
      · by_cases hi : (s.l.set m y)[k].idle = true
        · exact hidle k hk hi
        · have := hc _ (List.getElem_mem hk) (by simpa using hi)
          omega
    · intro hb
      unfold some' at hb
      split at hb
      · cases hb
      · rename_i hno
        obtain ⟨q1, q2⟩ := h.quiet hb
        have hy : y.idle = false := by
          cases e : y.idle with
          | false => rfl
          | true => exact absurd ⟨h1, h5.1 e, by omega, by omega⟩ hno
        have hall : ∀ z ∈ s.l.set m y, z.idle = false := by
          intro z hz
          rcases List.mem_or_eq_of_mem_set hz with hz | rfl
          · exact q1 z hz
          · exact hy
        simp only [el, ec]
        refine ⟨hall, ?_⟩
        unfold settled
        simp only
        rw [alive_all hall]
        have hne : (s.l.set m y).map (·.mark) ≠ [] := by
          intro e
          have := congrArg List.length e
          simp at this
          rw [this] at hm
          simp at hm
        rw [if_neg hne]
        obtain ⟨h6, _⟩ := lowest_spec hne
        have h7 : s.common ≤ lowest ((s.l.set m y).map (·.mark)) := by
          rw [q2]
          have hne0 : s.l.map (·.mark) ≠ [] := by
            intro e
            have := congrArg List.length e
            simp at this
            rw [this] at hm
            simp at hm
          obtain ⟨_, h8⟩ := lowest_spec hne0
          obtain ⟨z, hz, he⟩ := List.mem_map.1 h6
          rw [← he]
          rcases List.mem_or_eq_of_mem_set hz with hz | rfl
          · exact h8 _ (List.mem_map.2 ⟨z, hz, rfl⟩)
          · have := h8 _ (List.mem_map.2 ⟨s.l[m], List.getElem_mem hm, rfl⟩)
            omega
        omega
    · simp only [el]
      exact hmark

theorem fresh_l (n : Nat) (h : n ≤ 200) : (fresh n).l = List.replicate n ⟨-1, false⟩ := by
  show List.replicate _ _ = _
  congr 1
  omega
theorem TBs : sliceB Try.prog T_s_bool T_bool (Enc.sz Bool) 1 = true := by kernel_rfl

theorem marksRise_pt {W : World} {v2 : Value} {n0 : Int} {l : List OpM} (h2 : rowR v2 l (lawB W)) {K : Value → World → Prop}
    (fin : ∀ w' σ, Rel (lawB W) w' σ → K (.bool true) w') : erratalaw35_MarksRise.pt (.int .i64 n0) v2 W K := by
  unfold erratalaw35_MarksRise.pt
  refine small_r (lawB.start W) fun w1 h => ?_
  simp -zeta only [rowR.len h2 TO, bin_lss, bin_gtr, ifB_dec]
  refine ⟨fun _ => fin _ _ h, fun e1 => ⟨fun _ => fin _ _ h, fun e2 => ⟨fun _ => fin _ _ h, fun e3 => ?_⟩⟩⟩
  obtain ⟨n, rfl⟩ : ∃ n : Nat, n0 = n := ⟨n0.toNat, by omega⟩
  refine new_r h _ fun b w2 h => ?_
  simp -zeta only [bin_eql_ptr_nil UpM, ifB_false]
  refine count_r h 0 rfl ?_
  have hfl := fresh_l n (by omega)
  rw [hfl, List.length_replicate]
  simp -zeta only [bin_neq, decide_true, Bool.not_true, ifB_false]
  refine h.mkSlice (n := 50) (α := Bool) false TBs (by kernel_rfl) (by omega) (by omega) fun vb w3 h nvb => ?_
  refine h.mkSlice (n := 50) (α := Int) 0 TIs (by kernel_rfl) (by omega) (by omega) fun vi w4 h nvi => ?_
  obtain ⟨gb, cb, rfl⟩ := h.open_nn (i := 1) rfl nvb
  obtain ⟨gi, ci, rfl⟩ := h.open_nn (i := 2) rfl nvi
  rw [List.length_replicate, List.length_replicate] at h
  simp -zeta only [List.length_replicate]
  refine LOOP_intro (fun x w' => ∃ i : Nat, i ≤ n ∧ x = (.int .i64 i, ()) ∧ Rel (lawB W) w' [marksD b (fresh n), rowD T_bool (.slice (some ⟨gb, 0, none⟩) 50 cb) (List.replicate 50 false), rowD T_int (.slice (some ⟨gi, 0, none⟩) 50 ci) (List.replicate i (-1) ++ List.replicate (50 - i) (0 : Int))])
    (fun x _ => n - (match x.1 with | .int _ n => n.toNat | _ => 0)) ⟨0, Nat.zero_le _, rfl, by simpa using h⟩ ?_
  clear h
  rintro x w5 ⟨i, hi, rfl, h⟩ next hnext
  simp -zeta only [bin_lss, ifB_dec]
  refine ⟨fun hlt => ?_, fun hge => ?_⟩
  · simp -zeta only [idx_own (α := Int) TIs (show i < 50 by omega), bin_add]
    refine h.set_sc (α := Int) 2 rfl (-1) (j := i) (f := 0) (by simp; omega) rfl (by decide) rfl TI rfl fun w6 h => ?_
    rw [wrap_id (by omega) (by omega)]
    refine hnext _ _ ⟨i + 1, by omega, rfl, ?_⟩ (by simp only; omega)
    have e : (List.replicate i (-1) ++ List.replicate (50 - i) (0 : Int)).set i (-1) = List.replicate (i + 1) (-1) ++ List.replicate (50 - (i + 1)) 0 := by
      rw [List.set_append_right _ _ (by simp), List.length_replicate, Nat.sub_self, show 50 - i = (50 - (i + 1)) + 1 by omega, List.replicate_succ, List.set_cons_zero, List.replicate_succ']
      simp
    rw [← e]
    exact h
  · have : i = n := by omega
    subst this
    clear hnext
    have hrise : Rise i (fresh i) (List.replicate 50 false) false := by
      have hmem : ∀ x ∈ (fresh i).l, x = (⟨-1, false⟩ : Inp) := fun x hx => by rw [hfl] at hx; exact (List.mem_replicate.1 hx).2
      refine ⟨by rw [hfl, List.length_replicate], by simp, fun k hk hi => ?_, fun k hk hi => ?_, fun _ => ⟨fun x hx => by rw [hmem x hx], ?_⟩⟩
      · rw [hmem _ (List.getElem_mem hk)] at hi; cases hi
      · rw [hmem _ (List.getElem_mem hk)] at hi
        have : (-1 : Int) < -1 := hi
        omega
      · exact (fresh_good (n := (i : Int)) (by omega) (by omega)).1.low
    refine LOOP_intro (fun x w' => ∃ (j : Nat) (s : MarkS) (ws : List Bool) (bs : List Int) (sm : Bool), j ≤ l.length ∧ x = (.bool sm, .int .i64 s.common, .int .i64 j, ()) ∧ Rise i s ws sm ∧ bs.length = 50 ∧ bs.take i = s.l.map (·.mark) ∧
        Rel (lawB W) w' [marksD b s, rowD T_bool (.slice (some ⟨gb, 0, none⟩) 50 cb) ws, rowD T_int (.slice (some ⟨gi, 0, none⟩) 50 ci) bs])
      (fun x _ => l.length - (match x.2.2.1 with | .int _ n => n.toNat | _ => 0)) ⟨0, fresh i, _, _, false, Nat.zero_le _, rfl, hrise, by simp; omega, ?_, h⟩ ?_
    · rw [hfl, List.map_replicate]
      exact List.take_left' (by simp)
    clear h hrise
    rintro x w6 ⟨j, s, ws, bs, sm, hj, rfl, hrise, hbs, hbl, h⟩ next hnext
    simp -zeta only [rowR.len h2 TO, bin_lss, ifB_dec]
    refine ⟨fun hlt => ?_, fun _ => fin _ _ h⟩
    have hjl : j < l.length := by omega
    intro J1
    have hJ1 : ∀ w' (s : MarkS) (ws : List Bool) (bs : List Int) (sm : Bool), Rise i s ws sm → bs.length = 50 → bs.take i = s.l.map (·.mark) →
        Rel (lawB W) w' [marksD b s, rowD T_bool (.slice (some ⟨gb, 0, none⟩) 50 cb) ws, rowD T_int (.slice (some ⟨gi, 0, none⟩) 50 ci) bs] → J1 (.bool sm) (.int .i64 s.common) w' := by
      intro w' s ws bs sm h1 h2 h3 h4
      show pureK _ _ _
      rw [bin_add, wrap_id (by omega) (by omega)]
      exact hnext _ _ ⟨j + 1, s, ws, bs, sm, by omega, rfl, h1, h2, h3, h4⟩ (by simp only; omega)
    clear_value J1
    clear hnext
    obtain ⟨g, o, hx, hc⟩ := opAt h2 hjl
    generalize l[j] = op at hc
    simp -zeta only [hx, cellsR.ldAg (h.hereB hc) TOag rfl]
    refine h.allocAg (n := 3) TOz rfl TOag rfl ?_ fun bo w7 h => ?_
    · intro v hv
      simp only [List.mem_cons, List.not_mem_nil, or_false] at hv
      rcases hv with rfl | rfl | rfl <;> rfl
    simp -zeta only [h.ldAg 3 rfl TOag rfl]
    refine do_r h 0 rfl op fun w8 h => ?_
    replace h : Rel (lawB W) w8 [marksD b (doOp s op).2, rowD T_bool (.slice (some ⟨gb, 0, none⟩) 50 cb) ws, rowD T_int (.slice (some ⟨gi, 0, none⟩) 50 ci) bs, cellD bo T_erratalaw35_Op #[.int .i64 op.do_, .int .i64 op.i, .int .i64 op.mark]] := h
    obtain ⟨hr', hcm, hmk⟩ := hrise.step (by omega) op
    intro J2
    have hJ2 : ∀ w', Rel (lawB W) w' [marksD b (doOp s op).2, rowD T_bool (.slice (some ⟨gb, 0, none⟩) 50 cb) (was ws i op (doOp s op).1), rowD T_int (.slice (some ⟨gi, 0, none⟩) 50 ci) bs] → J2 (.bool (some' sm i op (doOp s op).1)) w' := by
      clear h
      generalize was ws i op (doOp s op).1 = ws' at hr' ⊢
      generalize some' sm i op (doOp s op).1 = sm' at hr' ⊢
      generalize (doOp s op).2 = s' at hr' hcm hmk ⊢
      have hl0 := hrise.len
      clear hrise
      intro w' h
      show upK _ _ _ _
      have hlen := hr'.len
      have hof : ∀ k : Nat, k < i → has s' k = true := fun k hk => has_iff.2 ⟨k, rfl, by omega⟩
      have hinp : ∀ (k : Nat) (hk : k < i), (inp s' k).mark = (s'.l.map (·.mark))[k]'(by simp; omega) := fun k hk => by simp [inp, List.getD, show k < s'.l.length by omega]
      refine of_r h 0 rfl 0 fun w9 h => ?_
      have h00 : has s' 0 = true := hof 0 (by omega)
      have hi0 := hinp 0 (by omega)
      have hi0 : (inp s' 0).mark = (s'.l.map (·.mark))[0]'(by simp; omega) := hi0
      simp -zeta only [h00, if_true, hi0, ext_2_0, ext_2_1]
      refine LOOP_intro (fun x w' => ∃ (k : Nat) (low : Int), k ≤ i ∧ x = (.int .i64 low, .int .i64 k, ()) ∧ low ∈ s'.l.map (·.mark) ∧ (∀ q (hq : q < (s'.l.map (·.mark)).length), q < k → low ≤ (s'.l.map (·.mark))[q]) ∧
          Rel (lawB W) w' [marksD b s', rowD T_bool (.slice (some ⟨gb, 0, none⟩) 50 cb) ws', rowD T_int (.slice (some ⟨gi, 0, none⟩) 50 ci) ((s'.l.map (·.mark)).take k ++ bs.drop k)])
        (fun x _ => i - (match x.2.1 with | .int _ n => n.toNat | _ => 0)) ⟨0, _, Nat.zero_le _, rfl, List.getElem_mem _, fun q _ hq => absurd hq (Nat.not_lt_zero q), by simpa using h⟩ ?_
      clear h
      rintro x w10 ⟨k, low, hk, rfl, hlow, hle, h⟩ next hnext
      simp -zeta only [bin_lss, ifB_dec]
      have hml : (s'.l.map (·.mark)).length = i := by simp [hlen]
      have hrow : ((s'.l.map (·.mark)).take k ++ bs.drop k).length = 50 := by simp; omega
      refine ⟨fun hlt => ?_, fun hge => ?_⟩
      · have hki : k < i := by omega
        refine of_r h 0 rfl k fun w11 h => ?_
        simp -zeta only [hof k hki, if_true, hinp k hki, ext_2_0, ext_2_1]
        intro J3
        have hJ3 : ∀ w', Rel (lawB W) w' [marksD b s', rowD T_bool (.slice (some ⟨gb, 0, none⟩) 50 cb) ws', rowD T_int (.slice (some ⟨gi, 0, none⟩) 50 ci) ((s'.l.map (·.mark)).take k ++ bs.drop k)] → J3 w' := by
          clear h
          intro w' h
          show pureK _ _ _
          simp -zeta only [idx_own (α := Int) TIs (show k < 50 by omega), blt_min, bin_add]
          refine h.set_sc (α := Int) 2 rfl ((s'.l.map (·.mark))[k]'(by omega)) (j := k) (f := 0) (by omega) rfl (by decide) rfl TI rfl fun w12 h => ?_
          rw [wrap_id (by omega) (by omega)]
          refine hnext _ _ ⟨k + 1, _, by omega, rfl, ?_, ?_, ?_⟩ (by simp only; omega)
          · rcases Int.le_total low ((s'.l.map (·.mark))[k]'(by omega)) with hh | hh
            · rw [show min low ((s'.l.map (·.mark))[k]'(by omega)) = low by omega]; exact hlow
            · rw [show min low ((s'.l.map (·.mark))[k]'(by omega)) = (s'.l.map (·.mark))[k]'(by omega) by omega]; exact List.getElem_mem _
          · intro q hq hqk
            rcases Nat.lt_succ_iff_lt_or_eq.1 hqk with hh | rfl
            · have := hle q hq hh; omega
            · omega
          · have e : ((s'.l.map (·.mark)).take k ++ bs.drop k).set k ((s'.l.map (·.mark))[k]'(by omega)) = (s'.l.map (·.mark)).take (k + 1) ++ bs.drop (k + 1) := by
              have e0 : k - ((s'.l.map (·.mark)).take k).length = 0 := by simp; omega
              rw [List.set_append_right _ _ (by simp; omega), e0, List.take_succ_eq_append_getElem (by omega), List.drop_eq_getElem_cons (by omega), List.set_cons_zero, List.append_assoc]
              rfl
            rw [← e]
            exact h
        clear_value J3
        have hel := h.elem (α := Int) (j := k) (i := 2) rfl (by omega)
        have hbk : ((s'.l.map (·.mark)).take k ++ bs.drop k)[k]'(by omega) = (s.l.map (·.mark))[k]'(by simp; omega) := by
          rw [List.getElem_append_right (by simp; omega)]
          have e0 : k - ((s'.l.map (·.mark)).take k).length = 0 := by simp; omega
          simp only [e0, List.getElem_drop, Nat.add_zero]
          have e1 : bs[k]? = (s.l.map (·.mark))[k]? := by rw [← hbl, List.getElem?_take, if_pos hki]
          rw [List.getElem?_eq_getElem (by omega), List.getElem?_eq_getElem (by simp; omega)] at e1
          exact Option.some.inj e1
        have hmk' := hmk k (by omega) (by omega)
        have e5 : (s'.l.map (·.mark))[k]'(by omega) = (s'.l[k]'(by omega)).mark := by simp
        have e6 : (s.l.map (·.mark))[k]'(by simp; omega) = (s.l[k]'(by omega)).mark := by simp
        rw [hbk, e6] at hel
        simp -zeta only [idx_own (α := Int) TIs (show k < 50 by omega), cellsR.ld0 hel TI rfl, bin_lss, ifB_dec, e5]
        refine ⟨fun e => absurd e (by omega), fun _ => mark_r h 0 rfl ?_⟩
        simp -zeta only [bin_add, bin_sub, bin_mul, bin_lss, bin_leq, bin_gtr, bin_geq, bin_eql, bin_neq, bin_and, bin_or, un_not, blt_min, blt_max, ifB_not, ifB_dec, ifB_true, ifB_false, ext_2_0, ext_2_1, ext_3_0, ext_3_1, ext_3_2, decide_true, decide_false, Bool.not_true, Bool.not_false, nil_ptr]
        refine ⟨fun elt => ?_, fun _ => hJ3 _ h⟩
        have hwk := hr'.late k (by omega) elt
        have hwl := hr'.wlen
        have helb := h.elem (α := Bool) (j := k) (i := 1) rfl (by omega)
        have hwk' : ws'[k]'(by omega) = true := by
          rw [List.getElem?_eq_getElem (by omega)] at hwk
          exact Option.some.inj hwk
        rw [hwk'] at helb
        simp -zeta only [idx_own (α := Bool) TBs (show k < 50 by omega), cellsR.ld0 helb TB rfl, un_not, Bool.not_true, ifB_false]
        exact hJ3 _ h
      · have hcur := h
        have hki : k = i := by omega
        subst hki
        replace h := hcur
        clear hnext
        have elow : lowest (s'.l.map (·.mark)) = low := lowest_eq hlow fun y hy => by
          obtain ⟨q, hq, rfl⟩ := List.getElem_of_mem hy
          exact hle q hq (by omega)
        intro J4
        have hJ4 : J4 w10 := by
          show upK _ _ _ _
          refine mark_r h 0 rfl ?_
          refine hJ1 _ s' ws' _ sm' hr' hrow ?_ h
          rw [List.take_append_of_le_length (by simp; omega), List.take_take, Nat.min_self, List.take_of_length_le (by omega)]
        clear_value J4
        refine mark_r h 0 rfl ?_
        simp -zeta only [bin_add, bin_sub, bin_mul, bin_lss, bin_leq, bin_gtr, bin_geq, bin_eql, bin_neq, bin_and, bin_or, un_not, blt_min, blt_max, ifB_not, ifB_dec, ifB_true, ifB_false, ext_2_0, ext_2_1, ext_3_0, ext_3_1, ext_3_2, decide_true, decide_false, Bool.not_true, Bool.not_false, nil_ptr]
        refine ⟨fun e => absurd e (by omega), fun _ => ?_⟩
        rw [ifB_bool]
        refine ⟨fun _ => hJ4, fun e => mark_r h 0 rfl ?_⟩
        have := (hr'.quiet e).2
        rw [this, elow]
        simp -zeta only [bin_neq, decide_true, Bool.not_true, ifB_false]
        exact hJ4
    clear_value J2
    simp -zeta only [bin_eql, ifB_dec]
    have hsame : ¬ ((doOp s op).1 = 0 ∧ op.do_ % 4 = 2 ∧ 0 ≤ op.i ∧ op.i < i) → J2 (.bool sm) w8 := by
      intro e
      have e1 : was ws i op (doOp s op).1 = ws := by unfold was; rw [if_neg e]
      have e2 : some' sm i op (doOp s op).1 = sm := by unfold some'; rw [if_neg e]
      rw [e1, e2] at hJ2
      exact hJ2 _ (h.take 3)
    have f0 : readK Try.prog (sLoad T_int (.pointer (some ⟨bo, 0, none⟩))) w8 = fun Kp => Kp (.int .i64 op.do_) := by funext Kp; exact h.ld 3 rfl TI (o := 0) rfl
    have f1 : readK Try.prog (sLoad T_int (.pointer (some ⟨bo, 1, none⟩))) w8 = fun Kp => Kp (.int .i64 op.i) := by funext Kp; exact h.ld 3 rfl TI (o := 1) rfl
    refine ⟨fun ok => ?_, fun bad => hsame fun e => bad e.1⟩
    simp -zeta only [field_addr TO0, field_addr TO1, Nat.zero_add, f0, f1, bin_and, and3, bin_geq, bin_lss, bin_eql, ifB_dec]
    refine ⟨fun e1 => ⟨fun e2 => ⟨fun e3 => ?_, fun bad => hsame fun e => bad e.2.2.2⟩, fun bad => hsame fun e => bad e.2.2.1⟩, fun bad => hsame fun e => bad e.2.1⟩
    obtain ⟨q, hq⟩ : ∃ q : Nat, op.i = q := ⟨op.i.toNat, by omega⟩
    have e1' : was ws i op (doOp s op).1 = ws.set q true := by unfold was; rw [if_pos ⟨ok, e1, e2, e3⟩, hq]; rfl
    have e2' : some' sm i op (doOp s op).1 = true := by unfold some'; rw [if_pos ⟨ok, e1, e2, e3⟩]
    rw [e1', e2'] at hJ2
    have hwl := hrise.wlen
    rw [hq]
    simp -zeta only [idx_own (α := Bool) TBs (show q < 50 by omega)]
    exact h.set_sc (α := Bool) 1 rfl true (j := q) (f := 0) (by omega) rfl (by decide) rfl TB rfl fun w9 h => hJ2 _ (h.take 3)

end Go.Proofs.Ytncgdihcplhcoaa
