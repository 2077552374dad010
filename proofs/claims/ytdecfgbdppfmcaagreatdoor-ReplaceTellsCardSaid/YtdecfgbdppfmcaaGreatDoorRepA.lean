/-
  Replacements and timelines: what the small functions of packages replace and timeline do. No condition.
-/
import Derived.Test.YtdecfgbdppfmcaaGreatDoorLib
namespace Go.Proofs.YtdecfgbdppfmcaaGreatDoor
open Go.RowKit
set_option maxRecDepth 100000

abbrev Rpl := D_api_Replacement
abbrev Seg := D_api_Seg

section
variable {B : Base}
def within (n a b : Int) : Bool := decide (a ≤ n) && decide (n ≤ b)
theorem within_g (n a b : Int) : Gives Tryz.prog B (sCall F_replace_within #[.int .i64 n, .int .i64 a, .int .i64 b]) (.bool (within n a b)) := by
  refine Gives.intro fun B' w K base h k => ?_
  refine replace_within.up (replace_within.call ?_)
  unfold replace_within.pt
  simp -zeta only [bin_geq, bin_leq, ifB_dec]
  refine ⟨fun e => ?_, fun e => ?_⟩
  · have : within n a b = decide (n ≤ b) := by unfold within; rw [decide_eq_true e]; rfl
    rw [this] at k
    exact k _ _ h
  · have : within n a b = false := by unfold within; rw [decide_eq_false e]; rfl
    rw [this] at k
    exact k _ _ h

def openR (r : Rpl) : Bool := decide (r.state = 0) || (decide (r.state = 1) || decide (r.state = 2))
theorem open_g (r : Rpl) : Gives Tryz.prog B (sCall F_replace_open #[r.v]) (.bool (openR r)) := by
  refine Gives.intro fun B' w K base h k => ?_
  refine replace_open.up (replace_open.call ?_)
  unfold replace_open.pt
  refine h.box fun b w1 h => ?_
  replace h : Rel B' w1 [cellD b T_api_Replacement r.cs.toArray] := by
    have e1 : (r.v : Value).cells = r.cs.toArray := Enc.cells_val r
    have h : Rel B' w1 [cellD b T_api_Replacement r.v.cells] := h
    rw [e1] at h
    exact h
  simp -zeta only [field_addr f_api_Replacement_4, Nat.zero_add, h.ld 0 rfl sc_int (o := 4) rfl, bin_eql, ifB_dec]
  have kk := fun b (hb : openR r = b) => (show K (.bool b) w1 by rw [← hb]; exact k _ _ h)
  refine ⟨fun e => kk _ (by unfold openR; rw [decide_eq_true (p := r.state = 0) e]; rfl), fun e => ⟨fun e2 => kk _ (by unfold openR; rw [decide_eq_true (p := r.state = 1) e2]; simp), fun e2 => kk _ (by unfold openR; rw [decide_eq_false (p := r.state = 0) e, decide_eq_false (p := r.state = 1) e2]; rfl)⟩⟩
theorem openV_g (r : Rpl) : Gives Tryz.prog B (sCallV (.func (.func F_replace_open) #[] #[]) #[r.v]) (.bool (openR r)) := fun w σ K h k => call_v (open_g r w σ K h k)

def zeroR : Rpl := ⟨0, 0, 0, 0, 0, 0⟩
def firstR (l : List Rpl) : Rpl × Bool := match l.find? openR with
  | some r => (r, true)
  | none => (zeroR, false)
theorem firstR_none {l : List Rpl} (h : ∀ x ∈ l, openR x = false) : firstR l = (zeroR, false) := by
  unfold firstR
  rw [List.find?_eq_none.2 fun x hx => by simp [h x hx]]
theorem firstR_at {l : List Rpl} {i : Nat} (hi : i < l.length) (h : openR l[i] = true) (hno : ∀ x ∈ l.take i, openR x = false) : firstR l = (l[i], true) := by
  unfold firstR
  have : l.find? openR = some l[i] := by
    rw [List.find?_eq_some_iff_append]
    refine ⟨h, l.take i, l.drop (i + 1), ?_, fun x hx => by simp [hno x hx]⟩
    rw [← List.drop_eq_getElem_cons hi, List.take_append_drop]
  rw [this]
theorem idx_cases (p : Rpl → Bool) (l : List Rpl) : (idxP p l = -1 ∧ ∀ x ∈ l, p x = false) ∨ ∃ i : Nat, idxP p l = i ∧ ∃ hi : i < l.length, p l[i] = true ∧ ∀ x ∈ l.take i, p x = false := by
  unfold idxP
  split
  · rename_i i hi
    obtain ⟨h1, h2, h3⟩ := List.findIdx?_eq_some_iff_getElem.1 hi
    refine .inr ⟨i, rfl, h1, h2, fun x hx => ?_⟩
    obtain ⟨j, hj, rfl⟩ := List.getElem_of_mem hx
    have := h3 j (by simp at hj; omega)
    simp at this ⊢
    exact this
  · rename_i h
    exact .inl ⟨rfl, List.findIdx?_eq_none_iff.1 h⟩

theorem first_g {v : Value} {l : List Rpl} (r : rowR v l B) (hl : l.length ≤ 1000000) : Gives Tryz.prog B (sCall F_replace_first #[v]) (.tuple #[(firstR l).1.v, .bool (firstR l).2]) := by
  refine Gives.intro fun B' w K base h k => ?_
  replace r := base r
  refine replace_first.up (replace_first.call ?_)
  unfold replace_first.pt
  refine h.alloc z_api_Replacement fun b w1 h => ?_
  refine h.ask (fun B2 own base2 => gslices_IndexFunc_s_api_Replacement_api_Replacement (base2 r) (by omega) openR fun B3 _ x _ => openV_g x) fun w2 h => ?_
  simp -zeta only [bin_lss, ifB_dec]
  refine ⟨fun e => ?_, fun e => ?_⟩
  · have hno := (idxP_lt (p := openR) (l := l)).1.1 e
    rw [firstR_none hno] at k
    rw [bd_api_Replacement_]
    refine h.stAg 0 rfl ag_api_Replacement rfl (by decide) (fun v hv => Enc.one zeroR v hv) fun w3 h => ?_
    rw [rv_ag h 0 rfl ag_api_Replacement rfl]
    exact k _ _ h
  · rcases idx_cases openR l with ⟨h1, _⟩ | ⟨i, h1, hi, h2, h3⟩
    · omega
    · rw [firstR_at hi h2 h3] at k
      obtain ⟨g, o, hx, hc⟩ := rowR.idx r sl_s_api_Replacement hi
      simp -zeta only [h1, hx, cellsR.ldAg (h.hereB hc) ag_api_Replacement rfl]
      refine h.stAg (ds := l[i].cs.toArray) 0 rfl ag_api_Replacement rfl (by decide) (fun v hv => Enc.one l[i] v hv) fun w3 h => ?_
      rw [rv_ag h 0 rfl ag_api_Replacement rfl]
      exact k _ _ h

theorem open1_g (r : Rpl) : Gives Tryz.prog B (sCallV (.func (.func F_replace_Open_1) #[] #[]) #[r.v]) (.bool (!openR r)) := by
  refine Gives.intro fun B' w K base h k => ?_
  refine call_v ?_
  show upK _ (sCall _ #[r.v]) _ _
  refine replace_Open_1.up (replace_Open_1.call ?_)
  unfold replace_Open_1.pt
  refine h.box fun b w1 h => ?_
  replace h : Rel B' w1 [cellD b T_api_Replacement r.cs.toArray] := by
    have e1 : (r.v : Value).cells = r.cs.toArray := Enc.cells_val r
    have h : Rel B' w1 [cellD b T_api_Replacement r.v.cells] := h
    rw [e1] at h
    exact h
  rw [h.ldAg 0 rfl ag_api_Replacement rfl]
  refine h.ask (fun _ _ _ => open_g r) fun w2 h => ?_
  rw [un_not]
  exact k _ _ h
theorem Open_m {v : Value} {l : List Rpl} (r : rowR v l B) (hl : l.length ≤ 1000000) : Makes Tryz.prog B (sCall F_replace_Open #[v]) fun u τ => τ = [rowD T_api_Replacement u (l.filter openR)] := by
  refine Makes.intro fun B' w K base h k => ?_
  replace r := base r
  refine replace_Open.up (replace_Open.call ?_)
  unfold replace_Open.pt
  refine h.make (fun B2 own base2 => gslices_Clone_s_api_Replacement_api_Replacement (base2 r) (by omega) (by omega)) fun u τ w1 hp h => ?_
  subst hp
  refine h.act 0 rfl (fun B2 own base2 => dslices_DeleteFunc_s_api_Replacement_api_Replacement (by omega) (fun x => !openR x) fun B3 _ x _ => open1_g x) fun u2 e' τ w2 hp h => ?_
  obtain ⟨rfl, rfl⟩ := hp
  have : (l.filter fun x => !!openR x) = l.filter openR := by simp
  rw [this] at h
  exact k _ _ _ rfl h

/-! ### Timelines -/
/-- sort.Search -/
theorem search_g {n r : Nat} {f : Value} (p : Nat → Bool) (h1 : ∀ i, i < r → p i = false) (h2 : ∀ i, r ≤ i → i < n → p i = true) (hr : r ≤ n) (hn : n ≤ 1000000)
    (hf : ∀ B' : Base, (∀ {d : Dat}, d B → d B') → ∀ i : Nat, i < n → Gives Tryz.prog B' (sCallV f #[.int .i64 i]) (.bool (p i))) : Gives Tryz.prog B (sCall F_sort_Search #[.int .i64 n, f]) (.int .i64 r) := by
  refine Gives.intro fun B' w K base h k => ?_
  refine sort_Search.up (sort_Search.call ?_)
  unfold sort_Search.pt
  refine LETJ_intro fun J hJ => ?_
  refine LOOP_intro (fun x w' => ∃ i j : Nat, i ≤ r ∧ r ≤ j ∧ j ≤ n ∧ x = (.int .i64 i, .int .i64 j, ()) ∧ Rel B' w' []) (fun x _ => (match x.2.1 with | .int _ n => n.toNat | _ => 0) - (match x.1 with | .int _ n => n.toNat | _ => 0)) ⟨0, n, Nat.zero_le _, hr, Nat.le_refl _, rfl, h⟩ ?_
  clear h
  rintro x w1 ⟨i, j, hi, hj, hjn, rfl, h⟩ next hnext
  simp -zeta only [bin_lss, ifB_dec]
  refine ⟨fun hlt => ?_, fun hge => ?_⟩
  · simp -zeta only [bin_add]
    rw [wrap_id (by omega) (by omega), conv_int U_int U_uint, IntWalk.u64_in _ ⟨by omega, by omega⟩, bin_shr (by omega)]
    have e2 : ((i : Int) + j).fdiv (2 ^ min (Int.toNat 1) (IntKind.bits .u64)) = (((i + j) / 2 : Nat) : Int) := by
      have : (2 : Int) ^ min (Int.toNat 1) (IntKind.bits .u64) = 2 := by decide
      rw [this, Int.fdiv_eq_ediv_of_nonneg _ (by omega)]
      omega
    rw [e2, conv_int U_uint U_int, wrap_id (by omega) (by omega)]
    refine h.ask (fun B2 own base2 => hf B2 (fun hd => base2 (base hd)) ((i + j) / 2) (by omega)) fun w2 h => ?_
    rw [un_not, ifB_not, ifB_bool]
    refine ⟨fun e => ?_, fun e => ?_⟩
    · refine hnext _ _ ⟨i, (i + j) / 2, hi, ?_, by omega, rfl, h⟩ (by simp only; omega)
      refine Nat.le_of_not_lt fun hlt => ?_
      rw [h1 _ hlt] at e
      cases e
    · rw [bin_add, wrap_id (by omega) (by omega)]
      refine hnext _ _ ⟨(i + j) / 2 + 1, j, ?_, hj, hjn, rfl, h⟩ (by simp only; omega)
      refine Nat.lt_of_not_le fun hle => ?_
      rw [h2 _ hle (by omega)] at e
      cases e
  · have : i = r := by omega
    subst this
    exact hJ _ _ (k _ _ h)

/-- A timeline in order. -/
def Sorted (t : List Seg) : Prop := t.Pairwise fun a b => a.from_ < b.from_
def behindS (t : List Seg) (time : Int) : Nat := (t.takeWhile fun s => decide (s.from_ ≤ time)).length
theorem behindS_le (t : List Seg) (time : Int) : behindS t time ≤ t.length := by
  unfold behindS
  exact (List.takeWhile_prefix _).length_le
theorem behindS_cons (a : Seg) (t : List Seg) (time : Int) : behindS (a :: t) time = if a.from_ ≤ time then behindS t time + 1 else 0 := by
  unfold behindS
  by_cases h : a.from_ ≤ time
  · rw [List.takeWhile_cons_of_pos (by simpa using h), if_pos h]; rfl
  · rw [List.takeWhile_cons_of_neg (by simpa using h), if_neg h]; rfl
theorem behindS_lt {t : List Seg} {time : Int} {i : Nat} (hi : i < behindS t time) : ∃ hi : i < t.length, t[i].from_ ≤ time := by
  induction t generalizing i with
  | nil => simp [behindS] at hi
  | cons a t ih =>
    rw [behindS_cons] at hi
    split at hi
    · rename_i ha
      cases i with
      | zero => exact ⟨by simp, ha⟩
      | succ i =>
        obtain ⟨h1, h2⟩ := ih (i := i) (by omega)
        exact ⟨by simpa using h1, by simpa using h2⟩
    · omega
theorem behindS_ge {t : List Seg} (ht : Sorted t) {time : Int} {i : Nat} (hb : behindS t time ≤ i) (hi : i < t.length) : time < t[i].from_ := by
  induction t generalizing i with
  | nil => simp at hi
  | cons a t ih =>
    unfold Sorted at ht
    rw [List.pairwise_cons] at ht
    obtain ⟨h1, h2⟩ := ht
    by_cases ha : a.from_ ≤ time
    · have e : behindS (a :: t) time = behindS t time + 1 := by
        unfold behindS
        rw [List.takeWhile_cons_of_pos (by simpa using ha)]
        rfl
      cases i with
      | zero => omega
      | succ i => exact ih h2 (by omega) (by simpa using hi)
    · cases i with
      | zero => simp; omega
      | succ i =>
        have := h1 (t[i]'(by simpa using hi)) (List.getElem_mem _)
        simp
        omega

theorem behind1_g {tb lb : Nat} {v : Value} {t : List Seg} {time : Int} (hc : cellD lb T_s_api_Seg #[v] B) (hc2 : cellD tb T_int #[.int .i64 time] B) (r : rowR v t B) {i : Nat} (hi : i < t.length) :
    Gives Tryz.prog B (sCallV (.func (.func F_timeline_behind_1) #[] #[ptr lb, ptr tb]) #[.int .i64 i]) (.bool (decide (time < t[i].from_))) := by
  refine Gives.intro fun B' w K base h k => ?_
  replace r := base r
  refine call_v ?_
  show upK _ (sCall _ #[.int .i64 i, ptr lb, ptr tb]) _ _
  refine timeline_behind_1.up (timeline_behind_1.call ?_)
  unfold timeline_behind_1.pt
  have h := h.tick
  obtain ⟨g, o, hx, hcx⟩ := rowR.idx r sl_s_api_Seg hi
  simp -zeta only [cellD.ld (h.hereB (base hc)) sc_s_api_Seg (o := 0) rfl, hx, field_addr f_api_Seg_0, Nat.add_zero, cellsR.ld0 (h.hereB hcx) sc_int rfl, cellD.ld (h.hereB (base hc2)) sc_int (o := 0) rfl, bin_gtr]
  exact k _ _ h
theorem behind_g {v : Value} {t : List Seg} (r : rowR v t B) (hs : Sorted t) (hl : t.length ≤ 1000000) (time : Int) : Gives Tryz.prog B (sCall F_timeline_behind #[v, .int .i64 time]) (.int .i64 (behindS t time)) := by
  refine Gives.intro fun B' w K base h k => ?_
  replace r := base r
  refine timeline_behind.up (timeline_behind.call ?_)
  unfold timeline_behind.pt
  have hv : v.oneCell' = true := rowR.oneCell r
  have hcv : v.cells = #[v] := by cases v <;> first | rfl | cases hv
  refine h.box fun lb w1 h => ?_
  refine h.box fun tb w2 h => ?_
  replace h : Rel B' w2 [cellD lb T_s_api_Seg #[v], cellD tb T_int #[.int .i64 time]] := by rw [← hcv]; exact h
  simp -zeta only [h.ld 0 rfl sc_s_api_Seg (o := 0) rfl, rowR.len r sl_s_api_Seg, mk_func]
  refine h.ask (fun B2 own base2 => search_g (fun i => if hi : i < t.length then decide (time < t[i].from_) else false) (fun i hi => ?_) (fun i h1 h2 => ?_) (behindS_le t time) hl fun B3 base3 i hi => ?_) fun w3 h => k _ _ h
  · obtain ⟨h1, h2⟩ := behindS_lt hi
    simp only [h1, dif_pos]
    exact decide_eq_false (by omega)
  · simp only [h2, dif_pos]
    exact decide_eq_true (behindS_ge hs h1 h2)
  · simp only [hi, dif_pos]
    exact behind1_g (base3 (own (i := 0) rfl)) (base3 (own (i := 1) rfl)) (base3 (base2 r)) hi

def atS (t : List Seg) (time : Int) : Int := (t.getD (max (behindS t time) 1 - 1) ⟨0, 0⟩).version
theorem At_g {v : Value} {t : List Seg} (r : rowR v t B) (hs : Sorted t) (hne : t ≠ []) (hl : t.length ≤ 1000000) (time : Int) : Gives Tryz.prog B (sCall F_timeline_At #[v, .int .i64 time]) (.int .i64 (atS t time)) := by
  refine Gives.intro fun B' w K base h k => ?_
  replace r := base r
  refine timeline_At.up (timeline_At.call ?_)
  unfold timeline_At.pt
  have hlen : 0 < t.length := List.length_pos_iff.2 hne
  have hb := behindS_le t time
  refine h.ask (fun B2 own base2 => behind_g (base2 r) hs hl time) fun w1 h => ?_
  have hi : max (behindS t time) 1 - 1 < t.length := by omega
  obtain ⟨g, o, hx, hc⟩ := rowR.idx r sl_s_api_Seg hi
  simp -zeta only [blt_max, bin_sub]
  rw [wrap_id (by omega) (by omega), show max (behindS t time : Int) 1 - 1 = ((max (behindS t time) 1 - 1 : Nat) : Int) by omega]
  simp -zeta only [hx, field_addr f_api_Seg_1, cellsR.ld (h.hereB hc) sc_int (j := 1) rfl]
  have : atS t time = (t[max (behindS t time) 1 - 1]).version := by
    unfold atS
    rw [List.getD_eq_getElem?_getD, List.getElem?_eq_getElem hi]
    rfl
  rw [this] at k
  exact k _ _ h
end
end Go.Proofs.YtdecfgbdppfmcaaGreatDoor
