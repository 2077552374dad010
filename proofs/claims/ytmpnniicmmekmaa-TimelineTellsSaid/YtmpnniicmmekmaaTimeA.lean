/-
  Timelines: what the small functions of package timeline do, and what stays right. No condition.
-/
import Derived.Test.YtmpnniicmmekmaaLib
namespace Go.Proofs.Ytmpnniicmmekmaa
open Go.RowKit

abbrev Seg := D_api_Seg

section
variable {B : Base}
/-- sort.Search -/
theorem search_g {n r : Nat} {f : Value} (p : Nat → Bool) (h1 : ∀ i, i < r → p i = false) (h2 : ∀ i, r ≤ i → i < n → p i = true) (hr : r ≤ n) (hn : n ≤ 1000000)
    (hf : ∀ B' : Base, (∀ {d : Dat}, d B → d B') → ∀ i : Nat, i < n → Gives Try.prog B' (sCallV f #[.int .i64 i]) (.bool (p i))) : Gives Try.prog B (sCall F_sort_Search #[.int .i64 n, f]) (.int .i64 r) := by
  refine Gives.intro fun B' w K base h k => ?_
  refine sort_Search.up (sort_Search.call ?_)
  unfold sort_Search.pt
  refine LETJ_intro fun J hJ => ?_
  refine LOOP_intro (fun x w' => ∃ i j : Nat, i ≤ r ∧ r ≤ j ∧ j ≤ n ∧ x = (.int .i64 i, .int .i64 j, ()) ∧ Rel B' w' []) (fun x _ => (match x.2.1 with | .int _ n => n.toNat | _ => 0) - (match x.1 with | .int _ n => n.toNat | _ => 0)) ⟨0, n, Nat.zero_le _, hr, Nat.le_refl _, rfl, h⟩ ?_
  clear h
  rintro x w1 ⟨i, j, hi, hj, hjn, rfl, h⟩ next hnext
  simp -zeta only [bin_lss, ifB_dec]
  refine ⟨fun hlt => ?_, fun hge => ?_⟩
  · simp -zeta only [bin_add]
    rw [wrap_id (by omega) (by omega), conv_int U_int U_uint, IntWalk.u64_in _ ⟨by omega, by omega⟩, bin_shr (by omega)]
    have e2 : ((i : Int) + j).fdiv (2 ^ min (Int.toNat 1) (IntKind.bits .u64)) = (((i + j) / 2 : Nat) : Int) := by
      have : (2 : Int) ^ min (Int.toNat 1) (IntKind.bits .u64) = 2 := by decide
      rw [this, Int.fdiv_eq_ediv_of_nonneg _ (by omega)]
      omega
    rw [e2, conv_int U_uint U_int, wrap_id (by omega) (by omega)]
    refine h.ask (fun B2 own base2 => hf B2 (fun hd => base2 (base hd)) ((i + j) / 2) (by omega)) fun w2 h => ?_
    rw [un_not, ifB_not, ifB_bool]
    refine ⟨fun e => ?_, fun e => ?_⟩
    · refine hnext _ _ ⟨i, (i + j) / 2, hi, ?_, by omega, rfl, h⟩ (by simp only; omega)
      refine Nat.le_of_not_lt fun hlt => ?_
      rw [h1 _ hlt] at e
      cases e
    · rw [bin_add, wrap_id (by omega) (by omega)]
      refine hnext _ _ ⟨(i + j) / 2 + 1, j, ?_, hj, hjn, rfl, h⟩ (by simp only; omega)
      refine Nat.lt_of_not_le fun hle => ?_
      rw [h2 _ hle (by omega)] at e
      cases e
  · have : i = r := by omega
    subst this
    exact hJ _ _ (k _ _ h)

/-- A timeline in order. -/
def Sorted (t : List Seg) : Prop := t.Pairwise fun a b => a.from_ < b.from_
def behindS (t : List Seg) (time : Int) : Nat := (t.takeWhile fun s => decide (s.from_ ≤ time)).length
theorem behindS_le (t : List Seg) (time : Int) : behindS t time ≤ t.length := by
  unfold behindS
  exact (List.takeWhile_prefix _).length_le
theorem behindS_cons (a : Seg) (t : List Seg) (time : Int) : behindS (a :: t) time = if a.from_ ≤ time then behindS t time + 1 else 0 := by
  unfold behindS
  by_cases h : a.from_ ≤ time
  · rw [List.takeWhile_cons_of_pos (by simpa using h), if_pos h]; rfl
  · rw [List.takeWhile_cons_of_neg (by simpa using h), if_neg h]; rfl
theorem behindS_lt {t : List Seg} {time : Int} {i : Nat} (hi : i < behindS t time) : ∃ hi : i < t.length, t[i].from_ ≤ time := by
  induction t generalizing i with
  | nil => simp [behindS] at hi
  | cons a t ih =>
    rw [behindS_cons] at hi
    split at hi
    · rename_i ha
      cases i with
      | zero => exact ⟨by simp, ha⟩
      | succ i =>
        obtain ⟨h1, h2⟩ := ih (i := i) (by omega)
        exact ⟨by simpa using h1, by simpa using h2⟩
    · omega
theorem behindS_ge {t : List Seg} (ht : Sorted t) {time : Int} {i : Nat} (hb : behindS t time ≤ i) (hi : i < t.length) : time < t[i].from_ := by
  induction t generalizing i with
  | nil => simp at hi
  | cons a t ih =>
    unfold Sorted at ht
    rw [List.pairwise_cons] at ht
    obtain ⟨h1, h2⟩ := ht
    by_cases ha : a.from_ ≤ time
    · have e : behindS (a :: t) time = behindS t time + 1 := by
        unfold behindS
        rw [List.takeWhile_cons_of_pos (by simpa using ha)]
        rfl
      cases i with
      | zero => omega
      | succ i => exact ih h2 (by omega) (by simpa using hi)
    · cases i with
      | zero => simp; omega
      | succ i =>
        have := h1 (t[i]'(by simpa using hi)) (List.getElem_mem _)
        simp
        omega

theorem behind1_g {tb lb : Nat} {v : Value} {t : List Seg} {time : Int} (hc : cellD lb T_s_api_Seg #[v] B) (hc2 : cellD tb T_int #[.int .i64 time] B) (r : rowR v t B) {i : Nat} (hi : i < t.length) :
    Gives Try.prog B (sCallV (.func (.func F_timeline_behind_1) #[] #[ptr lb, ptr tb]) #[.int .i64 i]) (.bool (decide (time < t[i].from_))) := by
  refine Gives.intro fun B' w K base h k => ?_
  replace r := base r
  refine call_v ?_
  show upK _ (sCall _ #[.int .i64 i, ptr lb, ptr tb]) _ _
  refine timeline_behind_1.up (timeline_behind_1.call ?_)
  unfold timeline_behind_1.pt
  have h := h.tick
  obtain ⟨g, o, hx, hcx⟩ := rowR.idx r sl_s_api_Seg hi
  simp -zeta only [cellD.ld (h.hereB (base hc)) sc_s_api_Seg (o := 0) rfl, hx, field_addr f_api_Seg_0, Nat.add_zero, cellsR.ld0 (h.hereB hcx) sc_int rfl, cellD.ld (h.hereB (base hc2)) sc_int (o := 0) rfl, bin_gtr]
  exact k _ _ h
theorem behind_g {v : Value} {t : List Seg} (r : rowR v t B) (hs : Sorted t) (hl : t.length ≤ 1000000) (time : Int) : Gives Try.prog B (sCall F_timeline_behind #[v, .int .i64 time]) (.int .i64 (behindS t time)) := by
  refine Gives.intro fun B' w K base h k => ?_
  replace r := base r
  refine timeline_behind.up (timeline_behind.call ?_)
  unfold timeline_behind.pt
  have hv : v.oneCell' = true := rowR.oneCell r
  have hcv : v.cells = #[v] := by cases v <;> first | rfl | cases hv
  refine h.box fun lb w1 h => ?_
  refine h.box fun tb w2 h => ?_
  replace h : Rel B' w2 [cellD lb T_s_api_Seg #[v], cellD tb T_int #[.int .i64 time]] := by rw [← hcv]; exact h
  simp -zeta only [h.ld 0 rfl sc_s_api_Seg (o := 0) rfl, rowR.len r sl_s_api_Seg, mk_func]
  refine h.ask (fun B2 own base2 => search_g (fun i => if hi : i < t.length then decide (time < t[i].from_) else false) (fun i hi => ?_) (fun i h1 h2 => ?_) (behindS_le t time) hl fun B3 base3 i hi => ?_) fun w3 h => k _ _ h
  · obtain ⟨h1, h2⟩ := behindS_lt hi
    simp only [h1, dif_pos]
    exact decide_eq_false (by omega)
  · simp only [h2, dif_pos]
    exact decide_eq_true (behindS_ge hs h1 h2)
  · simp only [hi, dif_pos]
    exact behind1_g (base3 (own (i := 0) rfl)) (base3 (own (i := 1) rfl)) (base3 (base2 r)) hi

def atS (t : List Seg) (time : Int) : Int := (t.getD (max (behindS t time) 1 - 1) ⟨0, 0⟩).version
theorem At_g {v : Value} {t : List Seg} (r : rowR v t B) (hs : Sorted t) (hne : t ≠ []) (hl : t.length ≤ 1000000) (time : Int) : Gives Try.prog B (sCall F_timeline_At #[v, .int .i64 time]) (.int .i64 (atS t time)) := by
  refine Gives.intro fun B' w K base h k => ?_
  replace r := base r
  refine timeline_At.up (timeline_At.call ?_)
  unfold timeline_At.pt
  have hlen : 0 < t.length := List.length_pos_iff.2 hne
  have hb := behindS_le t time
  refine h.ask (fun B2 own base2 => behind_g (base2 r) hs hl time) fun w1 h => ?_
  have hi : max (behindS t time) 1 - 1 < t.length := by omega
  obtain ⟨g, o, hx, hc⟩ := rowR.idx r sl_s_api_Seg hi
  simp -zeta only [blt_max, bin_sub]
  rw [wrap_id (by omega) (by omega), show max (behindS t time : Int) 1 - 1 = ((max (behindS t time) 1 - 1 : Nat) : Int) by omega]
  simp -zeta only [hx, field_addr f_api_Seg_1, cellsR.ld (h.hereB hc) sc_int (j := 1) rfl]
  have : atS t time = (t[max (behindS t time) 1 - 1]).version := by
    unfold atS
    rw [List.getD_eq_getElem?_getD, List.getElem?_eq_getElem hi]
    rfl
  rw [this] at k
  exact k _ _ h

/-! ### timeline.Replace -/
def replT (t : List Seg) (fr ver : Int) : List Seg × Int :=
  if fr < 0 then ([], 3) else if 1099511627776 < fr then ([], 3) else if ver < 1 then ([], 3) else if 50 < ver then ([], 3) else
    (if t.take (behindS t (fr - 1)) = [] ∨ ((t.take (behindS t (fr - 1))).getLast?.map (·.version)) ≠ some ver then t.take (behindS t (fr - 1)) ++ [⟨fr, ver⟩] else t.take (behindS t (fr - 1)), 0)
theorem Replace_m {v : Value} {t : List Seg} (r : rowR v t B) (hs : Sorted t) (hl : t.length ≤ 1000000) (fr ver : Int) : Makes Try.prog B (sCall F_timeline_Replace #[v, .int .i64 fr, .int .i64 ver])
    fun u τ => ∃ v', u = .tuple #[v', .int .i64 (replT t fr ver).2] ∧ τ = [rowD T_api_Seg v' (replT t fr ver).1] := by
  refine Makes.intro fun B' w K base h k => ?_
  replace r := base r
  refine timeline_Replace.up (timeline_Replace.call ?_)
  unfold timeline_Replace.pt
  have bad : replT t fr ver = ([], 3) → K (.tuple #[.slice none 0 0, .int .i64 3]) w := fun e => by
    rw [e] at k
    exact k _ _ _ ⟨_, rfl, rfl⟩ (h.addNil Seg T_api_Seg)
  simp -zeta only [bin_lss, bin_gtr, ifB_dec]
  refine ⟨fun e1 => bad (by unfold replT; rw [if_pos e1]), fun e1 => ⟨fun e2 => bad (by unfold replT; rw [if_neg e1, if_pos e2]), fun e2 => ⟨fun e3 => bad (by unfold replT; rw [if_neg e1, if_neg e2, if_pos e3]), fun e3 => ⟨fun e4 => bad (by unfold replT; rw [if_neg e1, if_neg e2, if_neg e3, if_pos e4]), fun e4 => ?_⟩⟩⟩⟩
  have hok : replT t fr ver = (if t.take (behindS t (fr - 1)) = [] ∨ ((t.take (behindS t (fr - 1))).getLast?.map (·.version)) ≠ some ver then t.take (behindS t (fr - 1)) ++ [⟨fr, ver⟩] else t.take (behindS t (fr - 1)), 0) := by
    unfold replT; rw [if_neg e1, if_neg e2, if_neg e3, if_neg e4]
  rw [hok] at k
  have hb := behindS_le t (fr - 1)
  simp -zeta only [bin_sub]
  rw [wrap_id (by omega) (by omega)]
  refine h.ask (fun B2 own base2 => behind_g (base2 r) hs hl (fr - 1)) fun w1 h => ?_
  rw [rowR.cutE r sl_s_api_Seg (lo := 0) (hi := behindS t (fr - 1)) Bnd.none Bnd.some (Nat.zero_le _) hb]
  have hcut := rowR.cutR r (lo := 0) (hi := behindS t (fr - 1)) (Nat.zero_le _) hb
  rw [List.drop_zero] at hcut
  generalize hT : t.take (behindS t (fr - 1)) = T at hcut k
  have hTl : T.length ≤ 1000000 := by rw [← hT]; simp; omega
  refine h.make (fun B2 own base2 => gslices_Clone_s_api_Seg_api_Seg (base2 hcut) (by omega) (by omega)) fun u τ w2 hp h => ?_
  subst hp
  refine LETJ_intro fun J hJ => ?_
  replace hJ : ∀ v' w', Rel B' w' [rowD T_api_Seg v' (if T = [] ∨ (T.getLast?.map (·.version)) ≠ some ver then T ++ [⟨fr, ver⟩] else T)] → J (v', ()) w' := fun v' w' h => hJ _ _ (k _ _ _ ⟨v', rfl, rfl⟩ h)
  have add : (T = [] ∨ (T.getLast?.map (·.version)) ≠ some ver) → upK Try.prog (sBuildSlice T_s_api_Seg 1 #[(0, (⟨fr, ver⟩ : Seg).v)]) w2 fun t48 w4 => upK Try.prog (sBlt .append #[T_s_api_Seg, T_s_api_Seg] T_s_api_Seg #[false, false] #[u, t48]) w4 fun t49 w5 => J (t49, ()) w5 := fun hc => by
    rw [if_pos hc] at hJ
    exact h.push1 (α := Seg) 0 rfl ⟨fr, ver⟩ sl_s_api_Seg (by decide) (by omega) (by omega) fun v' w3 h => hJ v' w3 h
  have hrd := rowD.read (h.here (i := 0) rfl)
  simp -zeta only [rowR.len hrd sl_s_api_Seg, bin_eql, ifB_dec, bd_api_Seg_0_1]
  refine ⟨fun e => add (.inl (List.eq_nil_of_length_eq_zero (by omega))), fun e => ?_⟩
  have hlen : 0 < T.length := by omega
  obtain ⟨g, o, hx, hc⟩ := rowR.idx hrd sl_s_api_Seg (P := Try.prog) (i := T.length - 1) (by omega)
  have hw : IntKind.i64.wrap ((T.length : Int) - 1) = ((T.length - 1 : Nat) : Int) := by rw [wrap_id (by omega) (by omega)]; omega
  have hlast : T.getLast?.map (·.version) = some (T[T.length - 1]).version := by
    rw [List.getLast?_eq_getElem?, List.getElem?_eq_getElem (by omega)]
    rfl
  simp -zeta only [bin_sub, hw, hx, field_addr f_api_Seg_1, cellsR.ld hc sc_int (j := 1) rfl, bin_neq, ifB_not, ifB_dec]
  refine ⟨fun e2 => ?_, fun e2 => add (.inr (by rw [hlast]; intro he; exact e2 (Option.some.inj he)))⟩
  refine hJ _ _ ?_
  rw [if_neg (by
    rintro (h1 | h1)
    · rw [h1] at hlen; simp at hlen
    · exact h1 (by rw [hlast]; exact congrArg some e2))]
  exact h
end

theorem replT_ok {t : List Seg} {fr ver : Int} (hf : 0 ≤ fr ∧ fr ≤ 1099511627776) (hv : 1 ≤ ver ∧ ver ≤ 50) (hs : Sorted t) : (replT t fr ver).2 = 0 ∧ Sorted (replT t fr ver).1 ∧ (replT t fr ver).1 ≠ [] ∧ (replT t fr ver).1.length ≤ t.length + 1 := by
  have hb := behindS_le t (fr - 1)
  have hsT : Sorted (t.take (behindS t (fr - 1))) := hs.sublist (List.take_sublist _ _)
  unfold replT
  rw [if_neg (by omega), if_neg (by omega), if_neg (by omega), if_neg (by omega)]
  refine ⟨rfl, ?_⟩
  dsimp only
  split
  · refine ⟨?_, by simp, by simp; omega⟩
    unfold Sorted
    rw [List.pairwise_append]
    refine ⟨hsT, List.pairwise_singleton _ _, fun a ha b hb => ?_⟩
    simp only [List.mem_cons, List.not_mem_nil, or_false] at hb
    subst hb
    obtain ⟨j, hj, rfl⟩ := List.getElem_of_mem ha
    simp only [List.length_take] at hj
    obtain ⟨h1, h2⟩ := behindS_lt (t := t) (time := fr - 1) (i := j) (by omega)
    simp only [List.getElem_take]
    show t[j].from_ < fr
    omega
  · rename_i hno
    refine ⟨hsT, fun e => hno (.inl e), by simp; omega⟩

def seg0 : List Seg := [⟨0, 1⟩]
theorem sorted0 : Sorted seg0 := List.pairwise_singleton _ _

/-! ### Timelines -/
structure TInv (t : List Seg) : Prop where
  some_ : t ≠ []
  zero : ∀ h : 0 < t.length, t[0].from_ = 0
  each : ∀ s ∈ t, s.from_ ≤ 1099511627776 ∧ 1 ≤ s.version ∧ s.version ≤ 50
  sorted : Sorted t
  differ : ∀ i (h : i + 1 < t.length), t[i].version ≠ t[i + 1].version

theorem TInv.behind {t : List Seg} (h : TInv t) {time : Int} (ht : 0 ≤ time) : 0 < behindS t time := by
  have hl : 0 < t.length := List.length_pos_iff.2 h.some_
  refine Nat.pos_of_ne_zero fun e => ?_
  have := behindS_ge h.sorted (time := time) (i := 0) (by omega) hl
  have := h.zero hl
  omega
theorem TInv.atS {t : List Seg} (h : TInv t) (time : Int) : atS t time = atS t (max time 0) := by
  by_cases h0 : 0 ≤ time
  · rw [show max time 0 = time by omega]
  · have hl : 0 < t.length := List.length_pos_iff.2 h.some_
    have hz := h.zero hl
    have e1 : behindS t time = 0 := by
      refine Nat.eq_zero_of_not_pos fun hp => ?_
      obtain ⟨_, h2⟩ := behindS_lt hp
      omega
    have e2 : behindS t 0 = 1 := by
      have h1 := h.behind (time := 0) (Int.le_refl 0)
      refine Nat.le_antisymm (Nat.le_of_not_lt fun hlt => ?_) h1
      obtain ⟨h2, h3⟩ := behindS_lt (t := t) (time := 0) (i := 1) (by omega)
      have := List.pairwise_iff_getElem.1 h.sorted 0 1 hl h2 (by omega)
      omega
    unfold Go.Proofs.Ytmpnniicmmekmaa.atS
    rw [show max time 0 = 0 by omega, e1, e2]
    rfl

theorem behind_take {t : List Seg} (hs : Sorted t) {a b : Int} (hab : a ≤ b) : behindS (t.take (behindS t b)) a = behindS t a := by
  have e1 := behindS_le (t.take (behindS t b)) a
  have e2 := behindS_le t a
  have e3 := behindS_le t b
  have hs' : Sorted (t.take (behindS t b)) := hs.sublist (List.take_sublist _ _)
  refine Nat.le_antisymm (Nat.le_of_not_lt fun hlt => ?_) (Nat.le_of_not_lt fun hlt => ?_)
  · obtain ⟨h1, h2⟩ := behindS_lt hlt
    simp only [List.getElem_take] at h2
    rw [List.length_take] at h1
    have := behindS_ge hs (time := a) (i := behindS t a) (Nat.le_refl _) (by omega)
    omega
  · obtain ⟨h1, h2⟩ := behindS_lt hlt
    by_cases hb : behindS (t.take (behindS t b)) a < behindS t b
    · have := behindS_ge hs' (time := a) (Nat.le_refl _) (by rw [List.length_take]; omega)
      simp only [List.getElem_take] at this
      omega
    · have := behindS_ge hs (time := b) (i := behindS (t.take (behindS t b)) a) (by omega) h1
      omega
theorem behind_append {T : List Seg} {x : Seg} {a : Int} (hs : Sorted (T ++ [x])) : behindS (T ++ [x]) a = if x.from_ ≤ a then T.length + 1 else behindS T a := by
  have hsT : Sorted T := hs.sublist (List.sublist_append_left _ _)
  have e1 := behindS_le (T ++ [x]) a
  have e2 := behindS_le T a
  rw [List.length_append, List.length_singleton] at e1
  split
  · rename_i hx
    refine Nat.le_antisymm e1 (Nat.le_of_not_lt fun hlt => ?_)
    have h1 := behindS_ge hs (time := a) (Nat.le_refl _) (by simp; omega)
    by_cases hT : behindS (T ++ [x]) a < T.length
    · rw [List.getElem_append_left hT] at h1
      have := (List.pairwise_append.1 hs).2.2 _ (List.getElem_mem hT) x List.mem_cons_self
      omega
    · rw [List.getElem_append_right (by omega)] at h1
      simp at h1
      omega
  · rename_i hx
    refine Nat.le_antisymm (Nat.le_of_not_lt fun hlt => ?_) (Nat.le_of_not_lt fun hlt => ?_)
    · obtain ⟨h1, h2⟩ := behindS_lt hlt
      by_cases hT : behindS T a < T.length
      · rw [List.getElem_append_left hT] at h2
        have := behindS_ge hsT (time := a) (Nat.le_refl _) hT
        omega
      · rw [List.getElem_append_right (by omega)] at h2
        simp at h2
        omega
    · obtain ⟨h1, h2⟩ := behindS_lt hlt
      have := behindS_ge hs (time := a) (Nat.le_refl _) (by simp; omega)
      rw [List.getElem_append_left (by omega)] at this
      omega

theorem TInv.repl {t : List Seg} (h : TInv t) {fr ver : Int} (hf : 0 ≤ fr ∧ fr ≤ 1099511627776) (hv : 1 ≤ ver ∧ ver ≤ 50) : TInv (replT t fr ver).1 ∧ ∀ time, 0 ≤ time → Go.Proofs.Ytmpnniicmmekmaa.atS (replT t fr ver).1 time = if fr ≤ time then ver else Go.Proofs.Ytmpnniicmmekmaa.atS t time := by
  obtain ⟨_, hs', hne, _⟩ := replT_ok hf hv h.sorted
  have hl : 0 < t.length := List.length_pos_iff.2 h.some_
  have hz := h.zero hl
  have hb := behindS_le t (fr - 1)
  have hT0 : fr ≠ 0 → 0 < behindS t (fr - 1) := fun hne => h.behind (by omega)
  have hT1 : fr = 0 → behindS t (fr - 1) = 0 := fun e => by
    refine Nat.eq_zero_of_not_pos fun hp => ?_
    obtain ⟨_, h2⟩ := behindS_lt hp
    omega
  have hTl : (t.take (behindS t (fr - 1))).length = behindS t (fr - 1) := by rw [List.length_take]; omega
  have hbt : ∀ time, time < fr → behindS (t.take (behindS t (fr - 1))) time = behindS t time := fun time ht => behind_take h.sorted (by omega)
  have hle : ∀ time, time < fr → behindS t time ≤ behindS t (fr - 1) := fun time ht => by
    rw [← hbt time ht]
    have := behindS_le (t.take (behindS t (fr - 1))) time
    omega
  have hd : (replT t fr ver).1 = if t.take (behindS t (fr - 1)) = [] ∨ ((t.take (behindS t (fr - 1))).getLast?.map (·.version)) ≠ some ver then t.take (behindS t (fr - 1)) ++ [⟨fr, ver⟩] else t.take (behindS t (fr - 1)) := by
    unfold replT
    rw [if_neg (by omega), if_neg (by omega), if_neg (by omega), if_neg (by omega)]
  generalize hTT : t.take (behindS t (fr - 1)) = T at hd hTl hbt
  have hTg : ∀ i (hi : i < T.length), T[i] = t[i]'(by omega) := fun i hi => by subst hTT; simp
  have hTe : ∀ s ∈ T, s ∈ t := fun s hs => by subst hTT; exact List.mem_of_mem_take hs
  have atEq : ∀ (u : List Seg) time k, behindS u time = k + 1 → ∀ hk : k < u.length, Go.Proofs.Ytmpnniicmmekmaa.atS u time = u[k].version := by
    intro u time k e hk
    unfold Go.Proofs.Ytmpnniicmmekmaa.atS
    rw [e, show max (k + 1) 1 - 1 = k by omega, List.getD_eq_getElem?_getD, List.getElem?_eq_getElem hk]
    rfl
  by_cases hc : T = [] ∨ (T.getLast?.map (·.version)) ≠ some ver
  · rw [if_pos hc] at hd
    rw [hd] at hs' hne ⊢
    refine ⟨⟨hne, fun h0 => ?_, fun s hs => ?_, hs', fun i hi => ?_⟩, fun time ht => ?_⟩
    · by_cases he : fr = 0
      · have : T = [] := List.eq_nil_of_length_eq_zero (by rw [hTl, hT1 he])
        subst this
        exact he
      · rw [List.getElem_append_left (by have := hT0 he; omega), hTg]
        exact hz
    · rcases List.mem_append.1 hs with hs | hs
      · exact h.each s (hTe s hs)
      · simp only [List.mem_cons, List.not_mem_nil, or_false] at hs
        subst hs
        exact ⟨hf.2, hv⟩
    · rw [List.length_append, List.length_singleton] at hi
      by_cases hi2 : i + 1 < T.length
      · rw [List.getElem_append_left (by omega), List.getElem_append_left hi2, hTg, hTg]
        exact h.differ i (by omega)
      · have hi3 : i + 1 = T.length := by omega
        rw [List.getElem_append_left (by omega), List.getElem_append_right (by omega)]
        simp only [hi3, Nat.sub_self, List.getElem_cons_zero]
        rcases hc with hc | hc
        · rw [hc] at hi3; simp at hi3
        · intro e
          refine hc ?_
          rw [List.getLast?_eq_getElem?, List.getElem?_eq_getElem (by omega)]
          simp only [Option.map_some, ← hi3, Nat.add_sub_cancel]
          rw [e]
    · have hba := behind_append (a := time) hs'
      dsimp only at hba
      by_cases hft : fr ≤ time
      · rw [if_pos hft] at hba ⊢
        rw [atEq _ time T.length hba (by simp), List.getElem_append_right (Nat.le_refl _)]
        simp
      · rw [if_neg hft, hbt time (by omega)] at hba
        rw [if_neg hft]
        have hp := h.behind ht
        have hle' := hle time (by omega)
        obtain ⟨k, hk⟩ : ∃ k, behindS t time = k + 1 := ⟨behindS t time - 1, by omega⟩
        rw [atEq _ time k (by omega) (by simp; omega), atEq t time k hk (by omega), List.getElem_append_left (by omega), hTg]
  · rw [if_neg hc] at hd
    rw [hd] at hs' hne ⊢
    have hTne : T ≠ [] := fun e => hc (.inl e)
    have hTpos : 0 < T.length := List.length_pos_iff.2 hTne
    have hlast : (T[T.length - 1]'(by omega)).version = ver := by
      have : T.getLast?.map (·.version) = some ver := Classical.not_not.1 fun hh => hc (.inr hh)
      rw [List.getLast?_eq_getElem?, List.getElem?_eq_getElem (by omega)] at this
      exact Option.some.inj this
    refine ⟨⟨hne, fun h0 => by rw [hTg]; exact hz, fun s hs => h.each s (hTe s hs), hs', fun i hi => by rw [hTg, hTg]; exact h.differ i (by omega)⟩, fun time ht => ?_⟩
    by_cases hft : fr ≤ time
    · rw [if_pos hft]
      have hbT : behindS T time = T.length := by
        refine Nat.le_antisymm (behindS_le _ _) (Nat.le_of_not_lt fun hlt => ?_)
        have h1 := behindS_ge hs' (time := time) (Nat.le_refl _) hlt
        rw [hTg] at h1
        obtain ⟨_, h2⟩ := behindS_lt (t := t) (time := fr - 1) (i := behindS T time) (by omega)
        omega
      rw [atEq T time (T.length - 1) (by omega) (by omega), hlast]
    · rw [if_neg hft]
      have hp := h.behind ht
      have hle' := hle time (by omega)
      obtain ⟨k, hk⟩ : ∃ k, behindS t time = k + 1 := ⟨behindS t time - 1, by omega⟩
      rw [atEq T time k (by rw [hbt time (by omega)]; exact hk) (by omega), atEq t time k hk (by omega), hTg]
end Go.Proofs.Ytmpnniicmmekmaa
