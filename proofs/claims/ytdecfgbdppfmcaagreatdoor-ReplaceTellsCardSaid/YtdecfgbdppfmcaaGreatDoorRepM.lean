/-
  The reference's functions of chapter 47: within, set, Abandon, Caught, Ask, Cut, Side. No condition.
-/
import Derived.Test.YtdecfgbdppfmcaaGreatDoorRepL
import Derived.Test.YtdecfgbdppfmcaaGreatDoorTimeM
namespace Go.Proofs.YtdecfgbdppfmcaaGreatDoor
open Go.RowKit
set_option maxRecDepth 100000

theorem firstR_filter (l : List Rpl) : firstR l = match l.filter openR with
    | [] => (zeroR, false)
    | r :: _ => (r, true) := by
  unfold firstR
  rw [← List.head?_filter]
  cases l.filter openR <;> rfl
/-- A copy by append, from an empty list. -/
theorem copyR {B : Base} {w : World} {σ : List Dat} {v : Value} {l : List Rpl} (h : Rel B w σ) (r : rowR v l B) (hl : l.length ≤ 1000000) {K : Value → World → Prop}
    (k : ∀ u w', Rel B w' (σ ++ [rowD T_api_Replacement u l]) → K u w') :
    upK Tryz.prog (sBuildSlice T_s_api_Replacement 0 #[]) w fun t w1 => upK Tryz.prog (sBlt .append #[T_s_api_Replacement, T_s_api_Replacement] T_s_api_Replacement #[false, false] #[t, v]) w1 K := by
  refine h.build0 (α := Rpl) sl_s_api_Replacement fun t w1 h _ => ?_
  have hg : (σ ++ [rowD T_api_Replacement t ([] : List Rpl)])[σ.length]? = some (rowD T_api_Replacement t ([] : List Rpl)) := get_last
  refine h.append (α := Rpl) σ.length hg sl_s_api_Replacement (l2 := l) (Rd.base r) (by simp only [List.length_nil]; omega) (by simp only [List.length_nil]; omega) fun u w2 h => k u w2 ?_
  rw [List.set_append_right _ _ (Nat.le_refl _), Nat.sub_self, List.set_cons_zero, List.nil_append] at h
  exact h
theorem copySg {B : Base} {w : World} {σ : List Dat} {v : Value} {l : List Seg} (h : Rel B w σ) (r : rowR v l B) (hl : l.length ≤ 1000000) {K : Value → World → Prop}
    (k : ∀ u w', Rel B w' (σ ++ [rowD T_api_Seg u l]) → K u w') :
    upK Tryz.prog (sBuildSlice T_s_api_Seg 0 #[]) w fun t w1 => upK Tryz.prog (sBlt .append #[T_s_api_Seg, T_s_api_Seg] T_s_api_Seg #[false, false] #[t, v]) w1 K := by
  refine h.build0 (α := Seg) sl_s_api_Seg fun t w1 h _ => ?_
  have hg : (σ ++ [rowD T_api_Seg t ([] : List Seg)])[σ.length]? = some (rowD T_api_Seg t ([] : List Seg)) := get_last
  refine h.append (α := Seg) σ.length hg sl_s_api_Seg (l2 := l) (Rd.base r) (by simp only [List.length_nil]; omega) (by simp only [List.length_nil]; omega) fun u w2 h => k u w2 ?_
  rw [List.set_append_right _ _ (Nat.le_refl _), Nat.sub_self, List.set_cons_zero, List.nil_append] at h
  exact h

section
variable {B : Base}
theorem fwithin_g (n : Int) : Gives Tryz.prog B (sCall F_errataref47_within #[.int .i64 n]) (.bool (within n 0 1099511627776)) := by
  refine Gives.intro fun B' w K base h k => ?_
  refine errataref47_within.up (errataref47_within.call ?_)
  unfold errataref47_within.pt
  simp -zeta only [bin_geq, bin_leq, ifB_dec]
  refine ⟨fun e => ?_, fun e => ?_⟩
  · have : within n 0 1099511627776 = decide (n ≤ 1099511627776) := by unfold within; rw [decide_eq_true e]; rfl
    rw [this] at k
    exact k _ _ h
  · have : within n 0 1099511627776 = false := by unfold within; rw [decide_eq_false e]; rfl
    rw [this] at k
    exact k _ _ h
theorem fset_m {v : Value} {l : List Rpl} (r : rowR v l B) (hl : l.length ≤ 1000000) (no st : Int) : Makes Tryz.prog B (sCall F_errataref47_set #[v, .int .i64 no, .int .i64 st])
    fun u τ => ∃ v', u = .tuple #[v', .int .i64 (setS l no st).2] ∧ τ = [rowD T_api_Replacement v' (setS l no st).1] := by
  refine Makes.intro fun B' w K base h k => ?_
  replace r := base r
  refine errataref47_set.up (errataref47_set.call ?_)
  unfold errataref47_set.pt
  have bad : ∀ c, setS l no st = ([], c) → K (.tuple #[.slice none 0 0, .int .i64 c]) w := fun c e => by
    rw [e] at k
    exact k _ _ _ ⟨_, rfl, rfl⟩ (h.addNil Rpl T_api_Replacement)
  simp -zeta only [rowR.len r sl_s_api_Replacement, bin_lss, bin_gtr, ifB_dec]
  refine ⟨fun q1 => bad _ (by unfold setS; rw [if_neg fun e => by have := within_iff.1 e; omega]), fun q1 => ⟨fun q2 => bad _ (by unfold setS; rw [if_neg fun e => by have := within_iff.1 e; omega]), fun q2 => ?_⟩⟩
  have e : within no 1 l.length = true := within_iff.2 ⟨by omega, by omega⟩
  obtain ⟨n, hn, hnl⟩ : ∃ n : Nat, no - 1 = n ∧ n < l.length := ⟨(no - 1).toNat, by omega, by omega⟩
  have hg : l.getD n zeroR = l[n] := by rw [List.getD_eq_getElem?_getD, List.getElem?_eq_getElem hnl]; rfl
  have hS : setS l no st = if l[n].state = 0 ∨ l[n].state = 1 then (l.set n { l[n] with state := st }, 0) else ([], 7) := by
    unfold setS
    rw [if_pos e, hn]
    simp only [Int.toNat_natCast, hg]
  have hw : IntKind.i64.wrap (no - 1) = n := by rw [wrap_id (by omega) (by omega), hn]
  obtain ⟨g, o, hx, hc⟩ := rowR.idx r sl_s_api_Replacement hnl
  have hc : cellsR g o l[n].cs B' := hc
  simp -zeta only [bin_sub, hw, hx, field_addr f_api_Replacement_4, cellsR.ld (h.hereB hc) sc_int (j := 4) rfl]
  refine LETJ_intro fun J hJ => ?_
  replace hJ : (l[n].state = 0 ∨ l[n].state = 1) → J () w := by
    intro hst
    refine hJ _ _ ?_
    rw [hS, if_pos hst] at k
    refine copyR h r hl fun u w2 h => ?_
    obtain ⟨g, cap, rfl⟩ := h.open_ (i := 0) rfl (by omega)
    simp -zeta only [bin_sub, hw, idx_own (α := Rpl) sl_s_api_Replacement hnl, field_addr f_api_Replacement_4]
    refine h.set_sc (α := Rpl) 0 rfl { l[n] with state := st } (j := n) (f := 4) hnl rfl (by decide) rfl sc_int rfl fun w3 h => ?_
    exact k _ _ _ ⟨_, rfl, rfl⟩ h
  simp -zeta only [bin_neq, ifB_not, ifB_dec]
  refine ⟨fun e0 => hJ (.inl e0), fun e0 => ⟨fun e1 => hJ (.inr e1), fun e1 => bad _ ?_⟩⟩
  rw [hS, if_neg (by rintro (h | h); exact e0 h; exact e1 h)]
theorem fabandon_m {v : Value} {l : List Rpl} (r : rowR v l B) (hl : l.length ≤ 1000000) (no : Int) : Makes Tryz.prog B (sCall F_errataref47_Abandon #[v, .int .i64 no])
    fun u τ => ∃ v', u = .tuple #[v', .int .i64 (setS l no 4).2] ∧ τ = [rowD T_api_Replacement v' (setS l no 4).1] := by
  refine Makes.intro fun B' w K base h k => ?_
  refine errataref47_Abandon.up (errataref47_Abandon.call ?_)
  unfold errataref47_Abandon.pt
  refine h.make (fun B2 own base2 => fset_m (base2 (base r)) hl no 4) fun u τ w2 hp h => ?_
  obtain ⟨v', rfl, rfl⟩ := hp
  simp -zeta only [ext_2_0, ext_2_1]
  exact k _ _ _ ⟨v', rfl, rfl⟩ h
theorem fcaught_m {v : Value} {l : List Rpl} (r : rowR v l B) (hl : l.length ≤ 1000000) (no : Int) (yes : Bool) : Makes Tryz.prog B (sCall F_errataref47_Caught #[v, .int .i64 no, .bool yes])
    fun u τ => ∃ v', u = .tuple #[v', .int .i64 (setS l no (if yes = true then 1 else 0)).2] ∧ τ = [rowD T_api_Replacement v' (setS l no (if yes = true then 1 else 0)).1] := by
  refine Makes.intro fun B' w K base h k => ?_
  refine errataref47_Caught.up (errataref47_Caught.call ?_)
  unfold errataref47_Caught.pt
  rw [ifB_bool]
  refine ⟨fun e => ?_, fun e => ?_⟩ <;> subst e
  · refine h.make (fun B2 own base2 => fset_m (base2 (base r)) hl no 1) fun u τ w2 hp h => ?_
    obtain ⟨v', rfl, rfl⟩ := hp
    simp -zeta only [ext_2_0, ext_2_1]
    exact k _ _ _ ⟨v', rfl, rfl⟩ h
  · refine h.make (fun B2 own base2 => fset_m (base2 (base r)) hl no 0) fun u τ w2 hp h => ?_
    obtain ⟨v', rfl, rfl⟩ := hp
    simp -zeta only [ext_2_0, ext_2_1]
    exact k _ _ _ ⟨v', rfl, rfl⟩ h

/-- How many of the first are open. -/
def leftTo (l : List Rpl) (i : Nat) : Nat := ((l.take i).filter openR).length
theorem leftTo_succ {l : List Rpl} {i : Nat} (hi : i < l.length) : leftTo l (i + 1) = if openR l[i] = true then leftTo l i + 1 else leftTo l i := by
  unfold leftTo
  rw [List.take_succ_eq_append_getElem hi, List.filter_append, List.filter_cons, List.filter_nil]
  split
  · rw [List.length_append, List.length_singleton]
  · rw [List.append_nil]
theorem leftTo_le (l : List Rpl) (i : Nat) : leftTo l i ≤ i := by
  refine Nat.le_trans (List.length_filter_le _ _) ?_
  rw [List.length_take]; omega

theorem fask_m {v : Value} {l : List Rpl} (r : rowR v l B) (hl : l.length ≤ 100000) (fr ver back hor : Int) (raise : Bool) : Makes Tryz.prog B (sCall F_errataref47_Ask #[v, .int .i64 fr, .int .i64 ver, .int .i64 back, .int .i64 hor, .bool raise])
    fun u τ => ∃ v', u = .tuple #[v', .int .i64 (askS l fr ver back hor raise).2.1, .int .i64 (askS l fr ver back hor raise).2.2] ∧ τ = [rowD T_api_Replacement v' (askS l fr ver back hor raise).1] := by
  refine Makes.intro fun B' w K base h k => ?_
  replace r := base r
  refine errataref47_Ask.up (errataref47_Ask.call ?_)
  unfold errataref47_Ask.pt
  have bad : ∀ w' τ n c, askS l fr ver back hor raise = ([], n, c) → Rel B' w' τ → K (.tuple #[.slice none 0 0, .int .i64 n, .int .i64 c]) w' := fun w' τ n c e h => by
    rw [e] at k
    exact k _ _ _ ⟨_, rfl, rfl⟩ (h.nil.addNil Rpl T_api_Replacement)
  refine h.ask (fun _ _ _ => fwithin_g fr) fun w1 h => ?_
  rw [un_not, ifB_not, ifB_bool]
  refine ⟨fun c1 => ?_, fun c1 => bad _ _ _ _ (by unfold askS; rw [if_neg (by rw [c1]; decide)]) h⟩
  simp -zeta only [bin_lss, bin_gtr, ifB_dec]
  have bv : ¬ within ver 1 50 = true → askS l fr ver back hor raise = ([], 0, 3) := fun c2 => by unfold askS; rw [if_pos c1, if_neg c2]
  refine ⟨fun q1 => bad _ _ _ _ (bv fun e => by have := within_iff.1 e; omega) h, fun q1 => ⟨fun q2 => bad _ _ _ _ (bv fun e => by have := within_iff.1 e; omega) h, fun q2 => ?_⟩⟩
  have c2 : within ver 1 50 = true := within_iff.2 ⟨by omega, by omega⟩
  refine h.ask (fun _ _ _ => fwithin_g back) fun w1 h => ?_
  rw [un_not, ifB_not, ifB_bool]
  refine ⟨fun c3 => ?_, fun c3 => bad _ _ _ _ (by unfold askS; rw [if_pos c1, if_pos c2, if_neg (by rw [c3]; decide)]) h⟩
  refine h.ask (fun _ _ _ => fwithin_g hor) fun w1 h => ?_
  rw [un_not, ifB_not, ifB_bool]
  refine ⟨fun c4 => ?_, fun c4 => bad _ _ _ _ (by unfold askS; rw [if_pos c1, if_pos c2, if_pos c3, if_neg (by rw [c4]; decide)]) h⟩
  have hA : askS l fr ver back hor raise = if (firstR l).2 = true ∧ (firstR l).1.state = 2 then ([], 0, 8)
    else if 0 < hor ∧ fr < hor + back then
      if raise = true ∧ hor + back ≤ 1099511627776 then askOn l (hor + back) ver back else ([], hor + back, 23)
    else askOn l fr ver back := by unfold askS; rw [if_pos c1, if_pos c2, if_pos c3, if_pos c4]
  have d1 := within_iff.1 c1
  have d3 := within_iff.1 c3
  have d4 := within_iff.1 c4
  refine h.make (fun B2 own base2 => fOpen_m (base2 r) (by omega)) fun u0 τ w2 hp h => ?_
  subst hp
  have h : Rel B' w2 [rowD T_api_Replacement u0 (l.filter openR)] := h
  refine LETJ_intro fun J1 hJ1 => ?_
  replace hJ1 : ∀ w' τ, ¬ ((firstR l).2 = true ∧ (firstR l).1.state = 2) → Rel B' w' τ → J1 () w' := by
    clear h
    intro w1 τ hno h
    refine hJ1 _ _ ?_
    clear hJ1
    rw [if_neg hno] at hA
    have h := h.nil
    simp -zeta only [bin_add]
    rw [wrap_id (by omega) (by omega)]
    refine LETJ_intro fun J2 hJ2 => ?_
    replace hJ2 : ∀ f : Int, 0 ≤ f ∧ f ≤ 1099511627776 → askS l fr ver back hor raise = askOn l f ver back → J2 (.int .i64 f, ()) w1 := by
      intro f hf he
      refine hJ2 _ _ ?_
      clear hJ2
      rw [he] at k
      refine copyR h r (by omega) fun u w2 h => ?_
      have hml : (supersede l f).length = l.length := by simp [supersede]
      refine LOOP_intro (fun x w' => ∃ i : Nat, i ≤ l.length ∧ x = (.int .i64 (leftTo (supersede l f) i), .int .i64 i, ()) ∧ Rel B' w' [rowD T_api_Replacement u ((supersede l f).take i ++ l.drop i)]) (fun x _ => l.length - (match x.2.1 with | .int _ n => n.toNat | _ => 0)) ⟨0, Nat.zero_le _, rfl, h⟩ ?_
      clear h
      rintro x w3 ⟨i, hi, rfl, h⟩ next hnext
      have hrl : ((supersede l f).take i ++ l.drop i).length = l.length := by simp [hml]; omega
      have hle := leftTo_le (supersede l f) i
      have hrd := rowD.read (h.here (i := 0) rfl)
      simp -zeta only [rowR.len hrd sl_s_api_Replacement, bin_lss, ifB_dec]
      rw [hrl]
      refine ⟨fun hlt => ?_, fun hge => ?_⟩
      · have hil : i < l.length := by omega
        obtain ⟨g, cap, hu⟩ := h.open_ (i := 0) rfl (by omega)
        rw [hrl] at hu
        subst hu
        have hels : (supersede l f)[i]'(by omega) = if openR l[i] = true ∧ f ≤ l[i].from_ then { l[i] with state := 5 } else l[i] := by simp [supersede]
        have hset : ∀ x : Rpl, ((supersede l f).take i ++ l.drop i).set i x = (supersede l f).take i ++ x :: l.drop (i + 1) := by
          intro x
          rw [List.set_append_right _ _ (by simp; omega), List.length_take, show i - min i (supersede l f).length = 0 by omega, List.drop_eq_getElem_cons hil, List.set_cons_zero]
        have hsucc : (supersede l f).take (i + 1) ++ l.drop (i + 1) = (supersede l f).take i ++ (if openR l[i] = true ∧ f ≤ l[i].from_ then { l[i] with state := 5 } else l[i]) :: l.drop (i + 1) := by
          rw [List.take_succ_eq_append_getElem (by omega), hels, List.append_assoc]
          rfl
        have hlsucc := leftTo_succ (l := supersede l f) (i := i) (by omega)
        refine LETJ_intro fun J3 hJ3 => ?_
        replace hJ3 : ∀ w', Rel B' w' [rowD T_api_Replacement (.slice (some ⟨g, 0, none⟩) l.length cap) ((supersede l f).take (i + 1) ++ l.drop (i + 1))] → J3 (.int .i64 (leftTo (supersede l f) (i + 1)), ()) w' := by
          intro w' h
          refine hJ3 _ _ ?_
          rw [bin_add, wrap_id (by omega) (by omega)]
          exact hnext _ _ ⟨i + 1, by omega, rfl, h⟩ (by simp only; omega)
        clear hnext
        refine LETJ_intro fun J4 hJ4 => ?_
        replace hJ4 : ∀ w', Rel B' w' [rowD T_api_Replacement (.slice (some ⟨g, 0, none⟩) l.length cap) ((supersede l f).take (i + 1) ++ l.drop (i + 1))] → J4 () w' := by
          intro w' h
          refine hJ4 _ _ ?_
          have hrl' : ((supersede l f).take (i + 1) ++ l.drop (i + 1)).length = l.length := by simp [hml]; omega
          have hc := h.elem (α := Rpl) (i := 0) (j := i) rfl (by omega)
          have hel : ((supersede l f).take (i + 1) ++ l.drop (i + 1))[i]'(by omega) = (supersede l f)[i]'(by omega) := by
            rw [List.getElem_append_left (by simp; omega)]
            simp
          rw [hel] at hc
          simp -zeta only [idx_own (α := Rpl) sl_s_api_Replacement hil, cellsR.ldAg hc ag_api_Replacement rfl]
          refine h.ask (fun _ _ _ => fopen_g ((supersede l f)[i]'(by omega))) fun w5 h => ?_
          rw [ifB_bool]
          refine ⟨fun ho => ?_, fun ho => ?_⟩
          · rw [if_pos ho] at hlsucc
            rw [bin_add, wrap_id (by omega) (by omega)]
            have := hJ3 w5 h
            rw [hlsucc] at this
            exact this
          · rw [if_neg (by rw [ho]; decide)] at hlsucc
            have := hJ3 w5 h
            rw [hlsucc] at this
            exact this
        clear hJ3
        have hc := h.elem (α := Rpl) (i := 0) (j := i) rfl (by omega)
        have hel : ((supersede l f).take i ++ l.drop i)[i]'(by omega) = l[i] := by
          rw [List.getElem_append_right (by simp; omega)]
          simp [show i - min i (supersede l f).length = 0 by omega]
        rw [hel] at hc
        simp -zeta only [idx_own (α := Rpl) sl_s_api_Replacement hil, cellsR.ldAg hc ag_api_Replacement rfl]
        refine h.ask (fun _ _ _ => fopen_g l[i]) fun w5 h => ?_
        have same : ¬ (openR l[i] = true ∧ f ≤ l[i].from_) → J4 () w5 := fun hno => hJ4 _ (by
          rw [hsucc, if_neg hno, ← List.drop_eq_getElem_cons hil]
          exact h)
        rw [ifB_bool]
        refine ⟨fun ho => ?_, fun ho => same fun hh => by rw [ho] at hh; cases hh.1⟩
        have hc := h.elem (α := Rpl) (i := 0) (j := i) rfl (by omega)
        rw [hel] at hc
        have hc : (cellsR g (i * Enc.sz Rpl) l[i].cs).here w5 := hc
        simp -zeta only [field_addr f_api_Replacement_1, field_addr f_api_Replacement_4, cellsR.ld hc sc_int (j := 1) rfl, bin_geq, ifB_dec, idx_own (α := Rpl) sl_s_api_Replacement hil]
        refine ⟨fun hf1 => ?_, fun hf1 => same fun hh => hf1 hh.2⟩
        refine h.set_sc (α := Rpl) 0 rfl { l[i] with state := 5 } (j := i) (f := 4) (by omega) rfl (by decide) (by rw [hel]; rfl) sc_int rfl fun w6 h => hJ4 _ ?_
        rw [hsucc, if_pos ⟨ho, hf1⟩]
        have h : Rel B' w6 [rowD T_api_Replacement (.slice (some ⟨g, 0, none⟩) l.length cap) (((supersede l f).take i ++ l.drop i).set i { l[i] with state := 5 })] := h
        rw [hset] at h
        exact h
      · have : i = l.length := by omega
        subst this
        clear hnext
        rw [List.take_of_length_le (by omega), List.drop_length, List.append_nil] at h
        have hlt : leftTo (supersede l f) l.length = ((supersede l f).filter openR).length := by unfold leftTo; rw [← hml, List.take_length]
        rw [hlt] at hle ⊢
        simp -zeta only [bin_geq, ifB_dec]
        refine ⟨fun hfull => ?_, fun hroom => ?_⟩
        · refine bad _ _ _ _ (by rw [he]; unfold askOn; rw [if_pos (by omega)]) h
        · have hon : askOn l f ver back = (supersede l f ++ [⟨l.length + 1, f, ver, max 0 (f - back), 0, 0⟩], f, 0) := by unfold askOn; rw [if_neg (by omega)]
          rw [hon] at k
          simp -zeta only [rowR.len r sl_s_api_Replacement, bin_add, bin_sub, blt_max]
          rw [wrap_id (by omega) (by omega), wrap_id (by omega) (by omega)]
          simp -zeta only [bd_api_Replacement_0_1_2_3]
          refine h.push1 (α := Rpl) 0 rfl ⟨l.length + 1, f, ver, max 0 (f - back), 0, 0⟩ sl_s_api_Replacement (by decide) (by omega) (by omega) fun v' w5 h => ?_
          exact k _ _ _ ⟨v', rfl, rfl⟩ (h.take 1)
    simp -zeta only [bin_gtr, bin_lss, ifB_dec]
    refine ⟨fun h0 => ⟨fun h1 => ?_, fun h1 => hJ2 fr d1 (by rw [hA, if_neg fun hh => h1 hh.2])⟩, fun h0 => hJ2 fr d1 (by rw [hA, if_neg fun hh => h0 hh.1])⟩
    rw [if_pos ⟨h0, h1⟩] at hA
    rw [un_not, ifB_not, ifB_bool]
    refine ⟨fun hr => ⟨fun h2 => bad _ _ _ _ (by rw [hA, if_neg fun hh => by omega]) h, fun h2 => hJ2 (hor + back) (by omega) (by rw [hA, if_pos ⟨hr, by omega⟩])⟩, fun hr => bad _ _ _ _ (by rw [hA, if_neg fun hh => by rw [hr] at hh; cases hh.1]) h⟩
  have hrd := rowD.read (h.here (i := 0) rfl)
  have hff := firstR_filter l
  have hFl : (l.filter openR).length ≤ l.length := List.length_filter_le _ _
  obtain ⟨F, hF⟩ : ∃ F, F = l.filter openR := ⟨_, rfl⟩
  rw [← hF] at hrd hff hFl h
  clear hF
  simp -zeta only [rowR.len hrd sl_s_api_Replacement, bin_gtr, ifB_dec]
  cases F with
  | nil => exact ⟨fun hh => absurd hh (by decide), fun _ => hJ1 _ _ (fun hh => by rw [hff] at hh; cases hh.1) h⟩
  | cons a F =>
    have hff : firstR l = (a, true) := hff
    refine ⟨fun _ => ?_, fun hh => absurd (show (0 : Int) < ((a :: F).length : Nat) by rw [List.length_cons]; omega) hh⟩
    obtain ⟨g, o, hx, hc⟩ := rowR.idx hrd sl_s_api_Replacement (P := Tryz.prog) (i := 0) (by rw [List.length_cons]; omega)
    have hx : ∀ {Kp : Value → Prop}, pureK Tryz.prog (sIdxAddr T_s_api_Replacement u0 (.int .i64 0)) Kp = Kp _ := hx
    have hc : (cellsR g o a.cs).here w2 := hc
    simp -zeta only [hx, field_addr f_api_Replacement_4, cellsR.ld hc sc_int (j := 4) rfl, bin_eql, ifB_dec]
    exact ⟨fun h2 => bad _ _ _ _ (by rw [hA, if_pos (by rw [hff]; exact ⟨rfl, h2⟩)]) h, fun h2 => hJ1 _ _ (fun hh => by rw [hff] at hh; exact h2 hh.2) h⟩
end
end Go.Proofs.YtdecfgbdppfmcaaGreatDoor
