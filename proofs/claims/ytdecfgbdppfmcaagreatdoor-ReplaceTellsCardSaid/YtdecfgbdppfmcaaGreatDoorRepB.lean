/-
  Replacements: Ask, Abandon, Caught, Cut, timeline.Replace, Side; the laws' step. No condition.
-/
import Derived.Test.YtdecfgbdppfmcaaGreatDoorRepA
namespace Go.Proofs.YtdecfgbdppfmcaaGreatDoor
open Go.RowKit
set_option maxRecDepth 100000

section
variable {B : Base}

/-! ### timeline.Replace -/
def replT (t : List Seg) (fr ver : Int) : List Seg × Int :=
  if fr < 0 then ([], 3) else if 1099511627776 < fr then ([], 3) else if ver < 1 then ([], 3) else if 50 < ver then ([], 3) else
    (if t.take (behindS t (fr - 1)) = [] ∨ ((t.take (behindS t (fr - 1))).getLast?.map (·.version)) ≠ some ver then t.take (behindS t (fr - 1)) ++ [⟨fr, ver⟩] else t.take (behindS t (fr - 1)), 0)
theorem Replace_m {v : Value} {t : List Seg} (r : rowR v t B) (hs : Sorted t) (hl : t.length ≤ 1000000) (fr ver : Int) : Makes Tryz.prog B (sCall F_timeline_Replace #[v, .int .i64 fr, .int .i64 ver])
    fun u τ => ∃ v', u = .tuple #[v', .int .i64 (replT t fr ver).2] ∧ τ = [rowD T_api_Seg v' (replT t fr ver).1] := by
  refine Makes.intro fun B' w K base h k => ?_
  replace r := base r
  refine timeline_Replace.up (timeline_Replace.call ?_)
  unfold timeline_Replace.pt
  have bad : replT t fr ver = ([], 3) → K (.tuple #[.slice none 0 0, .int .i64 3]) w := fun e => by
    rw [e] at k
    exact k _ _ _ ⟨_, rfl, rfl⟩ (h.addNil Seg T_api_Seg)
  simp -zeta only [bin_lss, bin_gtr, ifB_dec]
  refine ⟨fun e1 => bad (by unfold replT; rw [if_pos e1]), fun e1 => ⟨fun e2 => bad (by unfold replT; rw [if_neg e1, if_pos e2]), fun e2 => ⟨fun e3 => bad (by unfold replT; rw [if_neg e1, if_neg e2, if_pos e3]), fun e3 => ⟨fun e4 => bad (by unfold replT; rw [if_neg e1, if_neg e2, if_neg e3, if_pos e4]), fun e4 => ?_⟩⟩⟩⟩
  have hok : replT t fr ver = (if t.take (behindS t (fr - 1)) = [] ∨ ((t.take (behindS t (fr - 1))).getLast?.map (·.version)) ≠ some ver then t.take (behindS t (fr - 1)) ++ [⟨fr, ver⟩] else t.take (behindS t (fr - 1)), 0) := by
    unfold replT; rw [if_neg e1, if_neg e2, if_neg e3, if_neg e4]
  rw [hok] at k
  have hb := behindS_le t (fr - 1)
  simp -zeta only [bin_sub]
  rw [wrap_id (by omega) (by omega)]
  refine h.ask (fun B2 own base2 => behind_g (base2 r) hs hl (fr - 1)) fun w1 h => ?_
  rw [rowR.cutE r sl_s_api_Seg (lo := 0) (hi := behindS t (fr - 1)) Bnd.none Bnd.some (Nat.zero_le _) hb]
  have hcut := rowR.cutR r (lo := 0) (hi := behindS t (fr - 1)) (Nat.zero_le _) hb
  rw [List.drop_zero] at hcut
  generalize hT : t.take (behindS t (fr - 1)) = T at hcut k
  have hTl : T.length ≤ 1000000 := by rw [← hT]; simp; omega
  refine h.make (fun B2 own base2 => gslices_Clone_s_api_Seg_api_Seg (base2 hcut) (by omega) (by omega)) fun u τ w2 hp h => ?_
  subst hp
  refine LETJ_intro fun J hJ => ?_
  replace hJ : ∀ v' w', Rel B' w' [rowD T_api_Seg v' (if T = [] ∨ (T.getLast?.map (·.version)) ≠ some ver then T ++ [⟨fr, ver⟩] else T)] → J (v', ()) w' := fun v' w' h => hJ _ _ (k _ _ _ ⟨v', rfl, rfl⟩ h)
  have add : (T = [] ∨ (T.getLast?.map (·.version)) ≠ some ver) → upK Tryz.prog (sBuildSlice T_s_api_Seg 1 #[(0, (⟨fr, ver⟩ : Seg).v)]) w2 fun t48 w4 => upK Tryz.prog (sBlt .append #[T_s_api_Seg, T_s_api_Seg] T_s_api_Seg #[false, false] #[u, t48]) w4 fun t49 w5 => J (t49, ()) w5 := fun hc => by
    rw [if_pos hc] at hJ
    exact h.push1 (α := Seg) 0 rfl ⟨fr, ver⟩ sl_s_api_Seg (by decide) (by omega) (by omega) fun v' w3 h => hJ v' w3 h
  have hrd := rowD.read (h.here (i := 0) rfl)
  simp -zeta only [rowR.len hrd sl_s_api_Seg, bin_eql, ifB_dec, bd_api_Seg_0_1]
  refine ⟨fun e => add (.inl (List.eq_nil_of_length_eq_zero (by omega))), fun e => ?_⟩
  have hlen : 0 < T.length := by omega
  obtain ⟨g, o, hx, hc⟩ := rowR.idx hrd sl_s_api_Seg (P := Tryz.prog) (i := T.length - 1) (by omega)
  have hw : IntKind.i64.wrap ((T.length : Int) - 1) = ((T.length - 1 : Nat) : Int) := by rw [wrap_id (by omega) (by omega)]; omega
  have hlast : T.getLast?.map (·.version) = some (T[T.length - 1]).version := by
    rw [List.getLast?_eq_getElem?, List.getElem?_eq_getElem (by omega)]
    rfl
  simp -zeta only [bin_sub, hw, hx, field_addr f_api_Seg_1, cellsR.ld hc sc_int (j := 1) rfl, bin_neq, ifB_not, ifB_dec]
  refine ⟨fun e2 => ?_, fun e2 => add (.inr (by rw [hlast]; intro he; exact e2 (Option.some.inj he)))⟩
  refine hJ _ _ ?_
  rw [if_neg (by
    rintro (h1 | h1)
    · rw [h1] at hlen; simp at hlen
    · exact h1 (by rw [hlast]; exact congrArg some e2))]
  exact h

/-! ### Ask, set, Cut -/
def setS (l : List Rpl) (no st : Int) : List Rpl × Int :=
  if within no 1 l.length = true then
    let r := l.getD (no - 1).toNat zeroR
    if r.state = 0 ∨ r.state = 1 then (l.set (no - 1).toNat { r with state := st }, 0) else ([], 7)
  else ([], 4)
theorem within_iff {n a b : Int} : within n a b = true ↔ a ≤ n ∧ n ≤ b := by simp [within]

theorem set_m {v : Value} {l : List Rpl} (r : rowR v l B) (hl : l.length ≤ 1000000) (no st : Int) : Makes Tryz.prog B (sCall F_replace_set #[v, .int .i64 no, .int .i64 st])
    fun u τ => ∃ v', u = .tuple #[v', .int .i64 (setS l no st).2] ∧ τ = [rowD T_api_Replacement v' (setS l no st).1] := by
  refine Makes.intro fun B' w K base h k => ?_
  replace r := base r
  refine replace_set.up (replace_set.call ?_)
  unfold replace_set.pt
  simp -zeta only [rowR.len r sl_s_api_Replacement]
  refine h.ask (fun _ _ _ => within_g no 1 l.length) fun w1 h => ?_
  rw [un_not, ifB_not, ifB_bool]
  have bad : ∀ c, setS l no st = ([], c) → K (.tuple #[.slice none 0 0, .int .i64 c]) w1 := fun c e => by
    rw [e] at k
    exact k _ _ _ ⟨_, rfl, rfl⟩ (h.addNil Rpl T_api_Replacement)
  refine ⟨fun e => ?_, fun e => bad _ (by unfold setS; rw [if_neg (by rw [e]; decide)])⟩
  obtain ⟨q1, q2⟩ := within_iff.1 e
  obtain ⟨n, hn, hnl⟩ : ∃ n : Nat, no - 1 = n ∧ n < l.length := ⟨(no - 1).toNat, by omega, by omega⟩
  have hg : l.getD n zeroR = l[n] := by rw [List.getD_eq_getElem?_getD, List.getElem?_eq_getElem hnl]; rfl
  have hS : setS l no st = if l[n].state = 0 ∨ l[n].state = 1 then (l.set n { l[n] with state := st }, 0) else ([], 7) := by
    unfold setS
    rw [if_pos e, hn]
    simp only [Int.toNat_natCast, hg]
  have hw : IntKind.i64.wrap (no - 1) = n := by rw [wrap_id (by omega) (by omega), hn]
  refine LETJ_intro fun J hJ => ?_
  replace hJ : (l[n].state = 0 ∨ l[n].state = 1) → J () w1 := by
    intro hst
    refine hJ _ _ ?_
    rw [hS, if_pos hst] at k
    refine h.make (fun B2 own base2 => gslices_Clone_s_api_Replacement_api_Replacement (base2 r) (by omega) (by omega)) fun u τ w2 hp h => ?_
    subst hp
    obtain ⟨g, cap, rfl⟩ := h.open_ (i := 0) rfl (by omega)
    simp -zeta only [bin_sub, hw, idx_own (α := Rpl) sl_s_api_Replacement hnl, field_addr f_api_Replacement_4]
    refine h.set_sc (α := Rpl) 0 rfl { l[n] with state := st } (j := n) (f := 4) hnl rfl (by decide) rfl sc_int rfl fun w3 h => ?_
    exact k _ _ _ ⟨_, rfl, rfl⟩ h
  obtain ⟨g, o, hx, hc⟩ := rowR.idx r sl_s_api_Replacement hnl
  simp -zeta only [bin_sub, hw, hx, field_addr f_api_Replacement_4, cellsR.ld (h.hereB hc) sc_int (j := 4) rfl, bin_neq, ifB_not, ifB_dec]
  refine ⟨fun e0 => hJ (.inl e0), fun e0 => ⟨fun e1 => hJ (.inr e1), fun e1 => bad _ ?_⟩⟩
  rw [hS, if_neg (by rintro (h | h); exact e0 h; exact e1 h)]

theorem abandon_m {v : Value} {l : List Rpl} (r : rowR v l B) (hl : l.length ≤ 1000000) (no : Int) : Makes Tryz.prog B (sCall F_replace_Abandon #[v, .int .i64 no])
    fun u τ => ∃ v', u = .tuple #[v', .int .i64 (setS l no 4).2] ∧ τ = [rowD T_api_Replacement v' (setS l no 4).1] := by
  refine Makes.intro fun B' w K base h k => ?_
  refine replace_Abandon.up (replace_Abandon.call ?_)
  unfold replace_Abandon.pt
  refine h.make (fun B2 own base2 => set_m (base2 (base r)) hl no 4) fun u τ w2 hp h => ?_
  obtain ⟨v', rfl, rfl⟩ := hp
  simp -zeta only [ext_2_0, ext_2_1]
  exact k _ _ _ ⟨v', rfl, rfl⟩ h
theorem caught_m {v : Value} {l : List Rpl} (r : rowR v l B) (hl : l.length ≤ 1000000) (no : Int) (yes : Bool) : Makes Tryz.prog B (sCall F_replace_Caught #[v, .int .i64 no, .bool yes])
    fun u τ => ∃ v', u = .tuple #[v', .int .i64 (setS l no (if yes = true then 1 else 0)).2] ∧ τ = [rowD T_api_Replacement v' (setS l no (if yes = true then 1 else 0)).1] := by
  refine Makes.intro fun B' w K base h k => ?_
  refine replace_Caught.up (replace_Caught.call ?_)
  unfold replace_Caught.pt
  rw [ifB_bool]
  refine ⟨fun e => ?_, fun e => ?_⟩ <;> subst e
  · refine h.make (fun B2 own base2 => set_m (base2 (base r)) hl no 1) fun u τ w2 hp h => ?_
    obtain ⟨v', rfl, rfl⟩ := hp
    simp -zeta only [ext_2_0, ext_2_1]
    exact k _ _ _ ⟨v', rfl, rfl⟩ h
  · refine h.make (fun B2 own base2 => set_m (base2 (base r)) hl no 0) fun u τ w2 hp h => ?_
    obtain ⟨v', rfl, rfl⟩ := hp
    simp -zeta only [ext_2_0, ext_2_1]
    exact k _ _ _ ⟨v', rfl, rfl⟩ h

def supersede (l : List Rpl) (fr : Int) : List Rpl := l.map fun r => if openR r = true ∧ fr ≤ r.from_ then { r with state := 5 } else r
def askOn (l : List Rpl) (fr ver back : Int) : List Rpl × Int × Int :=
  if ((supersede l fr).filter openR).length ≥ 3 then ([], 0, 6) else (supersede l fr ++ [⟨l.length + 1, fr, ver, max 0 (fr - back), 0, 0⟩], fr, 0)
def askS (l : List Rpl) (fr ver back hor : Int) (raise : Bool) : List Rpl × Int × Int :=
  if within fr 0 1099511627776 = true then if within ver 1 50 = true then if within back 0 1099511627776 = true then if within hor 0 1099511627776 = true then
    if (firstR l).2 = true ∧ (firstR l).1.state = 2 then ([], 0, 8)
    else if 0 < hor ∧ fr < hor + back then
      if raise = true ∧ hor + back ≤ 1099511627776 then askOn l (hor + back) ver back else ([], hor + back, 23)
    else askOn l fr ver back
  else ([], 0, 3) else ([], 0, 3) else ([], 0, 3) else ([], 0, 3)

set_option maxRecDepth 100000 in
theorem ask_m {v : Value} {l : List Rpl} (r : rowR v l B) (hl : l.length ≤ 100000) (fr ver back hor : Int) (raise : Bool) : Makes Tryz.prog B (sCall F_replace_Ask #[v, .int .i64 fr, .int .i64 ver, .int .i64 back, .int .i64 hor, .bool raise])
    fun u τ => ∃ v', u = .tuple #[v', .int .i64 (askS l fr ver back hor raise).2.1, .int .i64 (askS l fr ver back hor raise).2.2] ∧ τ = [rowD T_api_Replacement v' (askS l fr ver back hor raise).1] := by
  refine Makes.intro fun B' w K base h k => ?_
  replace r := base r
  refine replace_Ask.up (replace_Ask.call ?_)
  unfold replace_Ask.pt
  have bad : ∀ w' τ n c, askS l fr ver back hor raise = ([], n, c) → Rel B' w' τ → K (.tuple #[.slice none 0 0, .int .i64 n, .int .i64 c]) w' := fun w' τ n c e h => by
    rw [e] at k
    exact k _ _ _ ⟨_, rfl, rfl⟩ (h.nil.addNil Rpl T_api_Replacement)
  refine h.ask (fun _ _ _ => within_g fr 0 1099511627776) fun w1 h => ?_
  rw [un_not, ifB_not, ifB_bool]
  refine ⟨fun c1 => ?_, fun c1 => bad _ _ _ _ (by unfold askS; rw [if_neg (by rw [c1]; decide)]) h⟩
  refine h.ask (fun _ _ _ => within_g ver 1 50) fun w1 h => ?_
  rw [un_not, ifB_not, ifB_bool]
  refine ⟨fun c2 => ?_, fun c2 => bad _ _ _ _ (by unfold askS; rw [if_pos c1, if_neg (by rw [c2]; decide)]) h⟩
  refine h.ask (fun _ _ _ => within_g back 0 1099511627776) fun w1 h => ?_
  rw [un_not, ifB_not, ifB_bool]
  refine ⟨fun c3 => ?_, fun c3 => bad _ _ _ _ (by unfold askS; rw [if_pos c1, if_pos c2, if_neg (by rw [c3]; decide)]) h⟩
  refine h.ask (fun _ _ _ => within_g hor 0 1099511627776) fun w1 h => ?_
  rw [un_not, ifB_not, ifB_bool]
  refine ⟨fun c4 => ?_, fun c4 => bad _ _ _ _ (by unfold askS; rw [if_pos c1, if_pos c2, if_pos c3, if_neg (by rw [c4]; decide)]) h⟩
  have hA : askS l fr ver back hor raise = if (firstR l).2 = true ∧ (firstR l).1.state = 2 then ([], 0, 8)
    else if 0 < hor ∧ fr < hor + back then
      if raise = true ∧ hor + back ≤ 1099511627776 then askOn l (hor + back) ver back else ([], hor + back, 23)
    else askOn l fr ver back := by unfold askS; rw [if_pos c1, if_pos c2, if_pos c3, if_pos c4]
  have d1 := within_iff.1 c1
  have d3 := within_iff.1 c3
  have d4 := within_iff.1 c4
  refine LETJ_intro fun J1 hJ1 => ?_
  replace hJ1 : ∀ w' τ, ¬ ((firstR l).2 = true ∧ (firstR l).1.state = 2) → Rel B' w' τ → J1 () w' := by
    clear h
    intro w1 τ hno h
    refine hJ1 _ _ ?_
    clear hJ1
    rw [if_neg hno] at hA
    have h := h.nil
    refine LETJ_intro fun J2 hJ2 => ?_
    replace hJ2 : ∀ f : Int, 0 ≤ f ∧ f ≤ 1099511627776 → askS l fr ver back hor raise = askOn l f ver back → J2 (.int .i64 f, ()) w1 := by
      intro f hf he
      refine hJ2 _ _ ?_
      clear hJ2
      rw [he] at k
      refine h.make (fun B2 own base2 => gslices_Clone_s_api_Replacement_api_Replacement (base2 r) (by omega) (by omega)) fun u τ w2 hp h => ?_
      subst hp
      have hrd := rowD.read (h.here (i := 0) rfl)
      simp -zeta only [List.nil_append, rowR.len hrd sl_s_api_Replacement]
      have hml : (supersede l f).length = l.length := by simp [supersede]
      refine LOOP_intro (fun x w' => ∃ i : Nat, i ≤ l.length ∧ x = (.int .i64 i, ()) ∧ Rel B' w' [rowD T_api_Replacement u ((supersede l f).take i ++ l.drop i)]) (fun x _ => l.length - (match x.1 with | .int _ n => n.toNat | _ => 0)) ⟨0, Nat.zero_le _, rfl, h⟩ ?_
      clear h hrd
      rintro x w3 ⟨i, hi, rfl, h⟩ next hnext
      have hrl : ((supersede l f).take i ++ l.drop i).length = l.length := by simp [hml]; omega
      simp -zeta only [bin_lss, ifB_dec]
      refine ⟨fun hlt => ?_, fun hge => ?_⟩
      · have hil : i < l.length := by omega
        obtain ⟨g, cap, hu⟩ := h.open_ (i := 0) rfl (by omega)
        rw [hrl] at hu
        subst hu
        have hels : (supersede l f)[i]'(by omega) = if openR l[i] = true ∧ f ≤ l[i].from_ then { l[i] with state := 5 } else l[i] := by simp [supersede]
        have hset : ∀ x : Rpl, ((supersede l f).take i ++ l.drop i).set i x = (supersede l f).take i ++ x :: l.drop (i + 1) := by
          intro x
          rw [List.set_append_right _ _ (by simp; omega), List.length_take, show i - min i (supersede l f).length = 0 by omega, List.drop_eq_getElem_cons hil, List.set_cons_zero]
        have hsucc : (supersede l f).take (i + 1) ++ l.drop (i + 1) = (supersede l f).take i ++ (if openR l[i] = true ∧ f ≤ l[i].from_ then { l[i] with state := 5 } else l[i]) :: l.drop (i + 1) := by
          rw [List.take_succ_eq_append_getElem (by omega), hels, List.append_assoc]
          rfl
        refine LETJ_intro fun J3 hJ3 => ?_
        replace hJ3 : ∀ w', Rel B' w' [rowD T_api_Replacement (.slice (some ⟨g, 0, none⟩) l.length cap) ((supersede l f).take (i + 1) ++ l.drop (i + 1))] → J3 () w' := by
          intro w' h
          refine hJ3 _ _ ?_
          show pureK _ _ _
          rw [bin_add, wrap_id (by omega) (by omega)]
          exact hnext _ _ ⟨i + 1, by omega, rfl, h⟩ (by simp only; omega)
        clear hnext
        have hc := h.elem (α := Rpl) (i := 0) (j := i) rfl (by omega)
        have hel : ((supersede l f).take i ++ l.drop i)[i]'(by omega) = l[i] := by
          rw [List.getElem_append_right (by simp; omega)]
          simp [show i - min i (supersede l f).length = 0 by omega]
        rw [hel] at hc
        simp -zeta only [idx_own (α := Rpl) sl_s_api_Replacement hil, cellsR.ldAg hc ag_api_Replacement rfl]
        refine h.allocAg (ds := l[i].cs.toArray) z_api_Replacement rfl ag_api_Replacement rfl (fun v hv => Enc.one l[i] v hv) fun b w4 h => ?_
        rw [h.ldAg 1 rfl ag_api_Replacement rfl]
        refine h.ask (fun _ _ _ => open_g l[i]) fun w5 h => ?_
        have same : ¬ (openR l[i] = true ∧ f ≤ l[i].from_) → J3 () w5 := fun hno => hJ3 _ (by
          rw [hsucc, if_neg hno, ← List.drop_eq_getElem_cons hil]
          exact h.take 1)
        rw [ifB_bool]
        refine ⟨fun ho => ?_, fun ho => same fun hh => by rw [ho] at hh; cases hh.1⟩
        simp -zeta only [field_addr f_api_Replacement_1, field_addr f_api_Replacement_4, Nat.zero_add, h.ld 1 rfl sc_int (o := 1) rfl, bin_geq, ifB_dec, idx_own (α := Rpl) sl_s_api_Replacement hil]
        refine ⟨fun hf1 => ?_, fun hf1 => same fun hh => hf1 hh.2⟩
        refine h.set_sc (α := Rpl) 0 rfl { l[i] with state := 5 } (j := i) (f := 4) (by omega) rfl (by decide) (by rw [hel]; rfl) sc_int rfl fun w6 h => hJ3 _ ?_
        rw [hsucc, if_pos ⟨ho, hf1⟩]
        have h := h.take 1
        have h : Rel B' w6 [rowD T_api_Replacement (.slice (some ⟨g, 0, none⟩) l.length cap) (((supersede l f).take i ++ l.drop i).set i { l[i] with state := 5 })] := h
        rw [hset] at h
        exact h
      · have : i = l.length := by omega
        subst this
        clear hnext
        rw [List.take_of_length_le (by omega), List.drop_length, List.append_nil] at h
        refine h.make (fun B2 own base2 => Open_m (rowD.read (own (i := 0) rfl)) (by omega)) fun u2 τ w4 hp h => ?_
        subst hp
        have hrd := rowD.read (h.here (i := 1) rfl)
        simp -zeta only [rowR.len hrd sl_s_api_Replacement, bin_geq, ifB_dec]
        refine ⟨fun hfull => ?_, fun hroom => ?_⟩
        · refine bad _ _ _ _ (by rw [he]; unfold askOn; rw [if_pos (by omega)]) h
        · have hon : askOn l f ver back = (supersede l f ++ [⟨l.length + 1, f, ver, max 0 (f - back), 0, 0⟩], f, 0) := by unfold askOn; rw [if_neg (by omega)]
          rw [hon] at k
          simp -zeta only [rowR.len r sl_s_api_Replacement, bin_add, bin_sub, blt_max]
          rw [wrap_id (by omega) (by omega), wrap_id (by omega) (by omega)]
          simp -zeta only [bd_api_Replacement_0_1_2_3]
          refine h.push1 (α := Rpl) 0 rfl ⟨l.length + 1, f, ver, max 0 (f - back), 0, 0⟩ sl_s_api_Replacement (by decide) (by omega) (by omega) fun v' w5 h => ?_
          exact k _ _ _ ⟨v', rfl, rfl⟩ (h.take 1)
    simp -zeta only [bin_add]
    rw [wrap_id (by omega) (by omega)]
    simp -zeta only [bin_gtr, bin_lss, ifB_dec]
    refine ⟨fun h0 => ⟨fun h1 => ?_, fun h1 => hJ2 fr d1 (by rw [hA, if_neg fun hh => h1 hh.2])⟩, fun h0 => hJ2 fr d1 (by rw [hA, if_neg fun hh => h0 hh.1])⟩
    rw [if_pos ⟨h0, h1⟩] at hA
    rw [un_not, ifB_not, ifB_bool]
    refine ⟨fun hr => ⟨fun h2 => bad _ _ _ _ (by rw [hA, if_neg fun hh => by omega]) h, fun h2 => hJ2 (hor + back) (by omega) (by rw [hA, if_pos ⟨hr, by omega⟩])⟩, fun hr => bad _ _ _ _ (by rw [hA, if_neg fun hh => by rw [hr] at hh; cases hh.1]) h⟩
  refine h.ask (fun B2 own base2 => first_g (base2 r) (by omega)) fun w2 h => ?_
  simp -zeta only [ext_2_0, ext_2_1]
  refine h.allocAg (ds := (firstR l).1.cs.toArray) z_api_Replacement rfl ag_api_Replacement rfl (fun v hv => Enc.one (firstR l).1 v hv) fun b w3 h => ?_
  rw [ifB_bool]
  refine ⟨fun ho => ?_, fun ho => hJ1 _ _ (fun hh => by rw [ho] at hh; cases hh.1) h⟩
  simp -zeta only [field_addr f_api_Replacement_4, Nat.zero_add, h.ld 0 rfl sc_int (o := 4) rfl, bin_eql, ifB_dec]
  exact ⟨fun h2 => bad _ _ _ _ (by rw [hA, if_pos ⟨ho, h2⟩]) h, fun h2 => hJ1 _ _ (fun hh => h2 hh.2) h⟩
end
end Go.Proofs.YtdecfgbdppfmcaaGreatDoor
