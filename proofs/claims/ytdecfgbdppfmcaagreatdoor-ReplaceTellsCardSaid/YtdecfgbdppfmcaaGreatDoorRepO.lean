/-
  Bytes and Read of both packages of chapter 47. No condition.
-/
import Derived.Test.YtdecfgbdppfmcaaGreatDoorRepN
import Derived.Test.YtdecfgbdppfmcaaGreatDoorWireX
import Derived.Test.YtdecfgbdppfmcaaGreatDoorWireS
import Derived.Test.YtdecfgbdppfmcaaGreatDoorWireBldR
namespace Go.Proofs.YtdecfgbdppfmcaaGreatDoor
open Go.RowKit
set_option maxRecDepth 100000

theorem len_ofL {P : Program} {T U : TypeId} {bs : Array Bool} {w : World} {Kp : Value → Prop} {l : Bs} (hT : P.underlying T = some .string) : readK P (sBlt .len #[T] U bs #[.string (ofL l)]) w Kp = Kp (.int .i64 l.length) := by rw [str_len hT, bl_ofL]
theorem neq_ofL {P : Program} {T : TypeId} {xo yo : Operand} {a b : Bs} {K : Value → Prop} : pureK P (sBin .neq T xo yo (.string (ofL a)) (.string (ofL b))) K = K (.bool (!decide (a = b))) := by
  rw [neq_str]
  congr 3
  exact decide_eq_decide.2 ⟨fun h => by have := congrArg bl h; rwa [bl_ofL, bl_ofL] at this, fun h => by rw [h]⟩

def ints5 (r : Rpl) : List Int := [r.from_, r.version, r.start, r.state, r.cut]
def encRp (r : Rpl) : Bs := (ints5 r).flatMap encI
def encReps (l : List Rpl) : Bs := encI l.length ++ l.flatMap encRp
def GoodR (r : Rpl) : Prop := ∀ n ∈ ints5 r, inI n
theorem encRp_eq (r : Rpl) : encRp r = (((encI r.from_ ++ encI r.version) ++ encI r.start) ++ encI r.state) ++ encI r.cut := by
  simp [encRp, ints5, List.append_assoc]
theorem encRp_len {r : Rpl} (h : GoodR r) : (encRp r).length ≤ 105 := flat_len encI (ints5 r) 21 fun n hn => encI_len (h n hn)
theorem encRp_pos (r : Rpl) : 1 ≤ (encRp r).length := by
  rw [encRp_eq]; simp [encI]; omega
theorem flat_pos : ∀ l : List Rpl, l.length ≤ (l.flatMap encRp).length
  | [] => Nat.le_refl _
  | a :: l => by
    rw [List.flatMap_cons, List.length_append, List.length_cons]
    have := flat_pos l
    have := encRp_pos a
    omega
theorem encReps_gt (l : List Rpl) : l.length < (encReps l).length := by
  unfold encReps
  rw [List.length_append]
  have := flat_pos l
  have : 1 ≤ (encI (l.length : Int)).length := by simp [encI]
  omega
theorem GoodR.f1 {r : Rpl} (h : GoodR r) : inI r.from_ ∧ inI r.version ∧ inI r.start ∧ inI r.state ∧ inI r.cut :=
  ⟨h _ (by simp [ints5]), h _ (by simp [ints5]), h _ (by simp [ints5]), h _ (by simp [ints5]), h _ (by simp [ints5])⟩

noncomputable def five (s : RS) : ((((Int × Int) × Int) × Int) × Int) × RS := thenR (thenR (thenR (thenR intR intR) intR) intR) intR s
noncomputable def oneR (i : Nat) (s : RS) : Rpl × RS := (⟨(i : Int) + 1, (five s).1.1.1.1.1, (five s).1.1.1.1.2, (five s).1.1.1.2, (five s).1.1.2, (five s).1.2⟩, (five s).2)
noncomputable def readTo : Nat → List Rpl → RS → List Rpl
  | 0, L, _ => L
  | k + 1, L, s => readTo k (L ++ [(oneR L.length s).1]) (oneR L.length s).2
theorem readTo_len : ∀ (k : Nat) (L : List Rpl) (s : RS), (readTo k L s).length = L.length + k
  | 0, L, s => rfl
  | k + 1, L, s => by
    rw [readTo, readTo_len k, List.length_append, List.length_singleton]; omega
open Classical in
noncomputable def postR (t : Bs) (L : List Rpl) : List Rpl × Bool := if encReps L = t ∧ RightL L then (L, true) else ([], false)
theorem postR_no {t : Bs} {L : List Rpl} (h : ¬ (encReps L = t ∧ RightL L)) : postR t L = ([], false) := by unfold postR; rw [if_neg h]
theorem postR_yes {t : Bs} {L : List Rpl} (h : encReps L = t ∧ RightL L) : postR t L = (L, true) := by unfold postR; rw [if_pos h]
noncomputable def numOf (t : Bs) : Nat := (natR ⟨t, false⟩).1.toNat
noncomputable def readL (t : Bs) : List Rpl × Bool := postR t (readTo (min (numOf t) t.length) [] (natR ⟨t, false⟩).2)
theorem readL_ref (t : Bs) : readL t = postR t (readTo (min (numOf t) (t.length + 1)) [] (natR ⟨t, false⟩).2) := by
  unfold readL
  by_cases h : numOf t ≤ t.length
  · rw [Nat.min_eq_left h, Nat.min_eq_left (by omega)]
  · have no : ∀ k, t.length ≤ k → postR t (readTo k [] (natR ⟨t, false⟩).2) = ([], false) := fun k hk => postR_no fun hh => by
      have h1 := encReps_gt (readTo k [] (natR ⟨t, false⟩).2)
      rw [hh.1, readTo_len, List.length_nil] at h1
      omega
    rw [no _ (by omega), no _ (by omega)]
theorem five_le (s : RS) : (five s).2.rest.length ≤ s.rest.length := by
  have h1 := intR_le s
  have h2 := intR_le (intR s).2
  have h3 := intR_le (intR (intR s).2).2
  have h4 := intR_le (intR (intR (intR s).2).2).2
  have h5 := intR_le (intR (intR (intR (intR s).2).2).2).2
  show (intR (intR (intR (intR (intR s).2).2).2).2).2.rest.length ≤ _
  omega
theorem oneR_good (i : Nat) (s : RS) : GoodR (oneR i s).1 := by
  have hi : ∀ s : RS, inI (intR s).1 := fun s => (numR_le (.inl rfl : isEnd 59) minI s).2.1
  intro n hn
  simp only [ints5, List.mem_cons, List.not_mem_nil, or_false] at hn
  rcases hn with rfl | rfl | rfl | rfl | rfl
  · exact hi s
  · exact hi (intR s).2
  · exact hi (intR (intR s).2).2
  · exact hi (intR (intR (intR s).2).2).2
  · exact hi (intR (intR (intR (intR s).2).2).2).2

section
variable {B : Base}
theorem Bytes_g (hB : wireD B) {v : Value} {l : List Rpl} (r : rowR v l B) (hl : l.length ≤ 1000000) (hg : ∀ x ∈ l, GoodR x) : Gives Tryz.prog B (sCall F_replace_Bytes #[v]) (.string (ofL (encReps l))) := by
  refine Gives.introB fun B' w K base h start k => ?_
  replace hB := base hB
  replace r := base r
  refine replace_Bytes.up (replace_Bytes.call ?_)
  unfold replace_Bytes.pt
  have hin : inI (l.length : Int) := ⟨by omega, by omega⟩
  have hall := flat_len encRp l 105 fun x hx => encRp_len (hg x hx)
  have hl0 := encI_len hin
  have en : encN (l.length : Int) = encI l.length := by unfold encN; rw [if_neg (by omega)]
  refine h.alloc z_strings_Builder fun b w1 h => ?_
  have h := start w1 b h
  simp -zeta only [rowR.len r sl_s_api_Replacement]
  refine h.ask (fun B2 own base2 => wNum_g (base2 hB) hin) fun w2 h => ?_
  rw [en]
  refine h.bldWrite (Nat.le_refl _) (by rw [ofL_size, List.length_nil]; omega) fun _ w3 h => ?_
  rw [bl_ofL, List.nil_append] at h
  unfold encReps at k
  generalize hhd : encI (l.length : Int) = hd at *
  refine LOOP_intro (fun x w' => ∃ i : Nat, i ≤ l.length ∧ x = (.int .i64 i, ()) ∧ Rel B' w' [bldD B'.W.heap.size b (hd ++ (l.take i).flatMap encRp)]) (fun x _ => l.length - (match x.1 with | .int _ n => n.toNat | _ => 0))
    ⟨0, Nat.zero_le _, rfl, by rw [List.take_zero, List.flatMap_nil, List.append_nil]; exact h⟩ ?_
  clear h
  rintro x w4 ⟨i, hi, rfl, h⟩ next hnext
  simp -zeta only [bin_lss, ifB_dec]
  refine ⟨fun hlt => ?_, fun hge => ?_⟩
  · have hil : i < l.length := by omega
    have gi := hg _ (List.getElem_mem hil)
    have hstep := flat_take_succ encRp (l := l) (i := i) hil
    have hle := flat_take_le encRp l i
    refine LETJ_intro fun J hJ => ?_
    replace hJ : ∀ w' τ, Rel B' w' (bldD B'.W.heap.size b (hd ++ (l.take (i + 1)).flatMap encRp) :: τ) → J () w' := fun w' τ h => by
      refine hJ _ _ ?_
      rw [bin_add, wrap_id (by omega) (by omega)]
      exact hnext _ _ ⟨i + 1, hil, rfl, h.take 1⟩ (by simp only; omega)
    clear hnext
    obtain ⟨g, o, hx, hc⟩ := rowR.idx r sl_s_api_Replacement hil
    simp -zeta only [hx, cellsR.ldAg (h.hereB hc) ag_api_Replacement rfl]
    refine h.allocAg (ds := l[i].cs.toArray) z_api_Replacement rfl ag_api_Replacement rfl (fun v hv => Enc.one l[i] v hv) fun b5 w5 h => ?_
    simp -zeta only [field_addr f_api_Replacement_1, field_addr f_api_Replacement_2, field_addr f_api_Replacement_3, field_addr f_api_Replacement_4, field_addr f_api_Replacement_5, Nat.zero_add, h.ld 1 rfl sc_int (o := 1) rfl, h.ld 1 rfl sc_int (o := 2) rfl, h.ld 1 rfl sc_int (o := 3) rfl, h.ld 1 rfl sc_int (o := 4) rfl, h.ld 1 rfl sc_int (o := 5) rfl]
    refine (h.take 1).buildN (α := Int) (ints5 l[i]) sl_s_int fun u w6 h => ?_
    have h : Rel B' w6 [bldD B'.W.heap.size b (hd ++ (l.take i).flatMap encRp), rowD T_int u (ints5 l[i])] := h
    have h5 : (ints5 l[i]).length = 5 := rfl
    rw [rowR.len (rowD.read (h.here (i := 1) rfl)) sl_s_int, h5]
    refine LOOP_intro (fun x w' => ∃ q : Nat, q ≤ 5 ∧ x = (.int .i64 q, ()) ∧ Rel B' w' [bldD B'.W.heap.size b ((hd ++ (l.take i).flatMap encRp) ++ ((ints5 l[i]).take q).flatMap encI), rowD T_int u (ints5 l[i])]) (fun x _ => 5 - (match x.1 with | .int _ n => n.toNat | _ => 0))
      ⟨0, Nat.zero_le _, rfl, by rw [List.take_zero, List.flatMap_nil, List.append_nil]; exact h⟩ ?_
    clear h
    rintro x w7 ⟨q, hq, rfl, h⟩ next hnext
    simp -zeta only [bin_lss, ifB_dec]
    refine ⟨fun hlt => ?_, fun hge => ?_⟩
    · have hq5 : q < (ints5 l[i]).length := by omega
      have gq := gi _ (List.getElem_mem hq5)
      have hl1 := encI_len gq
      have hst := flat_take_succ encI (l := ints5 l[i]) (i := q) hq5
      have hle2 := flat_take_le encI (ints5 l[i]) q
      have hle3 : ((ints5 l[i]).flatMap encI).length ≤ 105 := encRp_len gi
      obtain ⟨g2, o2, hx2, hc2⟩ := rowR.idx (rowD.read (h.here (i := 1) rfl)) sl_s_int (P := Tryz.prog) hq5
      have hc2 : (cellsR g2 o2 [.int .i64 (ints5 l[i])[q]]).here w7 := hc2
      simp -zeta only [hx2, cellsR.ld0 hc2 sc_int rfl]
      refine h.ask (fun B2 own base2 => wInt_g (base2 hB) gq) fun w8 h => ?_
      refine h.bldWriteR (by decide) (Nat.le_refl _) (by rw [ofL_size]; simp only [List.length_append]; omega) fun _ w9 h => ?_
      rw [bin_add, wrap_id (by omega) (by omega)]
      refine hnext _ _ ⟨q + 1, by omega, rfl, ?_⟩ (by simp only; omega)
      rw [hst, ← List.append_assoc]
      rw [bl_ofL] at h
      exact h
    · have hq5 : q = 5 := by omega
      subst hq5
      rw [List.take_of_length_le (l := ints5 l[i]) (by rw [h5]; exact Nat.le_refl _)] at h
      refine hJ _ [rowD T_int u (ints5 l[i])] ?_
      rw [hstep, ← List.append_assoc]
      exact h
  · have hie : i = l.length := by omega
    subst hie
    rw [List.take_length] at h
    refine h.bldString (Nat.le_refl _) fun w5 h => ?_
    exact k _ _ h
theorem fBytes_g {v : Value} {l : List Rpl} (r : rowR v l B) (hl : l.length ≤ 1000000) (hg : ∀ x ∈ l, GoodR x) : Gives Tryz.prog B (sCall F_errataref47_Bytes #[v]) (.string (ofL (encReps l))) := by
  refine Gives.intro fun B' w K base h k => ?_
  replace r := base r
  refine errataref47_Bytes.up (errataref47_Bytes.call ?_)
  unfold errataref47_Bytes.pt
  have hin : inI (l.length : Int) := ⟨by omega, by omega⟩
  have hall := flat_len encRp l 105 fun x hx => encRp_len (hg x hx)
  have hl0 := encI_len hin
  have en : encN (l.length : Int) = encI l.length := by unfold encN; rw [if_neg (by omega)]
  rw [rowR.len r sl_s_api_Replacement]
  refine h.ask (fun B2 own base2 => fNum_g hin) fun w2 h => ?_
  rw [en]
  unfold encReps at k
  generalize hhd : encI (l.length : Int) = hd at *
  refine LOOP_intro (fun x w' => ∃ i : Nat, i ≤ l.length ∧ x = (.string (ofL (hd ++ (l.take i).flatMap encRp)), .int .i64 i, ()) ∧ Rel B' w' []) (fun x _ => l.length - (match x.2.1 with | .int _ n => n.toNat | _ => 0))
    ⟨0, Nat.zero_le _, by rw [List.take_zero, List.flatMap_nil, List.append_nil]; rfl, h⟩ ?_
  clear h
  rintro x w4 ⟨i, hi, rfl, h⟩ next hnext
  simp -zeta only [rowR.len r sl_s_api_Replacement, bin_lss, ifB_dec]
  refine ⟨fun hlt => ?_, fun hge => ?_⟩
  · have hil : i < l.length := by omega
    have gi := hg _ (List.getElem_mem hil)
    obtain ⟨f1, f2, f3, f4, f5⟩ := gi.f1
    have l1 := encI_len f1
    have l2 := encI_len f2
    have l3 := encI_len f3
    have l4 := encI_len f4
    have l5 := encI_len f5
    have hstep := flat_take_succ encRp (l := l) (i := i) hil
    have hle := flat_take_le encRp l i
    obtain ⟨g, o, hx, hc⟩ := rowR.idx r sl_s_api_Replacement hil
    simp -zeta only [hx, cellsR.ldAg (h.hereB hc) ag_api_Replacement rfl]
    refine h.allocAg (ds := l[i].cs.toArray) z_api_Replacement rfl ag_api_Replacement rfl (fun v hv => Enc.one l[i] v hv) fun b5 w5 h => ?_
    have h := h.tick
    have h : Rel B' (tick w5) [cellD b5 T_api_Replacement l[i].cs.toArray] := h
    have is : ∀ {w : World} {o : Nat} {x : Value}, Rel B' w [cellD b5 T_api_Replacement l[i].cs.toArray] → l[i].cs[o]? = some x → Is Tryz.prog (sLoad T_int (.pointer (some ⟨b5, o, none⟩))) x w := fun h hx => cellD.is (h.here (i := 0) rfl) sc_int hx
    simp -zeta only [field_addr f_api_Replacement_1, field_addr f_api_Replacement_2, field_addr f_api_Replacement_3, field_addr f_api_Replacement_4, field_addr f_api_Replacement_5, Nat.zero_add, h.ld 0 rfl sc_int (o := 1) (v := .int .i64 l[i].from_) rfl, h.ld 0 rfl sc_int (o := 2) (v := .int .i64 l[i].version) rfl, h.ld 0 rfl sc_int (o := 3) (v := .int .i64 l[i].start) rfl, h.ld 0 rfl sc_int (o := 4) (v := .int .i64 l[i].state) rfl, h.ld 0 rfl sc_int (o := 5) (v := .int .i64 l[i].cut) rfl]
    refine h.ask (fun B2 own base2 => fInt_g f1) fun w6 h => ?_
    refine ⟨is h rfl, is h rfl, is h rfl, is h rfl, ?_⟩
    rw [strL_add (by simp only [List.length_append]; omega)]
    refine h.ask (fun B2 own base2 => fInt_g f2) fun w7 h => ?_
    refine ⟨is h rfl, is h rfl, is h rfl, ?_⟩
    rw [strL_add (by simp only [List.length_append]; omega)]
    refine h.ask (fun B2 own base2 => fInt_g f3) fun w8 h => ?_
    refine ⟨is h rfl, is h rfl, ?_⟩
    rw [strL_add (by simp only [List.length_append]; omega)]
    refine h.ask (fun B2 own base2 => fInt_g f4) fun w9 h => ?_
    refine ⟨is h rfl, ?_⟩
    rw [strL_add (by simp only [List.length_append]; omega)]
    refine h.ask (fun B2 own base2 => fInt_g f5) fun w10 h => ?_
    rw [strL_add (by simp only [List.length_append]; omega), bin_add, wrap_id (by omega) (by omega)]
    refine hnext _ _ ⟨i + 1, by omega, ?_, h.nil⟩ (by simp only; omega)
    rw [hstep, encRp_eq]
    simp only [List.append_assoc]
    rfl
  · have hie : i = l.length := by omega
    subst hie
    rw [List.take_length]
    exact k _ _ h

theorem Read_m (hB : wireD B) {t : Bs} (ht : t.length ≤ 100000) : Makes Tryz.prog B (sCall F_replace_Read #[.string (ofL t)]) fun u τ => ∃ v, u = .tuple #[v, .bool (readL t).2] ∧ τ = [rowD T_api_Replacement v (readL t).1] := by
  refine Makes.intro fun B' w K base h k => ?_
  replace hB := base hB
  refine replace_Read.up (replace_Read.call ?_)
  unfold replace_Read.pt
  refine h.make (fun B2 own base2 => open_m) fun u τ w1 hp h => ?_
  obtain ⟨p, rfl, rfl⟩ := hp
  have h : Rel B' w1 [rdD p ⟨t, false⟩] := h
  have no : readL t = ([], false) → ∀ w' τ, Rel B' w' τ → K (.tuple #[.slice none 0 0, .bool false]) w' := fun e w' τ h => by
    rw [e] at k
    exact k _ _ _ ⟨_, rfl, rfl⟩ (h.nil.addNil Rpl T_api_Replacement)
  have yes : ∀ v L, readL t = (L, true) → ∀ w', Rel B' w' [rowD T_api_Replacement v L] → K (.tuple #[v, .bool true]) w' := fun v L e w' h => by
    rw [e] at k
    exact k _ _ _ ⟨_, rfl, rfl⟩ h
  clear k
  have q0 : (⟨t, false⟩ : RS).rest.length = t.length := rfl
  have q1 := natR_le ⟨t, false⟩
  have n0 : 0 ≤ (natR ⟨t, false⟩).1 := (numR_le (.inl rfl : isEnd 59) 0 ⟨t, false⟩).2.2 (Int.le_refl 0)
  refine h.rd_ 0 rfl (fun B2 own base2 => rNum_d (base2 hB) (by omega)) fun w2 h => ?_
  have hm : min (natR ⟨t, false⟩).1 (t.length : Int) = ((min (numOf t) t.length : Nat) : Int) := by unfold numOf; omega
  rw [len_ofL U_string, blt_min, hm]
  unfold readL at no yes
  have hml : min (numOf t) t.length ≤ t.length := Nat.min_le_right _ _
  have h : Rel B' w2 [rdD p (natR ⟨t, false⟩).2] := h
  generalize min (numOf t) t.length = m at *
  generalize (natR ⟨t, false⟩).2 = r0 at *
  refine LOOP_intro (fun x w' => ∃ (i : Nat) (v : Value) (L : List Rpl) (s : RS), i ≤ m ∧ x = (v, .int .i64 i, ()) ∧ L.length = i ∧ readTo (m - i) L s = readTo m [] r0 ∧ (∀ y ∈ L, GoodR y) ∧ s.rest.length ≤ t.length ∧ Rel B' w' [rdD p s, rowD T_api_Replacement v L]) (fun x _ => m - (match x.2.1 with | .int _ n => n.toNat | _ => 0))
    ⟨0, _, [], r0, Nat.zero_le _, rfl, rfl, rfl, fun y hy => (by cases hy), by omega, h.addNil Rpl T_api_Replacement⟩ ?_
  clear h
  rintro x w3 ⟨i, v, L, s, hi, rfl, hL, hev, hgood, hsl, h⟩ next hnext
  rw [bin_lss, ifB_dec]
  refine ⟨fun hlt => ?_, fun hge => ?_⟩
  · obtain ⟨q, hq⟩ : ∃ q, m - i = q + 1 := ⟨m - i - 1, by omega⟩
    rw [hq, readTo] at hev
    have z1 := intR_le s
    have z2 := intR_le (intR s).2
    have z3 := intR_le (intR (intR s).2).2
    have z4 := intR_le (intR (intR (intR s).2).2).2
    have z5 := intR_le (intR (intR (intR (intR s).2).2).2).2
    rw [bin_add, wrap_id (by omega) (by omega)]
    refine h.rd_ 0 rfl (fun B2 own base2 => rInt_d (base2 hB) (by omega)) fun w4 h => ?_
    refine h.rd_ 0 rfl (fun B2 own base2 => rInt_d (base2 hB) (by omega)) fun w5 h => ?_
    refine h.rd_ 0 rfl (fun B2 own base2 => rInt_d (base2 hB) (by omega)) fun w6 h => ?_
    refine h.rd_ 0 rfl (fun B2 own base2 => rInt_d (base2 hB) (by omega)) fun w7 h => ?_
    refine h.rd_ 0 rfl (fun B2 own base2 => rInt_d (base2 hB) (by omega)) fun w8 h => ?_
    rw [bd_api_Replacement_0_1_2_3_4_5]
    have hone : (oneR L.length s).1 = ⟨(i : Int) + 1, (intR s).1, (intR (intR s).2).1, (intR (intR (intR s).2).2).1, (intR (intR (intR (intR s).2).2).2).1, (intR (intR (intR (intR (intR s).2).2).2).2).1⟩ := by rw [hL]; rfl
    have hrest : (oneR L.length s).2 = (intR (intR (intR (intR (intR s).2).2).2).2).2 := rfl
    have hgo := oneR_good L.length s
    have h : Rel B' w8 [rdD p (intR (intR (intR (intR (intR s).2).2).2).2).2, rowD T_api_Replacement v L] := h
    rw [← hrest] at h
    have hle : (oneR L.length s).2.rest.length ≤ s.rest.length := five_le s
    generalize oneR L.length s = y at *
    obtain ⟨y, s2⟩ := y
    simp only at hone hev hgo h hle
    refine h.push1 (α := Rpl) 1 rfl y sl_s_api_Replacement (by decide) (by omega) (by omega) (fun v2 w9 h => ?_) (by rw [hone]; rfl)
    rw [bin_add, wrap_id (by omega) (by omega)]
    refine hnext _ _ ⟨i + 1, v2, L ++ [y], s2, by omega, rfl, by rw [List.length_append, hL]; rfl, by rw [show m - (i + 1) = q by omega]; exact hev, fun z hz => ?_, by omega, h⟩ (by simp only; omega)
    rcases List.mem_append.1 hz with hz | hz
    · exact hgood z hz
    · rw [List.mem_singleton.1 hz]; exact hgo
  · have e0 : m - i = 0 := by omega
    rw [e0, readTo] at hev
    rw [← hev] at no yes
    refine h.ask (fun B2 own base2 => Bytes_g (base2 hB) (rowD.read (own (i := 1) rfl)) (by omega) hgood) fun w4 h => ?_
    rw [neq_ofL, ifB_not, ifB_dec]
    refine ⟨fun c1 => ?_, fun c1 => no (postR_no fun hh => c1 hh.1) _ _ h⟩
    refine h.ask (fun B2 own base2 => Right_g (rowD.read (own (i := 1) rfl)) (by omega)) fun w5 h => ?_
    rw [un_not, ifB_not, ifB_bool]
    exact ⟨fun c2 => yes v L (postR_yes ⟨c1, rightL_true.1 c2⟩) _ (h.pick [1] (by decide)), fun c2 => no (postR_no fun hh => by rw [rightL_true.2 hh.2] at c2; cases c2) _ _ h⟩
theorem fRead_m {t : Bs} (ht : t.length ≤ 100000) : Makes Tryz.prog B (sCall F_errataref47_Read #[.string (ofL t)]) fun u τ => ∃ v, u = .tuple #[v, .bool (readL t).2] ∧ τ = [rowD T_api_Replacement v (readL t).1] := by
  refine Makes.intro fun B' w K base h k => ?_
  refine errataref47_Read.up (errataref47_Read.call ?_)
  unfold errataref47_Read.pt
  refine h.make (fun B2 own base2 => fopen_m) fun u τ w1 hp h => ?_
  obtain ⟨p, rfl, rfl⟩ := hp
  have h : Rel B' w1 [rfD p ⟨t, false⟩] := h
  rw [readL_ref] at k
  have no : postR t (readTo (min (numOf t) (t.length + 1)) [] (natR ⟨t, false⟩).2) = ([], false) → ∀ w' τ, Rel B' w' τ → K (.tuple #[.slice none 0 0, .bool false]) w' := fun e w' τ h => by
    rw [e] at k
    exact k _ _ _ ⟨_, rfl, rfl⟩ (h.nil.addNil Rpl T_api_Replacement)
  have yes : ∀ v L, postR t (readTo (min (numOf t) (t.length + 1)) [] (natR ⟨t, false⟩).2) = (L, true) → ∀ w', Rel B' w' [rowD T_api_Replacement v L] → K (.tuple #[v, .bool true]) w' := fun v L e w' h => by
    rw [e] at k
    exact k _ _ _ ⟨_, rfl, rfl⟩ h
  clear k
  have q0 : (⟨t, false⟩ : RS).rest.length = t.length := rfl
  have q1 := natR_le ⟨t, false⟩
  have n0 : 0 ≤ (natR ⟨t, false⟩).1 := (numR_le (.inl rfl : isEnd 59) 0 ⟨t, false⟩).2.2 (Int.le_refl 0)
  refine h.rf_ 0 rfl (fun B2 own base2 => fNumR_d (by omega)) fun w2 h => ?_
  have h : Rel B' w2 [rfD p (natR ⟨t, false⟩).2] := h
  have hnn : (natR ⟨t, false⟩).1 = (numOf t : Int) := by unfold numOf; omega
  rw [hnn]
  generalize numOf t = n at *
  generalize (natR ⟨t, false⟩).2 = r0 at *
  refine LETJ_intro fun J hJ => ?_
  replace hJ : ∀ v L s w', L.length ≤ t.length + 1 → L = readTo (min n (t.length + 1)) [] r0 → (∀ y ∈ L, GoodR y) → Rel B' w' [rfD p s, rowD T_api_Replacement v L] → J (v, ()) w' := fun v L s w' hlen hL hgood h => by
    refine hJ _ _ ?_
    rw [← hL] at no yes
    refine h.ask (fun B2 own base2 => fBytes_g (rowD.read (own (i := 1) rfl)) (by omega) hgood) fun w4 h => ?_
    rw [neq_ofL, ifB_not, ifB_dec]
    refine ⟨fun c1 => ?_, fun c1 => no (postR_no fun hh => c1 hh.1) _ _ h⟩
    refine h.ask (fun B2 own base2 => fRight_g (rowD.read (own (i := 1) rfl)) (by omega)) fun w5 h => ?_
    rw [un_not, ifB_not, ifB_bool]
    exact ⟨fun c2 => yes v L (postR_yes ⟨c1, rightL_true.1 c2⟩) _ (h.pick [1] (by decide)), fun c2 => no (postR_no fun hh => by rw [rightL_true.2 hh.2] at c2; cases c2) _ _ h⟩
  clear no yes
  refine LOOP_intro (fun x w' => ∃ (i : Nat) (v : Value) (L : List Rpl) (s : RS), i ≤ n ∧ i ≤ t.length + 1 ∧ x = (v, .int .i64 i, ()) ∧ L.length = i ∧ readTo (min n (t.length + 1) - i) L s = readTo (min n (t.length + 1)) [] r0 ∧ (∀ y ∈ L, GoodR y) ∧ s.rest.length ≤ t.length ∧ Rel B' w' [rfD p s, rowD T_api_Replacement v L]) (fun x _ => n - (match x.2.1 with | .int _ n => n.toNat | _ => 0))
    ⟨0, _, [], r0, Nat.zero_le _, Nat.zero_le _, rfl, rfl, rfl, fun y hy => (by cases hy), by omega, h.addNil Rpl T_api_Replacement⟩ ?_
  clear h
  rintro x w3 ⟨i, v, L, s, hi, hi2, rfl, hL, hev, hgood, hsl, h⟩ next hnext
  have stop : min n (t.length + 1) - i = 0 → J (v, ()) w3 := fun e0 => by
    rw [e0, readTo] at hev
    exact hJ v L s w3 (by omega) hev hgood h
  clear hJ
  rw [bin_lss, ifB_dec]
  refine ⟨fun hlt => ?_, fun hge => stop (by omega)⟩
  rw [len_ofL U_string, bin_leq, ifB_dec]
  refine ⟨fun hlt2 => ?_, fun hge => stop (by omega)⟩
  clear stop
  obtain ⟨q, hq⟩ : ∃ q, min n (t.length + 1) - i = q + 1 := ⟨min n (t.length + 1) - i - 1, by omega⟩
  rw [hq, readTo] at hev
  have z1 := intR_le s
  have z2 := intR_le (intR s).2
  have z3 := intR_le (intR (intR s).2).2
  have z4 := intR_le (intR (intR (intR s).2).2).2
  have z5 := intR_le (intR (intR (intR (intR s).2).2).2).2
  rw [bin_add, wrap_id (by omega) (by omega)]
  refine h.rf_ 0 rfl (fun B2 own base2 => fIntR_d (by omega)) fun w4 h => ?_
  rw [bd_api_Replacement_0_1]
  refine h.allocAg (ds := (⟨(i : Int) + 1, (intR s).1, 0, 0, 0, 0⟩ : Rpl).cs.toArray) z_api_Replacement rfl ag_api_Replacement rfl (fun v hv => Enc.one (⟨(i : Int) + 1, (intR s).1, 0, 0, 0, 0⟩ : Rpl) v hv) fun b w5 h => ?_
  simp -zeta only [field_addr f_api_Replacement_2, field_addr f_api_Replacement_3, field_addr f_api_Replacement_4, field_addr f_api_Replacement_5, Nat.zero_add]
  refine h.rf_ 0 rfl (fun B2 own base2 => fIntR_d (by omega)) fun w6 h => ?_
  refine h.st 2 rfl sc_int (show 2 < 6 by omega) rfl fun w7 h => ?_
  refine h.rf_ 0 rfl (fun B2 own base2 => fIntR_d (by omega)) fun w8 h => ?_
  refine h.st 2 rfl sc_int (show 3 < 6 by omega) rfl fun w9 h => ?_
  refine h.rf_ 0 rfl (fun B2 own base2 => fIntR_d (by omega)) fun w10 h => ?_
  refine h.st 2 rfl sc_int (show 4 < 6 by omega) rfl fun w11 h => ?_
  refine h.rf_ 0 rfl (fun B2 own base2 => fIntR_d (by omega)) fun w12 h => ?_
  refine h.st 2 rfl sc_int (show 5 < 6 by omega) rfl fun w13 h => ?_
  have hone : (oneR L.length s).1 = ⟨(i : Int) + 1, (intR s).1, (intR (intR s).2).1, (intR (intR (intR s).2).2).1, (intR (intR (intR (intR s).2).2).2).1, (intR (intR (intR (intR (intR s).2).2).2).2).1⟩ := by rw [hL]; rfl
  have hrest : (oneR L.length s).2 = (intR (intR (intR (intR (intR s).2).2).2).2).2 := rfl
  have hgo := oneR_good L.length s
  have h : Rel B' w13 [rfD p (intR (intR (intR (intR (intR s).2).2).2).2).2, rowD T_api_Replacement v L, cellD b T_api_Replacement (⟨(i : Int) + 1, (intR s).1, (intR (intR s).2).1, (intR (intR (intR s).2).2).1, (intR (intR (intR (intR s).2).2).2).1, (intR (intR (intR (intR (intR s).2).2).2).2).1⟩ : Rpl).cs.toArray] := h
  rw [← hrest, ← hone] at h
  have hle : (oneR L.length s).2.rest.length ≤ s.rest.length := five_le s
  generalize oneR L.length s = y at *
  obtain ⟨y, s2⟩ := y
  simp only at hone hev hgo h hle
  rw [h.ldAg 2 rfl ag_api_Replacement rfl]
  refine h.push1 (α := Rpl) 1 rfl y sl_s_api_Replacement (by decide) (by omega) (by omega) fun v2 w14 h => ?_
  rw [bin_add, wrap_id (by omega) (by omega)]
  refine hnext _ _ ⟨i + 1, v2, L ++ [y], s2, by omega, by omega, rfl, by rw [List.length_append, hL]; rfl, by rw [show min n (t.length + 1) - (i + 1) = q by omega]; exact hev, fun z hz => ?_, by omega, h.take 2⟩ (by simp only; omega)
  rcases List.mem_append.1 hz with hz | hz
  · exact hgood z hz
  · rw [List.mem_singleton.1 hz]; exact hgo
end
end Go.Proofs.YtdecfgbdppfmcaaGreatDoor
