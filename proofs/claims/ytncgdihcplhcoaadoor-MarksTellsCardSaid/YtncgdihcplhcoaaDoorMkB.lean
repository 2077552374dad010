/-
  A tracker of marks: New, Copy, Of, Count, Bytes, Cut; the laws' do and small. No condition.
-/
import Derived.Test.YtncgdihcplhcoaaDoorMkA
import Derived.Test.YtncgdihcplhcoaaDoorArgs
import Derived.Test.YtncgdihcplhcoaaDoorMk
import Derived.Test.YtncgdihcplhcoaaDoorLib
namespace Go.Proofs.YtncgdihcplhcoaaDoor
open Go.RowKit
set_option maxRecDepth 100000

section
variable {P : Program} {B : Base} {w : World} {σ : List Dat} {α : Type} [Enc α] {E T : TypeId} {by_ : Nat} {l : List α}
/-- 'copy(s[lo:], s[:m])' of a slice of one's own. -/
theorem Rel.selfCopy (h : Rel B w σ) (i : Nat) {g n cap lo m : Nat} {T2 : TypeId} (hi : σ[i]? = some (rowD E (.slice (some ⟨g, 0, none⟩) n cap) l)) (hT : sliceB P T E (Enc.sz α) by_ = true) (hlo : lo ≤ l.length) (hm : m ≤ l.length) {U : TypeId} {bs : Array Bool} {K' : Value → World → Prop}
    (k : ∀ w', Rel B w' (σ.set i (rowD E (.slice (some ⟨g, 0, none⟩) n cap) (l.take lo ++ (l.take m).take (l.length - lo) ++ l.drop (lo + ((l.take m).take (l.length - lo)).length)))) → K' (.int .i64 ((l.take m).take (l.length - lo)).length) w') :
    pureK P (sSlice T (.slice (some ⟨g, 0, none⟩) n cap) (some (.int .i64 lo)) none none) fun a => pureK P (sSlice T (.slice (some ⟨g, 0, none⟩) n cap) none (some (.int .i64 m)) none) fun b => upK P (sBlt .copy #[T, T2] U bs #[a, b]) (Go.Proofs.YtncgdihcplhcoaaDoor.tick w) K' := by
  have h := h.tick
  obtain ⟨c, h⟩ := h
  have hr := rowD.own (h.own i _ hi)
  obtain ⟨rfl, cur, hb, hcap, _⟩ := hr.inv
  obtain ⟨a1, ha1, q1⟩ := cut_own (α := α) (P := P) (g := g) (lo := lo) hT hlo hcap
  obtain ⟨v2, q2, hr2⟩ := hr.read.cut hT (lov := none) (hiv := some (.int .i64 m)) Bnd.none Bnd.some (Nat.zero_le _) hm
  rw [q1, q2]
  rw [List.drop_zero] at hr2
  exact copy_part (lo := lo) hT hr hr2 hlo ha1 fun w' st hr' => k w' ⟨c, h.step hi st hr'.rowD⟩
end
section
variable {B : Base} {w : World} {σ : List Dat} {p : Nat} {s : MarkS}
theorem mul_g (n : Nat) (hn : n ≤ 200) : Gives Tryd.prog B (sCall F_math_bits_Mul #[.int .u64 1, .int .u64 n]) (.tuple #[.int .u64 0, .int .u64 n]) := by
  refine Gives.intro fun B' w K base h k => ?_
  replace k := k _ _ h
  clear h base
  refine math_bits_Mul.up (math_bits_Mul.call ?_)
  unfold math_bits_Mul.pt
  refine math_bits_Mul64.up (math_bits_Mul64.call ?_)
  unfold math_bits_Mul64.pt
  simp only [bin_and, bin_shr (show (0 : Int) ≤ 32 by omega), bin_mul, bin_add, ext_2_0, ext_2_1]
  refine (congr (congrArg (fun a b => K (.tuple #[.int .u64 a, .int .u64 b]) w) ?_) ?_).mpr k
  · clear k
    revert n
    decide +kernel
  · clear k
    revert n
    decide +kernel
theorem repeat_m {v : Value} {a : MkD} (r : rowR v [a] B) {n : Nat} (hn : n ≤ 200) : Makes Tryd.prog B (sCall F_slices_Repeat_s_marks_input_marks_input #[v, .int .i64 n]) fun u τ => τ = [rowD T_marks_input u (List.replicate n a)] := by
  refine Makes.intro fun B' w K base h k => ?_
  replace r := base r
  refine slices_Repeat_s_marks_input_marks_input.up (slices_Repeat_s_marks_input_marks_input.call ?_)
  unfold slices_Repeat_s_marks_input_marks_input.pt
  have e1 : IntKind.wrap .u64 (([a] : List MkD).length : Int) = 1 := rfl
  have e2 : IntKind.wrap .u64 (n : Int) = n := IntWalk.u64_in _ (by omega)
  simp -zeta only [bin_lss, ifB_dec, rowR.len r sl_s_marks_input]
  refine ⟨fun h0 => by omega, fun _ => ?_⟩
  rw [conv_int U_int U_uint, conv_int U_int U_uint, e1, e2]
  refine h.ask (fun B2 own base2 => mul_g n hn) fun w3 h => ?_
  have e3 : ¬ ((9223372036854775807 : Int) < n) := by omega
  simp -zeta only [ext_2_0, ext_2_1, bin_gtr, ifB_dec]
  refine ⟨fun h => absurd h (by omega), fun _ => ⟨fun h => absurd h e3, fun _ => ?_⟩⟩
  rw [conv_int U_uint U_int, wrap_id (by omega) (by omega)]
  refine h.mkSliceV (n := n) (⟨0, false⟩ : MkD) sl_s_marks_input (by kernel_rfl) (by omega) (by omega) fun g w4 h => ?_
  have h : Rel B' w4 [rowD T_marks_input (.slice (some ⟨g, 0, none⟩) n n) (List.replicate n (⟨0, false⟩ : MkD))] := h
  refine h.copyPart 0 (l2 := [a]) (n := n) (lo := 0) rfl sl_s_marks_input (Rd.base r) (Nat.zero_le _) (.inl (by rw [Nat.zero_mul])) fun w5 h => ?_
  have el : (List.take 0 (List.replicate n (⟨0, false⟩ : MkD)) ++ List.take ((List.replicate n (⟨0, false⟩ : MkD)).length - 0) [a] ++ List.drop (0 + (List.take ((List.replicate n (⟨0, false⟩ : MkD)).length - 0) [a]).length) (List.replicate n ⟨0, false⟩)) =
      List.replicate (min n 1) a ++ List.replicate (n - min n 1) ⟨0, false⟩ := by
    cases n with
    | zero => rfl
    | succ n => simp [List.replicate_succ]
  have h : Rel B' w5 [rowD T_marks_input (.slice (some ⟨g, 0, none⟩) n n) (List.take 0 (List.replicate n (⟨0, false⟩ : MkD)) ++ List.take ((List.replicate n (⟨0, false⟩ : MkD)).length - 0) [a] ++ List.drop (0 + (List.take ((List.replicate n (⟨0, false⟩ : MkD)).length - 0) [a]).length) (List.replicate n ⟨0, false⟩))] := h
  rw [el] at h
  refine LETJ_intro fun J1 hJ1 => ?_
  replace hJ1 : ∀ w', Rel B' w' [rowD T_marks_input (.slice (some ⟨g, 0, none⟩) n n) (List.replicate n a)] → J1 () w' := fun w' h => hJ1 _ _ (k _ _ _ rfl h)
  refine LOOP_intro (fun x w' => ∃ i : Nat, i ≤ n ∧ (1 ≤ i ∨ n = 0) ∧ x = (.int .i64 i, ()) ∧ Rel B' w' [rowD T_marks_input (.slice (some ⟨g, 0, none⟩) n n) (List.replicate i a ++ List.replicate (n - i) (⟨0, false⟩ : MkD))])
    (fun x _ => n - (match x.1 with | .int _ n => n.toNat | _ => 0)) ⟨min n 1, by omega, by omega, ?_, h⟩ ?_
  · have : (List.take ((List.replicate n (⟨0, false⟩ : MkD)).length - 0) [a]).length = min n 1 := by simp
    rw [this]
  clear h
  rintro y w6 ⟨i, hi, hi1, rfl, h⟩ next hnext
  have hlen : (List.replicate i a ++ List.replicate (n - i) (⟨0, false⟩ : MkD)).length = n := by simp; omega
  simp -zeta only [len_slice U_s_marks_input, bin_lss, ifB_dec]
  refine ⟨fun hlt => ?_, fun hge => ?_⟩
  · refine h.selfCopy 0 (lo := i) (m := i) rfl sl_s_marks_input (by rw [hlen]; exact hi) (by rw [hlen]; exact hi) fun w7 h => ?_
    have e4 : List.take i (List.replicate i a ++ List.replicate (n - i) (⟨0, false⟩ : MkD)) = List.replicate i a := List.take_left' (by simp)
    have e5 : List.take (n - i) (List.replicate i a) = List.replicate (min (n - i) i) a := by rw [List.take_replicate]
    have e7 : List.drop (i + min (n - i) i) (List.replicate i a ++ List.replicate (n - i) (⟨0, false⟩ : MkD)) = List.replicate (n - (i + min (n - i) i)) ⟨0, false⟩ := by
      rw [List.drop_append, List.drop_of_length_le (by simp), List.nil_append, List.drop_replicate]
      congr 1
      simp
      omega
    rw [hlen, e4, e5, List.length_replicate] at h ⊢
    rw [e7, List.replicate_append_replicate] at h
    rw [bin_add, wrap_id (by omega) (by omega)]
    refine hnext _ _ ⟨i + min (n - i) i, by omega, by omega, by simp, h⟩ (by simp only; omega)
  · have : i = n := by omega
    subst this
    refine hJ1 _ ?_
    simpa using h
theorem new_m (n : Int) : Makes Tryd.prog B (sCall F_marks_New #[.int .i64 n]) fun u τ => ∃ p, u = ptr1 p ∧ τ = [marksD p (fresh n)] := by
  refine Makes.intro fun B' w K base h k => ?_
  refine marks_New.up (marks_New.call ?_)
  unfold marks_New.pt
  rw [bd_marks_input_0]
  refine h.build1 (⟨-1, false⟩ : MkD) sl_s_marks_input (by decide) fun v w1 h => ?_
  simp -zeta only [blt_max, blt_min]
  have e : min (max n 0) 200 = (((min (max n 0) 200).toNat : Nat) : Int) := by omega
  rw [e]
  refine h.make (fun B2 own base2 => repeat_m (rowD.read (own (i := 0) rfl)) (by omega)) fun u τ w2 hp h => ?_
  subst hp
  obtain ⟨a, cap, hu, _⟩ := rowR.form (rowD.read (h.here (i := 1) rfl))
  subst hu
  rw [bd_marks_Marks_0_1]
  refine h.box fun p w3 h => ?_
  have h := h.pick [2, 1] (by decide)
  exact k _ _ _ ⟨p, rfl, rfl⟩ (marksD.close (s := fresh n) (v := ⟨.slice a (List.replicate (min (max n 0) 200).toNat (⟨-1, false⟩ : MkD)).length cap, rfl⟩) h)
theorem copy_m (hM : marksD p s B) (hl : s.l.length ≤ 200) : Makes Tryd.prog B (sCall F_marks_Marks_Copy #[ptr1 p]) fun u τ => ∃ q, u = ptr1 q ∧ τ = [marksD q s] := by
  refine Makes.intro fun B' w K base h k => ?_
  obtain ⟨v, hc, hr⟩ := marksD.peek (base hM)
  refine marks_Marks_Copy.up (marks_Marks_Copy.call ?_)
  unfold marks_Marks_Copy.pt
  have h := h.tick
  simp -zeta only [nil_ptr, field_addr f_marks_Marks_0, field_addr f_marks_Marks_1, Nat.add_zero, Nat.zero_add, cellD.ld (h.hereB hc) sc_s_marks_input (o := 0) rfl, cellD.ld (h.hereB hc) sc_int (o := 1) rfl]
  refine h.make (fun B2 own base2 => gslices_Clone_s_marks_input_marks_input (base2 hr) (by omega) (by omega)) fun u τ w2 hp h => ?_
  subst hp
  refine ⟨cellD.is (h.hereB hc) sc_int (o := 1) rfl, ?_⟩
  obtain ⟨a, cap, hu, _⟩ := rowR.form (rowD.read (h.here (i := 0) rfl))
  subst hu
  rw [bd_marks_Marks_0_1]
  refine h.box fun q w3 h => ?_
  have h := h.pick [1, 0] (by decide)
  exact k _ _ _ ⟨q, rfl, rfl⟩ (marksD.close (s := s) (v := ⟨.slice a s.l.length cap, rfl⟩) h)
theorem count_g (hM : marksD p s B) : Gives Tryd.prog B (sCall F_marks_Marks_Count #[ptr1 p]) (.int .i64 s.l.length) := by
  refine Gives.intro fun B' w K base h k => ?_
  obtain ⟨v, hc, hr⟩ := marksD.peek (base hM)
  refine marks_Marks_Count.up (marks_Marks_Count.call ?_)
  unfold marks_Marks_Count.pt
  simp -zeta only [nil_ptr, field_addr f_marks_Marks_0, Nat.add_zero, cellD.ld (h.hereB hc) sc_s_marks_input (o := 0) rfl, rowR.len hr sl_s_marks_input]
  exact k _ _ h
def ofS (s : MarkS) (i : Int) : Int × Bool := if has s i = false then (-1, false) else ((inp s i).mark, (inp s i).idle)
theorem of_g (hM : marksD p s B) (i : Int) : Gives Tryd.prog B (sCall F_marks_Marks_Of #[ptr1 p, .int .i64 i]) (.tuple #[.int .i64 (ofS s i).1, .bool (ofS s i).2]) := by
  refine Gives.intro fun B' w K base h k => ?_
  obtain ⟨v, hc, hr⟩ := marksD.peek (base hM)
  refine marks_Marks_Of.up (marks_Marks_Of.call ?_)
  unfold marks_Marks_Of.pt
  refine h.ask (fun B2 own base2 => has_c (base2 hc) (base2 hr) i) fun w1 h => ?_
  unfold ofS at k
  rw [un_not, ifB_not, ifB_bool]
  refine ⟨fun c1 => ?_, fun c1 => ?_⟩
  · rw [if_neg (by rw [c1]; decide)] at k
    obtain ⟨j, rfl, hj⟩ := has_iff.1 c1
    have hin : inp s j = s.l[j] := by
      unfold inp
      rw [List.getD_eq_getElem?_getD, Int.toNat_natCast, List.getElem?_eq_getElem hj]
      rfl
    rw [hin] at k
    have h := h.tick
    obtain ⟨g, o, hx, hcl⟩ := rowR.idx hr sl_s_marks_input (P := Tryd.prog) hj
    have hcl : cellsR g o s.l[j].cs B' := hcl
    simp -zeta only [nil_ptr, field_addr f_marks_Marks_0, Nat.add_zero, cellD.ld (h.hereB hc) sc_s_marks_input (o := 0) rfl, hx, field_addr f_marks_input_0, field_addr f_marks_input_1, cellsR.ld0 (h.hereB hcl) sc_int rfl, cellsR.ld (h.hereB hcl) sc_bool (j := 1) rfl]
    exact k _ _ h
  · rw [if_pos c1] at k
    exact k _ _ h
theorem bytes_g (hB : wireD B) (hM : marksD p s B) (hf : FineM s) : Gives Tryd.prog B (sCall F_marks_Marks_Bytes #[ptr1 p]) (.string (ofL (encM s))) := by
  refine Gives.introB fun B' w K base h start k => ?_
  replace hB := base hB
  obtain ⟨v, hc, hr⟩ := marksD.peek (base hM)
  refine marks_Marks_Bytes.up (marks_Marks_Bytes.call ?_)
  unfold marks_Marks_Bytes.pt
  have hl := hf.len
  have hall := encM_len hf
  refine h.alloc z_strings_Builder fun b w1 h => ?_
  have h := (start w1 b h).tick
  simp -zeta only [nil_ptr, field_addr f_marks_Marks_0, field_addr f_marks_Marks_1, Nat.add_zero, Nat.zero_add, cellD.ld (h.hereB hc) sc_s_marks_input (o := 0) rfl, cellD.ld (h.hereB hc) sc_int (o := 1) rfl, rowR.len hr sl_s_marks_input]
  refine h.ask (fun B2 own base2 => wInt_g (base2 hB) (inM_in hf.common)) fun w2 h => ?_
  refine ⟨is_of (fun {K} => rowR.len hr sl_s_marks_input), cellD.is (h.hereB hc) sc_s_marks_input (o := 0) rfl, ?_⟩
  have hin : inI (s.l.length : Int) := ⟨by omega, by omega⟩
  refine h.ask (fun B2 own base2 => wNum_g (base2 hB) hin) fun w3 h => ?_
  have en : encN (s.l.length : Int) = encI s.l.length := by unfold encN; rw [if_neg (by omega)]
  rw [en]
  have h1 := encI_len (inM_in hf.common)
  have h2 := encI_len hin
  rw [strL_add (by omega)]
  refine h.bldWrite (Nat.le_refl _) (by rw [ofL_size, List.length_append]; simp; omega) fun _ w4 h => ?_
  have h : Rel B' w4 [bldD B'.W.heap.size b (encI s.common ++ encI s.l.length)] := h
  simp -zeta only [cellD.ld (h.hereB hc) sc_s_marks_input (o := 0) rfl, rowR.len hr sl_s_marks_input]
  have hmap : (s.l.map toP).length = s.l.length := List.length_map ..
  unfold encM at hall k
  refine LOOP_intro (fun x w' => ∃ i : Nat, i ≤ s.l.length ∧ x = (.int .i64 i, ()) ∧ Rel B' w' [bldD B'.W.heap.size b (encI s.common ++ encI s.l.length ++ ((s.l.map toP).take i).flatMap encP)]) (fun x _ => s.l.length - (match x.1 with | .int _ n => n.toNat | _ => 0))
    ⟨0, Nat.zero_le _, rfl, by simpa using h⟩ ?_
  clear h
  rintro x w5 ⟨i, hi, rfl, h⟩ next hnext
  simp -zeta only [bin_lss, ifB_dec]
  refine ⟨fun hlt => ?_, fun hge => ?_⟩
  · have hil : i < s.l.length := by omega
    obtain ⟨g, o, hx, hcl⟩ := rowR.idx hr sl_s_marks_input (P := Tryd.prog) hil
    have hcl : cellsR g o s.l[i].cs B' := hcl
    have hgood := inP_toP (hf.marks s.l[i] (List.getElem_mem hil))
    rw [hx, cellsR.ldAg (h.hereB hcl) ag_marks_input rfl]
    refine h.allocAg (ds := s.l[i].cs.toArray) z_marks_input rfl ag_marks_input rfl (fun v hv => Enc.one s.l[i] v hv) fun a w6 h => ?_
    have h : Rel B' w6 [bldD B'.W.heap.size b (encI s.common ++ encI s.l.length ++ ((s.l.map toP).take i).flatMap encP), cellD a T_marks_input s.l[i].cs.toArray] := h
    refine LETJ_intro fun J1 hJ1 => ?_
    replace hJ1 : J1 (.int .i64 (b01 s.l[i].idle), ()) w6 := by
      refine hJ1 _ _ ?_
      simp -zeta only [field_addr f_marks_input_0, Nat.add_zero, h.ld 1 rfl sc_int (o := 0) rfl]
      refine h.ask (fun B2 own base2 => wInt_g (base2 hB) hgood.1) fun w7 h => ?_
      refine h.ask (fun B2 own base2 => wInt_g (base2 hB) hgood.2) fun w8 h => ?_
      have l1 := encI_len hgood.1
      have l2 := encI_len hgood.2
      have e1 : encI (toP s.l[i]).1 ++ encI (toP s.l[i]).2 = encP (toP s.l[i]) := rfl
      rw [show encI s.l[i].mark = encI (toP s.l[i]).1 from rfl, show encI (b01 s.l[i].idle) = encI (toP s.l[i]).2 from rfl, strL_add (by omega), e1]
      have hstep := flat_take_succ encP (l := s.l.map toP) (i := i) (by omega)
      rw [List.getElem_map] at hstep
      have hle := flat_take_le encP (s.l.map toP) (i + 1)
      rw [hstep, List.length_append] at hle
      simp only [List.length_append] at hall
      refine (h.take 1).bldWrite (Nat.le_refl _) (by rw [ofL_size]; simp only [List.length_append]; omega) fun _ w9 h => ?_
      rw [bin_add, wrap_id (by omega) (by omega)]
      refine hnext _ _ ⟨i + 1, hil, rfl, ?_⟩ (by simp only; omega)
      rw [hstep, ← List.append_assoc]
      exact h
    simp -zeta only [field_addr f_marks_input_1, Nat.zero_add, h.ld 1 rfl sc_bool (o := 1) rfl]
    rw [ifB_bool]
    refine ⟨fun e => ?_, fun e => ?_⟩
    · rw [e] at hJ1; exact hJ1
    · rw [e] at hJ1; exact hJ1
  · refine h.bldString (Nat.le_refl _) fun w7 h => ?_
    have hie : i = s.l.length := by omega
    subst hie
    have e : (s.l.map toP).take s.l.length = s.l.map toP := List.take_of_length_le (by omega)
    rw [e] at *
    exact k _ _ h
def cutS (time now ahead : Int) : Int := min time (if 0 < now ∧ 0 < ahead ∧ IntKind.wrap .i64 (now + ahead) < 0 then 9223372036854775807 else if now < 0 ∧ ahead < 0 ∧ 0 ≤ IntKind.wrap .i64 (now + ahead) then -9223372036854775808 else IntKind.wrap .i64 (now + ahead))
theorem cutM_g (time now ahead : Int) : Gives Tryd.prog B (sCall F_marks_Cut #[.int .i64 time, .int .i64 now, .int .i64 ahead]) (.int .i64 (cutS time now ahead)) := by
  refine Gives.intro fun B' w K base h k => ?_
  replace k := k _ _ h
  refine marks_Cut.up (marks_Cut.call ?_)
  unfold marks_Cut.pt
  unfold cutS at k
  simp -zeta only [bin_add]
  refine LETJ_intro fun J1 hJ1 => ?_
  replace hJ1 : ∀ x : Int, x = (if 0 < now ∧ 0 < ahead ∧ IntKind.wrap .i64 (now + ahead) < 0 then 9223372036854775807 else if now < 0 ∧ ahead < 0 ∧ 0 ≤ IntKind.wrap .i64 (now + ahead) then -9223372036854775808 else IntKind.wrap .i64 (now + ahead)) → J1 (.int .i64 x, ()) w := by
    rintro x rfl
    refine hJ1 _ _ ?_
    rw [blt_min]
    exact k
  simp -zeta only [bin_gtr, bin_lss, bin_geq, ifB_dec]
  refine ⟨fun h1 => ⟨fun h2 => ⟨fun h3 => hJ1 _ (by rw [if_pos ⟨h1, h2, h3⟩]), fun h3 => ⟨fun h4 => by omega, fun h4 => hJ1 _ (by rw [if_neg (by omega), if_neg (by omega)])⟩⟩, fun h2 => ⟨fun h4 => by omega, fun h4 => hJ1 _ (by rw [if_neg (by omega), if_neg (by omega)])⟩⟩,
    fun h1 => ⟨fun h4 => ⟨fun h5 => ⟨fun h6 => hJ1 _ (by rw [if_neg (by omega), if_pos ⟨h4, h5, h6⟩]), fun h6 => hJ1 _ (by rw [if_neg (by omega), if_neg (by omega)])⟩, fun h5 => hJ1 _ (by rw [if_neg (by omega), if_neg (by omega)])⟩, fun h4 => hJ1 _ (by rw [if_neg (by omega), if_neg (by omega)])⟩⟩
abbrev MOp := D_erratalaw35_Op
theorem and3m (a : Int) : IntKind.wrap .i64 (BitVec.ofInt IntKind.i64.bits a &&& BitVec.ofInt IntKind.i64.bits 3).toNat = a % 4 := and_lo 2 (by omega) a 3 rfl
def doM (s : MarkS) (x : MOp) : Int × MarkS := if x.do_ % 4 = 2 then idle s x.i true else if x.do_ % 4 = 3 then idle s x.i false else note s x.i x.mark
theorem doM_fine {s : MarkS} (h : FineM s) (x : MOp) : FineM (doM s x).2 := by
  unfold doM
  split
  · exact idle_fine h _ _
  · split
    · exact idle_fine h _ _
    · exact note_fine h _ _
theorem do_d (hl : s.l.length ≤ 200) (x : MOp) : Does Tryd.prog B (marksD p s) (sCall F_erratalaw35_do #[ptr1 p, .agg x.cs.toArray]) (mPost p (doM s x)) := by
  refine Does.intro fun B' w K base h k => ?_
  refine erratalaw35_do.up (erratalaw35_do.call ?_)
  unfold erratalaw35_do.pt
  refine h.box fun o w1 h => ?_
  have h : Rel B' w1 [marksD p s, cellD o T_erratalaw35_Op x.cs.toArray] := h
  have fin : ∀ (y : Int × MarkS), doM s x = y → ∀ w', Rel B' w' [marksD p y.2, cellD o T_erratalaw35_Op x.cs.toArray] → K (.int .i64 y.1) w' := fun y e w' h => k _ _ [] _ ⟨by rw [e], by rw [e], rfl⟩ (h.take 1)
  clear k
  unfold doM at fin
  simp -zeta only [field_addr f_erratalaw35_Op_0, field_addr f_erratalaw35_Op_1, field_addr f_erratalaw35_Op_2, Nat.add_zero, Nat.zero_add, h.ld 1 rfl sc_int (o := 0) rfl, h.ld 1 rfl sc_int (o := 1) rfl, h.ld 1 rfl sc_int (o := 2) rfl, bin_and, and3m, bin_eql, ifB_dec]
  refine ⟨fun c => ?_, fun c => ⟨fun c2 => ?_, fun c2 => ?_⟩⟩
  · rw [if_pos c] at fin
    refine h.act 0 rfl (fun B2 own base2 => idle_d hl x.i true) fun v e' τ w3 hp h => ?_
    obtain ⟨rfl, rfl, rfl⟩ := hp
    exact fin _ rfl _ h
  · rw [if_neg c, if_pos c2] at fin
    refine h.act 0 rfl (fun B2 own base2 => idle_d hl x.i false) fun v e' τ w3 hp h => ?_
    obtain ⟨rfl, rfl, rfl⟩ := hp
    exact fin _ rfl _ h
  · rw [if_neg c, if_neg c2] at fin
    refine h.act 0 rfl (fun B2 own base2 => note_d hl x.i x.mark) fun v e' τ w3 hp h => ?_
    obtain ⟨rfl, rfl, rfl⟩ := hp
    exact fin _ rfl _ h
theorem marks_nil {Kp : Value → Prop} {xo yo : Operand} : pureK Tryd.prog (sBin .eql T_p_marks_Marks xo yo (ptr1 p) (.pointer none)) Kp = Kp (.bool false) := bin_eql_ptr_nil U_p_marks_Marks
theorem small_r {K : Value → World → Prop} (h : Rel B w σ) (k : ∀ w', Rel B w' σ → K (.bool true) w') : upK Tryd.prog (sCall F_erratalaw35_small #[]) w K := by
  obtain ⟨B', h', back, _, _⟩ := h.frz
  replace k : ∀ w' τ, Rel B' w' τ → K (.bool true) w' := fun w' τ h => k w' (by have := back w' _ h; exact this.drop)
  clear back h
  have h := h'
  clear h'
  refine erratalaw35_small.up (erratalaw35_small.call ?_)
  unfold erratalaw35_small.pt
  refine h.make (fun B2 own base2 => new_m 2) fun u τ w1 hp h => ?_
  obtain ⟨p, rfl, rfl⟩ := hp
  have h : Rel B' w1 [marksD p (fresh 2)] := h
  rw [marks_nil, ifB_false]
  have f0 := fresh_fine 2
  have f1 := note_fine f0 0 5
  have f2 := note_fine f1 1 3
  have f3 := idle_fine f2 1 true
  refine h.act 0 rfl (fun B2 own base2 => note_d f0.len 0 5) fun v e' τ w2 hp h => ?_
  obtain ⟨rfl, rfl, rfl⟩ := hp
  refine h.ask (fun B2 own base2 => mMark_g (own (i := 0) rfl)) fun w3 h => ?_
  refine h.act 0 rfl (fun B2 own base2 => note_d f1.len 1 3) fun v e' τ w4 hp h => ?_
  obtain ⟨rfl, rfl, rfl⟩ := hp
  refine h.ask (fun B2 own base2 => mMark_g (own (i := 0) rfl)) fun w5 h => ?_
  refine h.act 0 rfl (fun B2 own base2 => idle_d f2.len 1 true) fun v e' τ w6 hp h => ?_
  obtain ⟨rfl, rfl, rfl⟩ := hp
  refine h.ask (fun B2 own base2 => mMark_g (own (i := 0) rfl)) fun w7 h => ?_
  refine h.act 0 rfl (fun B2 own base2 => note_d f3.len 1 4) fun v e' τ w8 hp h => ?_
  obtain ⟨rfl, rfl, rfl⟩ := hp
  have e1 : (note (fresh 2) 0 5).2.common = -1 := by kernel_rfl
  have e2 : (note (note (fresh 2) 0 5).2 1 3).2.common = 3 := by kernel_rfl
  have e3 : (idle (note (note (fresh 2) 0 5).2 1 3).2 1 true).2.common = 5 := by kernel_rfl
  have e4 : (note (idle (note (note (fresh 2) 0 5).2 1 3).2 1 true).2 1 4).2.common = 5 := by kernel_rfl
  rw [e1, e2, e3]
  simp -zeta only [bin_eql, decide_true, ifB_true]
  refine h.ask (fun B2 own base2 => mMark_g (own (i := 0) rfl)) fun w9 h => ?_
  rw [e4, bin_eql, decide_eq_true (Eq.refl (5 : Int)), ifB_true]
  refine h.ask (fun B2 own base2 => cutM_g 100 40 10) fun w10 h => ?_
  rw [show cutS 100 40 10 = 50 by kernel_rfl, bin_eql, decide_eq_true (Eq.refl (50 : Int)), ifB_true]
  refine h.ask (fun B2 own base2 => cutM_g 45 40 10) fun w11 h => ?_
  rw [show cutS 45 40 10 = 45 by kernel_rfl, bin_eql, decide_eq_true (Eq.refl (45 : Int))]
  exact k _ _ h
end
end Go.Proofs.YtncgdihcplhcoaaDoor
