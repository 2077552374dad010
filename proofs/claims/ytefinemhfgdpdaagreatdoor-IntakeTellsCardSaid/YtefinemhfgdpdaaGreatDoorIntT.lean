/-
  The reference of chapter 10: Right, Read. No condition.
-/
import Derived.Test.YtefinemhfgdpdaaGreatDoorIntS
namespace Go.Proofs.YtefinemhfgdpdaaGreatDoor
open Go.RowKit
set_option maxRecDepth 100000

section
variable {B : Base} {w : World}
set_option maxHeartbeats 1000000 in
theorem fRightT_g {v : Value} {L : PrL} (r : rowR v (praws L) B) (q : prows L B) (hl : L.length ≤ 4611686018427387904) (hq : ∀ p ∈ L, p.1.last.length ≤ 4611686018427387904) : Gives Tryz.prog B (sCall F_errataref10_Right #[v]) (.bool (rightB (prs L))) := by
  refine Gives.intro fun B' w K base h k => ?_
  replace r := base r
  replace q := base q
  refine errataref10_Right.up (errataref10_Right.call ?_)
  unfold errataref10_Right.pt
  have hal : (praws L).length = L.length := List.length_map ..
  have hpl : (prs L).length = L.length := List.length_map ..
  have hget : ∀ i (h : i < L.length), (prs L)[i]'(by omega) = L[i].1 := fun i h => by simp
  have no : ∀ w' τ, Rel B' w' τ → ¬ RightT (prs L) → K (.bool false) w' := fun w' τ h hn => by rw [rightB_false hn] at k; exact k _ _ h
  simp -zeta only [rowR.len r sl_s_api_Producer]
  rw [hal, bin_gtr, ifB_dec]
  refine ⟨fun c0 => no _ _ h fun hh => by have := hh.len; rw [hpl] at this; omega, fun c0 => ?_⟩
  refine LOOP_intro (fun x w' => ∃ (i : Nat) (d : Int), i ≤ L.length ∧ x = (.int .i64 d, .int .i64 i, ()) ∧ (i = 0 → d = -1) ∧ (∀ (h0 : 0 < i) (hh : i - 1 < L.length), d = L[i - 1].1.id) ∧ (∀ j (hj : j < L.length), j < i → FineP L[j].1 ∧ (0 < j → (L[j - 1]'(by omega)).1.id < L[j].1.id)) ∧ Rel B' w' []) (fun x _ => L.length - (match x.2.1 with | .int _ n => n.toNat | _ => 0))
    ⟨0, -1, Nat.zero_le _, rfl, fun _ => rfl, fun h0 => absurd h0 (Nat.lt_irrefl 0), fun j _ hj => absurd hj (Nat.not_lt_zero j), h⟩ ?_
  clear h
  rintro x w1 ⟨i, d, hi, rfl, hd0, hd1, hin, h⟩ next hnext
  simp -zeta only [bin_lss, ifB_dec]
  refine ⟨fun hlt => ?_, fun hge => ?_⟩
  · have hil : i < L.length := by omega
    refine LETJ_intro fun J hJ => ?_
    replace hJ : FineP L[i].1 → (0 < i → (L[i - 1]'(by omega)).1.id < L[i].1.id) → ∀ w' τ, Rel B' w' τ → J (.int .i64 L[i].1.id, ()) w' := by
      intro h1 h2 w' τ h
      refine hJ _ _ ?_
      rw [bin_add, wrap_id (by omega) (by omega)]
      refine hnext _ _ ⟨i + 1, L[i].1.id, hil, rfl, fun h0 => absurd h0 (by omega), fun _ _ => rfl, fun j hj hji => ?_, h.nil⟩ (by simp only; omega)
      by_cases e : j = i
      · subst e; exact ⟨h1, h2⟩
      · exact hin j hj (by omega)
    clear hnext
    obtain ⟨g, o, hx, hc⟩ := rowR.idx r sl_s_api_Producer (P := Tryz.prog) (i := i) (by omega)
    have hel : (praws L)[i]'(by omega) = L[i].1.raw L[i].2 := by simp [praws]
    rw [hel] at hc
    have hc : cellsR g o (L[i].1.raw L[i].2).cs B' := hc
    have hrow : rowR L[i].2.1 L[i].1.last B' := q L[i] (List.getElem_mem hil)
    have hql := hq L[i] (List.getElem_mem hil)
    have fine : ¬ FineP L[i].1 → ¬ RightT (prs L) := fun hn hh => hn (hh.fine L[i].1 (List.mem_map_of_mem (List.getElem_mem hil)))
    simp -zeta only [hx, cellsR.ldAg (h.hereB hc) ag_api_Producer rfl]
    refine h.allocAg (ds := (L[i].1.raw L[i].2).cs.toArray) z_api_Producer rfl ag_api_Producer rfl (fun v hv => Enc.one (L[i].1.raw L[i].2) v hv) fun b w4 h => ?_
    have h : Rel B' w4 [cellD b T_api_Producer (L[i].1.raw L[i].2).cs.toArray] := h
    have hasc : d < L[i].1.id → (0 < i → (L[i - 1]'(by omega)).1.id < L[i].1.id) := fun hlt h0 => by rw [← hd1 h0 (by omega)]; exact hlt
    have hnasc : L[i].1.id ≤ d → ¬ RightT (prs L) := fun hle hh => by
      by_cases h0 : 0 < i
      · have := hh.asc i (by omega) h0
        rw [hget _ hil, hget (i - 1) (by omega)] at this
        have := hd1 h0 (by omega)
        omega
      · have h1 := hd0 (by omega)
        have h2 := (hh.fine L[i].1 (List.mem_map_of_mem (List.getElem_mem hil))).id.1
        omega
    generalize hp : L[i].1 = p at *
    generalize hs : L[i].2 = sv at *
    simp -zeta only [field_addr f_api_Producer_0, field_addr f_api_Producer_1, field_addr f_api_Producer_2, field_addr f_api_Producer_3, Nat.add_zero, Nat.zero_add, h.ld 0 rfl sc_int (o := 0) (v := .int .i64 p.id) rfl, bin_leq, ifB_dec]
    refine ⟨fun c1 => no _ _ h (hnasc c1), fun c1 => ?_⟩
    refine h.ask (fun B2 own base2 => rin_g p.id) fun w5 h => ?_
    rw [un_not, ifB_not, ifB_dec]
    refine ⟨fun c2 => ?_, fun c2 => no _ _ h (fine fun hh => c2 hh.id)⟩
    simp -zeta only [h.ld 0 rfl sc_int (o := 1) (v := .int .i64 p.epoch) rfl]
    refine h.ask (fun B2 own base2 => rin_g p.epoch) fun w6 h => ?_
    rw [un_not, ifB_not, ifB_dec]
    refine ⟨fun c3 => ?_, fun c3 => no _ _ h (fine fun hh => c3 hh.epoch)⟩
    simp -zeta only [h.ld 0 rfl sc_int (o := 2) (v := .int .i64 p.next) rfl]
    refine h.ask (fun B2 own base2 => rin_g p.next) fun w7 h => ?_
    rw [un_not, ifB_not, ifB_dec]
    refine ⟨fun c4 => ?_, fun c4 => no _ _ h (fine fun hh => c4 hh.next)⟩
    simp -zeta only [h.ld 0 rfl sc_s_int (o := 3) (v := sv.1) rfl, h.ld 0 rfl sc_int (o := 2) (v := .int .i64 p.next) rfl, h.ld 0 rfl sc_int (o := 0) (v := .int .i64 p.id) rfl, rowR.len hrow sl_s_int, blt_min, bin_neq, ifB_not, ifB_dec]
    refine ⟨fun c5 => ?_, fun c5 => no _ _ h (fine fun hh => c5 hh.len)⟩
    refine LOOP_intro (fun x w' => ∃ (k : Nat) (e : Int), k ≤ p.last.length ∧ x = (.int .i64 e, .int .i64 k, ()) ∧ (k = 0 → e = -1) ∧ (∀ (h0 : 0 < k) (hh : k - 1 < p.last.length), e = p.last[k - 1]) ∧ (∀ j (hj : j < p.last.length), j < k → inP p.last[j] ∧ (0 < j → p.last[j - 1] < p.last[j])) ∧ Rel B' w' [cellD b T_api_Producer (p.raw sv).cs.toArray]) (fun x _ => p.last.length - (match x.2.1 with | .int _ n => n.toNat | _ => 0))
      ⟨0, -1, Nat.zero_le _, rfl, fun _ => rfl, fun h0 => absurd h0 (Nat.lt_irrefl 0), fun j _ hj => absurd hj (Nat.not_lt_zero j), h⟩ ?_
    clear h
    rintro x w8 ⟨k, e, hk, rfl, he0, he1, hik, h⟩ next hnext
    simp -zeta only [h.ld 0 rfl sc_s_int (o := 3) (v := sv.1) rfl, rowR.len hrow sl_s_int, bin_lss, ifB_dec]
    refine ⟨fun hlt => ?_, fun hge => ?_⟩
    · have hkl : k < p.last.length := by omega
      obtain ⟨a, q1, q2⟩ := rowR.at_sc hrow h sl_s_int hkl sc_int (x := .int .i64 p.last[k]) rfl
      simp -zeta only [q1, q2, bin_leq, ifB_dec]
      refine ⟨fun c6 => no _ _ h (fine fun hh => ?_), fun c6 => ?_⟩
      · by_cases h0 : 0 < k
        · have := hh.asc k hkl h0
          have := he1 h0 (by omega)
          omega
        · have h1 := he0 (by omega)
          have := (hh.each k hkl).1
          omega
      refine h.ask (fun B2 own base2 => rin_g p.last[k]) fun w9 h => ?_
      rw [un_not, ifB_not, ifB_dec]
      refine ⟨fun c7 => ?_, fun c7 => no _ _ h (fine fun hh => c7 (hh.each k hkl))⟩
      obtain ⟨a2, q3, q4⟩ := rowR.at_sc hrow h sl_s_int hkl sc_int (x := .int .i64 p.last[k]) rfl
      simp -zeta only [h.ld 0 rfl sc_s_int (o := 3) (v := sv.1) rfl, q3, q4]
      rw [bin_add, wrap_id (by omega) (by omega)]
      refine hnext _ _ ⟨k + 1, p.last[k], hkl, rfl, fun h0 => absurd h0 (by omega), fun _ _ => rfl, fun j hj hjk => ?_, h⟩ (by simp only; omega)
      by_cases ej : j = k
      · subst ej
        exact ⟨c7, fun h0 => by have := he1 h0 (by omega); omega⟩
      · exact hik j hj (by omega)
    · exact hJ ⟨c2, c3, c4, c5, fun j hj => (hik j hj (by omega)).1, fun j hj => (hik j hj (by omega)).2⟩ (hasc (by omega)) _ _ h
  · have e : RightT (prs L) := ⟨fun p hp => by
      obtain ⟨x, hx, rfl⟩ := List.mem_map.1 hp
      obtain ⟨j, hj, rfl⟩ := List.getElem_of_mem hx
      exact (hin j hj (by omega)).1, fun j hj h0 => by
      rw [hget j (by omega), hget (j - 1) (by omega)]
      exact (hin j (by omega) (by omega)).2 h0, by omega⟩
    rw [rightB_true.2 e] at k
    exact k _ _ h
theorem prodR_le (s : RS) : (prodR s).2.rest.length ≤ s.rest.length := by
  have l1 := intR_le s
  have l2 := intR_le (intR s).2
  have l3 := intR_le (intR (intR s).2).2
  have l4 : (prodR s).2.rest.length ≤ (intR (intR (intR s).2).2).2.rest.length := itemsR_le2 intR_le _
  omega
theorem prodR_sane {s : RS} (h : Sane s) : Sane (prodR s).2 := itemsR_sane (fun s => intR_sane) (intR_sane (intR_sane (intR_sane h)))
theorem prodR_last (s : RS) : (prodR s).1.last.length ≤ s.rest.length + 1 := by
  have l1 := intR_le s
  have l2 := intR_le (intR s).2
  have l3 := intR_le (intR (intR s).2).2
  have : (prodR s).1.last.length ≤ (intR (intR (intR s).2).2).2.rest.length + 1 := itemsR_len intR_ok encI_pos _
  omega
theorem timesR_next {α : Type} (one : RS → α × RS) : ∀ (k : Nat) (acc : List α) (s : RS), timesR one (k + 1) acc s = ((timesR one k acc s).1 ++ [(one (timesR one k acc s).2).1], (one (timesR one k acc s).2).2)
  | 0, acc, s => by rw [timesR, timesR, timesR]
  | k + 1, acc, s => by rw [timesR, timesR_next one k, timesR]
theorem lenS {T U : TypeId} {bs : Array Bool} {w : World} {Kp : Value → Prop} {l : Bs} (hT : Tryz.prog.underlying T = some .string) : readK Tryz.prog (sBlt .len #[T] U bs #[.string (ofL l)]) w Kp = Kp (.int .i64 l.length) := by rw [str_len hT, bl_ofL]
theorem neqS {T : TypeId} {xo yo : Operand} {a b : Bs} {K : Value → Prop} : pureK Tryz.prog (sBin .neq T xo yo (.string (ofL a)) (.string (ofL b))) K = K (.bool (!decide (a = b))) := by
  rw [neq_str]
  congr 3
  exact decide_eq_decide.2 ⟨fun h => by have := congrArg bl h; rwa [bl_ofL, bl_ofL] at this, fun h => by rw [h]⟩
set_option maxHeartbeats 1000000 in
theorem fTabRead_m {t : Bs} (ht : t.length ≤ 1000000) : Makes Tryz.prog B (sCall F_errataref10_Read #[.string (ofL t)]) fun u τ => ∃ (v : Value) (b : Bool), u = .tuple #[v, .bool b] ∧ v.oneCell' = true ∧ (b = true ↔ ∃ s, TabOk t s) := by
  refine Makes.intro fun B' w K base h k => ?_
  refine errataref10_Read.up (errataref10_Read.call ?_)
  unfold errataref10_Read.pt
  refine h.make (fun B2 own base2 => fopen_m) fun u τ w1 hp h => ?_
  obtain ⟨q, rfl, rfl⟩ := hp
  have h : Rel B' w1 [rfD q ⟨t, false⟩] := h
  have no : (¬ ∃ s, TabOk t s) → ∀ w' τ, Rel B' w' τ → K (.tuple #[.slice none 0 0, .bool false]) w' := fun hn w' τ h => k _ τ _ ⟨_, false, rfl, rfl, by simp [hn]⟩ h
  have yes : (∃ s, TabOk t s) → ∀ v w' τ, v.oneCell' = true → Rel B' w' τ → K (.tuple #[v, .bool true]) w' := fun hn v w' τ h1 h => k _ τ _ ⟨_, true, rfl, h1, by simp [hn]⟩ h
  clear k
  rw [tab_ref] at no yes
  have q1 := natR_le ⟨t, false⟩
  have q0 : (⟨t, false⟩ : RS).rest.length = t.length := rfl
  have hsn : Sane ⟨t, false⟩ := fun hb => by cases hb
  have s1 := natR_sane hsn
  have n0 : 0 ≤ (natR ⟨t, false⟩).1 := (numR_le (.inl rfl : isEnd 59) 0 ⟨t, false⟩).2.2 (Int.le_refl 0)
  refine h.rf_ 0 rfl (fun B2 own base2 => fNumR_d (by omega)) fun w2 h => ?_
  have h : Rel B' w2 [rfD q (natR ⟨t, false⟩).2] := h
  unfold tabF at no yes
  generalize natR ⟨t, false⟩ = y at *
  obtain ⟨n, r1⟩ := y
  simp only at no yes h s1 q1 n0
  have hlen : ∀ k, (timesR prodR k [] r1).2.rest.length ≤ t.length := fun k => by have := timesR_le prodR_le k [] r1; omega
  have hsane : ∀ k, Sane (timesR prodR k [] r1).2 := fun k => by
    induction k with
    | zero => exact s1
    | succ k ih => rw [timesR_next]; exact prodR_sane ih
  refine LETJ_intro fun J hJ => ?_
  replace hJ : ∀ (u : Value) (L' : PrL) w', prs L' = (timesR prodR (min n.toNat (t.length + 1)) [] r1).1 → (∀ x ∈ L', x.1.last.length ≤ t.length + 1) → Rel B' w' [rfD q (timesR prodR (min n.toNat (t.length + 1)) [] r1).2, rowD T_api_Producer u (praws L'), prows L'] → J (u, ()) w' := by
    intro u L' w' hL hq h
    refine hJ _ _ ?_
    clear hJ
    have hRl := timesR_len prodR (min n.toNat (t.length + 1)) [] r1
    have hLl : L'.length = (timesR prodR (min n.toNat (t.length + 1)) [] r1).1.length := by rw [← hL, List.length_map]
    rw [List.length_nil] at hRl
    generalize timesR prodR (min n.toNat (t.length + 1)) [] r1 = Z at *
    obtain ⟨R, rz⟩ := Z
    simp only at no yes hL h hLl hRl
    refine h.ask (fun B2 own base2 => fDone_g (own (i := 0) rfl)) fun w3 h => ?_
    rw [un_not, ifB_not, ifB_bool]
    refine ⟨fun c1 => ?_, fun c1 => no (fun hh => by rw [c1] at hh; cases hh.1) _ _ h⟩
    have hbig : L'.length ≤ 4611686018427387904 := by omega
    refine h.ask (fun B2 own base2 => fRightT_g (rowD.read (own (i := 1) rfl)) (own (i := 2) rfl) hbig (fun p hp => by have := hq p hp; omega)) fun w4 h => ?_
    rw [un_not, ifB_not, ifB_bool]
    refine ⟨fun c2 => ?_, fun c2 => no (fun hh => by rw [hL, rightB_true.2 hh.2.1] at c2; cases c2) _ _ h⟩
    have hR := rightB_true.1 c2
    refine h.ask (fun B2 own base2 => fTabBytes_g (rowD.read (own (i := 1) rfl)) (own (i := 2) rfl) hR) fun w5 h => ?_
    rw [neqS, ifB_not, ifB_dec]
    refine ⟨fun c3 => yes ⟨c1, by rw [← hL]; exact hR, by rw [← hL]; exact c3⟩ _ _ _ (h.oneCell (i := 1) rfl) h, fun c3 => no (fun hh => c3 (by rw [hL]; exact hh.2.2)) _ _ h⟩
  have h := h.addNil PrD T_api_Producer
  have h : Rel B' w2 [rfD q r1, rowD T_api_Producer (.slice none 0 0) (praws [])] := h
  have h := own_of (d := prows []) (τ := []) (σ := [rfD q r1, rowD T_api_Producer (.slice none 0 0) (praws [])]) (fun B _ x hx => by cases hx) (by rw [List.append_nil]; exact h)
  refine LOOP_intro (fun x w' => ∃ (i : Nat) (u : Value) (L' : PrL), i ≤ min n.toNat (t.length + 1) ∧ x = (u, .int .i64 i, ()) ∧ prs L' = (timesR prodR i [] r1).1 ∧ (∀ x ∈ L', x.1.last.length ≤ t.length + 1) ∧ Rel B' w' [rfD q (timesR prodR i [] r1).2, rowD T_api_Producer u (praws L'), prows L']) (fun x _ => min n.toNat (t.length + 1) - (match x.2.1 with | .int _ n => n.toNat | _ => 0))
    ⟨0, _, [], Nat.zero_le _, rfl, rfl, (fun x hx => by cases hx), h⟩ ?_
  clear h
  rintro x w3 ⟨i, u, L', hi, rfl, hL, hq, h⟩ next hnext
  have fin : i = min n.toNat (t.length + 1) → J (u, ()) w3 := fun e => by
    subst e
    exact hJ u L' w3 hL hq h
  simp -zeta only [bin_lss, ifB_dec]
  refine ⟨fun hlt => ?_, fun hge => fin (by omega)⟩
  rw [lenS U_string]
  simp -zeta only [bin_leq, ifB_dec]
  refine ⟨fun hle => ?_, fun hge => fin (by omega)⟩
  clear fin hJ
  rw [bd_api_Producer_]
  refine h.allocAg (ds := (⟨0, 0, 0, nilSV⟩ : PrD).cs.toArray) z_api_Producer rfl ag_api_Producer rfl (fun v hv => Enc.one (⟨0, 0, 0, nilSV⟩ : PrD) v hv) fun b w5 h => ?_
  have hnx := timesR_next prodR i [] r1
  have hl := hlen i
  have hsa := hsane i
  have hLlen : L'.length = i := by
    have := timesR_len prodR i [] r1
    rw [← hL, List.length_map, List.length_nil] at this
    omega
  generalize hZ : timesR prodR i [] r1 = Z at *
  obtain ⟨R, rz⟩ := Z
  simp only at hL h hnx hl hsa
  have h : Rel B' w5 [rfD q rz, rowD T_api_Producer u (praws L'), prows L', cellD b T_api_Producer (⟨0, 0, 0, nilSV⟩ : PrD).cs.toArray] := h
  simp -zeta only [field_addr f_api_Producer_0, field_addr f_api_Producer_1, field_addr f_api_Producer_2, field_addr f_api_Producer_3, Nat.add_zero, Nat.zero_add]
  have z1 := intR_le rz
  have z2 := intR_le (intR rz).2
  have z3 := intR_le (intR (intR rz).2).2
  refine h.rf_ 0 rfl (fun B2 own base2 => fIntR_d (by omega)) fun w6 h => ?_
  refine h.st 3 rfl sc_int (show 0 < 4 by omega) rfl fun w7 h => ?_
  refine h.rf_ 0 rfl (fun B2 own base2 => fIntR_d (by omega)) fun w8 h => ?_
  refine h.st 3 rfl sc_int (show 1 < 4 by omega) rfl fun w9 h => ?_
  refine h.rf_ 0 rfl (fun B2 own base2 => fIntR_d (by omega)) fun w10 h => ?_
  refine h.st 3 rfl sc_int (show 2 < 4 by omega) rfl fun w11 h => ?_
  refine h.act 0 rfl (fun B2 own base2 => fNums_d (intR_sane (intR_sane (intR_sane hsa))) (by omega)) fun u2 e' τ w12 hp h => ?_
  obtain ⟨rfl, rfl⟩ := hp
  have h : Rel B' w12 [rfD q (prodR rz).2, rowD T_api_Producer u (praws L'), prows L', cellD b T_api_Producer (⟨(prodR rz).1.id, (prodR rz).1.epoch, (prodR rz).1.next, nilSV⟩ : PrD).cs.toArray, rowD T_int u2 (prodR rz).1.last] := h
  have h1 : u2.oneCell' = true := h.oneCell (i := 4) rfl
  refine h.st 3 rfl sc_s_int (show 3 < 4 by omega) h1 fun w13 h => ?_
  have h : Rel B' w13 [rfD q (prodR rz).2, rowD T_api_Producer u (praws L'), prows L', cellD b T_api_Producer ((prodR rz).1.raw ⟨u2, h1⟩).cs.toArray, rowD T_int u2 (prodR rz).1.last] := h
  simp -zeta only [h.ldAg 3 rfl ag_api_Producer rfl]
  have hal : (praws L').length = L'.length := List.length_map ..
  refine h.push1 (α := PrD) 1 rfl ((prodR rz).1.raw ⟨u2, h1⟩) sl_s_api_Producer (by decide) (by omega) (by omega) fun u3 w14 h => ?_
  have h := h.pick [0, 1, 2, 4] (by decide)
  have h : Rel B' w14 ([rfD q (prodR rz).2, rowD T_api_Producer u3 (praws L' ++ [(prodR rz).1.raw ⟨u2, h1⟩])] ++ [prows L', rowD T_int u2 (prodR rz).1.last]) := h
  have h := own_of (d := prows (L' ++ [((prodR rz).1, ⟨u2, h1⟩)])) (τ := [prows L', rowD T_int u2 (prodR rz).1.last]) (σ := [rfD q (prodR rz).2, rowD T_api_Producer u3 (praws L' ++ [(prodR rz).1.raw ⟨u2, h1⟩])]) (fun B hB => Dat.all_append (Dat.star.left hB) (fun x hx => by
    rw [List.mem_singleton] at hx
    subst hx
    exact rowD.read (Dat.star.left (Dat.star.right hB)))) h
  rw [show praws L' ++ [(prodR rz).1.raw ⟨u2, h1⟩] = praws (L' ++ [((prodR rz).1, ⟨u2, h1⟩)]) by simp [praws]] at h
  rw [bin_add, wrap_id (by omega) (by omega)]
  refine hnext _ _ ⟨i + 1, u3, L' ++ [((prodR rz).1, ⟨u2, h1⟩)], by omega, rfl, ?_, fun x hx => ?_, ?_⟩ (by simp only; omega)
  · rw [hnx, ← hL]
    simp
  · rcases List.mem_append.1 hx with hx | hx
    · exact hq x hx
    · rw [List.mem_singleton] at hx
      subst hx
      have := prodR_last rz
      show (prodR rz).1.last.length ≤ _
      omega
  · rw [hnx]
    exact h
end
end Go.Proofs.YtefinemhfgdpdaaGreatDoor
