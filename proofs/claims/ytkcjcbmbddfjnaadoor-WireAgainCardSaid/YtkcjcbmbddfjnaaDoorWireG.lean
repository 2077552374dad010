/-
  WireBack, WirePrefix, WireNests: the laws' walks. No condition.
-/
import Derived.Test.YtkcjcbmbddfjnaaDoorWireF
namespace Go.Proofs.YtkcjcbmbddfjnaaDoor
open Go.RowKit
set_option maxRecDepth 100000

theorem flatV_len {L : List Vv} (h20 : L.length ≤ 20) (hg : ∀ x ∈ L, GoodV x) (hf : ∀ x ∈ L, FewV x) : (L.flatMap encV).length ≤ 3400000 := by
  have := flat_len encV L 170000 fun x hx => encV_len (hg x hx) (hf x hx)
  omega
theorem equalS_kind {s : RS} {x y : Vv} (h : kindZ x.kind = kindZ y.kind) : (equalS s x).2 = (equalS s y).2 := by
  unfold equalS
  rw [h]
  split
  · rfl
  · split
    · rfl
    · split
      · rfl
      · split <;> rfl
theorem drop_flat {α : Type} (one : α → Bs) {l : List α} {i : Nat} (h : i < l.length) : (l.drop i).flatMap one = one l[i] ++ (l.drop (i + 1)).flatMap one := by
  rw [List.drop_eq_getElem_cons h, List.flatMap_cons]

set_option maxHeartbeats 1000000 in
theorem wireBack_walk {W : World} (hB : wireD (lawB W)) {v : Value} {L : List Vv} {tail : ByteArray} (r : rowR v (vraws L) (lawB W)) (q : ∀ x ∈ L, vIn x (lawB W)) (hg : ∀ x ∈ L, GoodV x)
    {K : Value → World → Prop} (fin : ∀ w' σ, Rel (lawB W) w' σ → K (.bool true) w') : erratalaw01_WireBack.pt v (.string tail) W K := by
  unfold erratalaw01_WireBack.pt
  have h := lawB.start W
  have hal : (vraws L).length = L.length := List.length_map ..
  refine small_r hB h fun w1 h => ?_
  refine few_r r q h (fun w2 h20 hf h => ?_) fun w2 h => by rw [un_not, Bool.not_false, ifB_true]; exact fin _ _ h
  rw [un_not, Bool.not_true, ifB_false]
  simp -zeta only [len_string U_string, bin_gtr, ifB_dec]
  refine ⟨fun _ => fin _ _ h, fun htail => ?_⟩
  obtain ⟨tl, rfl⟩ : ∃ tl : Bs, tail = ofL tl := ⟨bl tail, (ofL_bl tail).symm⟩
  rw [ofL_size] at htail
  have hflat := flatV_len h20 hg hf
  refine LOOP_intro (fun x w' => ∃ i : Nat, i ≤ L.length ∧ x = (.string (ofL ((L.take i).flatMap encV)), .int .i64 i, ()) ∧ Rel (lawB W) w' []) (fun x _ => L.length - (match x.2.1 with | .int _ n => n.toNat | _ => 0))
    ⟨0, Nat.zero_le _, rfl, h⟩ ?_
  clear h
  rintro x w3 ⟨i, hi, rfl, h⟩ next hnext
  simp -zeta only [rowR.len r sl_s_erratalaw01_Value, bin_lss, ifB_dec]
  rw [hal]
  refine ⟨fun hlt => ?_, fun hge => ?_⟩
  · have hil : i < L.length := by omega
    obtain ⟨g, o, hx, hc⟩ := rowR.idx r sl_s_erratalaw01_Value (P := Tryd.prog) (i := i) (by omega)
    rw [vget hil] at hc
    have hc : cellsR g o L[i].raw.cs (lawB W) := hc
    have hm := List.getElem_mem hil
    rw [hx, cellsR.ldAg (h.hereB hc) ag_erratalaw01_Value rfl]
    refine h.ask (fun B2 own base2 => write_g (base2 hB) (base2 (q _ hm)) (hg _ hm) (hf _ hm)) fun w4 h => ?_
    have hstep := flat_take_succ encV hil
    have hle := flat_take_le encV L (i + 1)
    rw [hstep, List.length_append] at hle
    rw [strL_add (by omega), bin_add, wrap_id (by omega) (by omega)]
    exact hnext _ _ ⟨i + 1, hil, by rw [hstep]; rfl, h⟩ (by simp only; omega)
  · clear hnext
    obtain rfl : i = L.length := by omega
    rw [List.take_length, strL_add (by omega)]
    refine h.make (fun B2 own base2 => open_m) fun u τ w5 hp h => ?_
    obtain ⟨p, rfl, rfl⟩ := hp
    rw [bin_eql_ptr_nil U_p_wire_Reader, ifB_false]
    have h : Rel (lawB W) w5 [rdD p ⟨L.flatMap encV ++ tl, false⟩] := h
    refine LOOP_intro (fun x w' => ∃ i : Nat, i ≤ L.length ∧ x = (.int .i64 i, ()) ∧ Rel (lawB W) w' [rdD p ⟨(L.drop i).flatMap encV ++ tl, false⟩]) (fun x _ => L.length - (match x.1 with | .int _ n => n.toNat | _ => 0))
      ⟨0, Nat.zero_le _, rfl, h⟩ ?_
    clear h
    rintro x w6 ⟨i, hi, rfl, h⟩ next hnext
    simp -zeta only [bin_lss, ifB_dec]
    refine ⟨fun hlt => ?_, fun hge => ?_⟩
    · have hil : i < L.length := by omega
      obtain ⟨g, o, hx, hc⟩ := rowR.idx r sl_s_erratalaw01_Value (P := Tryd.prog) (i := i) (by omega)
      rw [vget hil] at hc
      have hc : cellsR g o L[i].raw.cs (lawB W) := hc
      have hm := List.getElem_mem hil
      rw [hx, cellsR.ldAg (h.hereB hc) ag_erratalaw01_Value rfl]
      have hdl : ((L.drop i).flatMap encV).length ≤ (L.flatMap encV).length := by
        have e : L.flatMap encV = (L.take i).flatMap encV ++ (L.drop i).flatMap encV := by rw [← List.flatMap_append, List.take_append_drop]
        rw [e, List.length_append]; omega
      refine h.rd_ 0 rfl (fun B2 own base2 => equal_d (base2 hB) (base2 (q _ hm)) (hg _ hm) (by show ((L.drop i).flatMap encV ++ tl).length ≤ _; rw [List.length_append]; omega)) fun w7 h => ?_
      rw [drop_flat encV hil, List.append_assoc, equalS_enc (hg _ hm) (hf _ hm)] at h ⊢
      have h : Rel (lawB W) w7 [rdD p ⟨(L.drop (i + 1)).flatMap encV ++ tl, false⟩] := h
      rw [un_not, Bool.not_true, ifB_false, bin_add, wrap_id (by omega) (by omega)]
      exact hnext _ _ ⟨i + 1, hil, rfl, h⟩ (by simp only; omega)
    · obtain rfl : i = L.length := by omega
      rw [List.drop_length] at h
      have h : Rel (lawB W) w6 [rdD p ⟨tl, false⟩] := h
      refine h.ask (fun B2 own base2 => rLeft_g (own (i := 0) rfl)) fun w8 h => ?_
      refine h.ask (fun B2 own base2 => rDone_g (own (i := 0) rfl)) fun w9 h => ?_
      rw [ifB_true, bin_eql, decide_eq_true (show ((tl.length : Nat) : Int) = ((ofL tl).size : Int) from rfl), ifB_true, empty_str, eql_ofL, bin_eql_bool U_bool]
      rw [show (doneR ⟨tl, false⟩ == decide (tl = [])) = true by unfold doneR; simp, ifB_true]
      refine h.rd_ 0 rfl (fun B2 own base2 => rRest_d) fun w10 h => ?_
      have h : Rel (lawB W) w10 [rdD p ⟨[], false⟩] := h
      rw [eql_ofL, decide_eq_true rfl, ifB_true]
      refine h.ask (fun B2 own base2 => rDone_g (own (i := 0) rfl)) fun w11 h => ?_
      rw [show doneR ⟨[], false⟩ = true from rfl, ifB_true]
      refine h.ask (fun B2 own base2 => rLeft_g (own (i := 0) rfl)) fun w12 h => ?_
      rw [bin_eql]
      exact fin _ _ h

set_option maxHeartbeats 1000000 in
theorem wirePrefix_walk {W : World} (hB : wireD (lawB W)) {x y : Vv} (hx : vIn x (lawB W)) (hy : vIn y (lawB W)) (gx : GoodV x) (gy : GoodV y)
    {K : Value → World → Prop} (fin : ∀ w' σ, Rel (lawB W) w' σ → K (.bool true) w') : erratalaw01_WirePrefix.pt x.raw.v y.raw.v W K := by
  unfold erratalaw01_WirePrefix.pt
  have h := lawB.start W
  refine h.box fun a w1 h => ?_
  refine h.box fun b w2 h => ?_
  have h : Rel (lawB W) w2 [cellD a T_erratalaw01_Value x.raw.cs.toArray, cellD b T_erratalaw01_Value y.raw.cs.toArray] := h
  refine small_r hB h fun w3 h => ?_
  have h := h.tick
  rw [h.ldAg 0 rfl ag_erratalaw01_Value rfl]
  refine h.build1 (α := VD) x.raw sl_s_erratalaw01_Value (by decide) fun u w4 h => ?_
  have h : Rel (lawB W) w4 [cellD a T_erratalaw01_Value x.raw.cs.toArray, cellD b T_erratalaw01_Value y.raw.cs.toArray, rowD T_erratalaw01_Value u (vraws [x])] := h
  obtain ⟨B1, e1, h, hu⟩ := Rel.frz1 (σ := [cellD a T_erratalaw01_Value x.raw.cs.toArray, cellD b T_erratalaw01_Value y.raw.cs.toArray]) h
  have hx1 : vIn x B1 := Dat.mono _ e1.le hx
  have hy1 : vIn y B1 := Dat.mono _ e1.le hy
  have hB1 : wireD B1 := Dat.mono _ e1.le hB
  replace fin : ∀ w' σ, Rel B1 w' σ → K (.bool true) w' := fun w' σ h => fin w' σ (e1.rel h)
  refine few_r (rowD.read hu) (fun z hz => by rw [List.mem_singleton.1 hz]; exact hx1) h (fun w5 _ hf h => ?_) fun w5 h => by rw [un_not, Bool.not_false, ifB_true]; exact fin _ _ h
  have fx := hf x (List.mem_singleton.2 rfl)
  rw [un_not, Bool.not_true, ifB_false]
  rw [h.ldAg 1 rfl ag_erratalaw01_Value rfl]
  refine h.build1 (α := VD) y.raw sl_s_erratalaw01_Value (by decide) fun u2 w6 h => ?_
  have h : Rel B1 w6 [cellD a T_erratalaw01_Value x.raw.cs.toArray, cellD b T_erratalaw01_Value y.raw.cs.toArray, rowD T_erratalaw01_Value u2 (vraws [y])] := h
  obtain ⟨B2, e2, h, hu2⟩ := Rel.frz1 (σ := [cellD a T_erratalaw01_Value x.raw.cs.toArray, cellD b T_erratalaw01_Value y.raw.cs.toArray]) h
  have hx2 : vIn x B2 := Dat.mono _ e2.le hx1
  have hy2 : vIn y B2 := Dat.mono _ e2.le hy1
  have hB2 : wireD B2 := Dat.mono _ e2.le hB1
  replace fin : ∀ w' σ, Rel B2 w' σ → K (.bool true) w' := fun w' σ h => fin w' σ (e2.rel h)
  refine few_r (rowD.read hu2) (fun z hz => by rw [List.mem_singleton.1 hz]; exact hy2) h (fun w7 _ hf h => ?_) fun w7 h => by rw [un_not, Bool.not_false, ifB_true]; exact fin _ _ h
  have fy := hf y (List.mem_singleton.2 rfl)
  rw [un_not, Bool.not_true, ifB_false]
  rw [h.ldAg 0 rfl ag_erratalaw01_Value rfl, h.ldAg 1 rfl ag_erratalaw01_Value rfl]
  refine h.ask (fun B3 own base3 => kind_g x.raw) fun w8 h => ?_
  refine ⟨h.isAg 1 rfl ag_erratalaw01_Value rfl, ?_⟩
  refine h.ask (fun B3 own base3 => kind_g y.raw) fun w9 h => ?_
  rw [bin_neq, ifB_not, ifB_dec]
  refine ⟨fun hk => ?_, fun _ => fin _ _ h⟩
  have hk : kindZ x.kind = kindZ y.kind := hk
  rw [h.ldAg 0 rfl ag_erratalaw01_Value rfl]
  refine h.ask (fun B3 own base3 => write_g (base3 hB2) (base3 hx2) gx fx) fun w10 h => ?_
  rw [h.ldAg 1 rfl ag_erratalaw01_Value rfl]
  refine h.ask (fun B3 own base3 => write_g (base3 hB2) (base3 hy2) gy fy) fun w11 h => ?_
  have lx := encV_len gx fx
  have ly := encV_len gy fy
  have rx := equalS_enc gx fx
  have ry := equalS_enc gy fy []
  rw [List.append_nil] at ry
  generalize encV x = s at *
  generalize encV y = t at *
  simp -zeta only [str_len U_string, bl_ofL, bin_gtr, ifB_dec]
  refine ⟨fun _ => fin _ _ h, fun hle => ?_⟩
  have hmin : min (s.length : Int) (t.length : Int) = (s.length : Int) := by omega
  rw [blt_min, hmin, str_cut U_string (lo := 0) (hi := s.length) Bnd.none Bnd.some (Nat.zero_le _) (by rw [ofL_size]; omega), bl_ofL, List.drop_zero, neq_str, ifB_not, ifB_dec]
  refine ⟨fun hpre => ?_, fun _ => fin _ _ h⟩
  have hpre : t.take s.length = s := by have := congrArg bl hpre; exact this
  have hst : t = s ++ t.drop s.length := by
    have e := List.take_append_drop s.length t
    rw [hpre] at e
    exact e.symm
  have hu0 : t.drop s.length = [] := by
    have h1 := rx (t.drop s.length)
    rw [← hst] at h1
    have h2 := equalS_kind (s := ⟨t, false⟩) hk
    rw [h1, ry] at h2
    have h2 : (⟨t.drop s.length, false⟩ : RS) = ⟨[], false⟩ := h2
    injection h2
  rw [hu0, List.append_nil] at hst
  subst hst
  refine h.make (fun B3 own base3 => open_m) fun u3 τ w12 hp h => ?_
  obtain ⟨p, rfl, rfl⟩ := hp
  have h : Rel B2 w12 [cellD a T_erratalaw01_Value x.raw.cs.toArray, cellD b T_erratalaw01_Value y.raw.cs.toArray, rdD p ⟨t, false⟩] := h
  rw [ifB_true, bin_neq_ptr_nil U_p_wire_Reader, ifB_true, eql_ofL, decide_eq_true rfl, ifB_true, h.ldAg 1 rfl ag_erratalaw01_Value rfl]
  refine h.rd_ 2 rfl (fun B3 own base3 => equal_d (base3 hB2) (base3 hy2) gy (by show t.length ≤ _; omega)) fun w13 h => ?_
  rw [ry] at h ⊢
  exact fin _ _ h

set_option maxHeartbeats 1000000 in
theorem wireNests_walk {W : World} (hB : wireD (lawB W)) {v : Value} {L : List Vv} (r : rowR v (vraws L) (lawB W)) (q : ∀ x ∈ L, vIn x (lawB W)) (hg : ∀ x ∈ L, GoodV x)
    {K : Value → World → Prop} (fin : ∀ w' σ, Rel (lawB W) w' σ → K (.bool true) w') : erratalaw01_WireNests.pt v W K := by
  unfold erratalaw01_WireNests.pt
  have h := lawB.start W
  have hal : (vraws L).length = L.length := List.length_map ..
  refine small_r hB h fun w1 h => ?_
  refine few_r r q h (fun w2 h20 hf h => ?_) fun w2 h => by rw [un_not, Bool.not_false, ifB_true]; exact fin _ _ h
  rw [un_not, Bool.not_true, ifB_false]
  have h := h.addNil ByteArray T_string
  refine LOOP_intro (fun x w' => ∃ (i : Nat) (u : Value), i ≤ L.length ∧ x = (u, .int .i64 i, ()) ∧ Rel (lawB W) w' [rowD T_string u ((L.take i).map fun x => ofL (encV x))]) (fun x _ => L.length - (match x.2.1 with | .int _ n => n.toNat | _ => 0))
    ⟨0, _, Nat.zero_le _, rfl, h⟩ ?_
  clear h
  rintro x w3 ⟨i, u, hi, rfl, h⟩ next hnext
  simp -zeta only [rowR.len r sl_s_erratalaw01_Value, bin_lss, ifB_dec]
  rw [hal]
  refine ⟨fun hlt => ?_, fun hge => ?_⟩
  · have hil : i < L.length := by omega
    obtain ⟨g, o, hx, hc⟩ := rowR.idx r sl_s_erratalaw01_Value (P := Tryd.prog) (i := i) (by omega)
    rw [vget hil] at hc
    have hc : cellsR g o L[i].raw.cs (lawB W) := hc
    have hm := List.getElem_mem hil
    rw [hx, cellsR.ldAg (h.hereB hc) ag_erratalaw01_Value rfl]
    refine h.ask (fun B2 own base2 => write_g (base2 hB) (base2 (q _ hm)) (hg _ hm) (hf _ hm)) fun w4 h => ?_
    refine h.push1 (α := ByteArray) 0 rfl (ofL (encV L[i])) sl_s_string (by decide) (by rw [List.length_map, List.length_take]; omega) (by rw [List.length_map, List.length_take]; omega) fun u2 w6 h => ?_
    rw [bin_add, wrap_id (by omega) (by omega)]
    refine hnext _ _ ⟨i + 1, u2, hil, rfl, ?_⟩ (by simp only; omega)
    rw [List.take_succ_eq_append_getElem hil, List.map_append]
    exact h
  · clear hnext
    obtain rfl : i = L.length := by omega
    rw [List.take_length] at h
    have hmm : ((L.map fun x => ofL (encV x)).map bl) = L.map encV := by rw [List.map_map]; rfl
    have hlen : (encL encT (L.map encV)).length ≤ 3500000 := by
      have h1 := (encL_len encT (L.map encV) (by rw [List.length_map]; omega)).2
      have h2 := flat_len encT (L.map encV) 170022 fun y hy => by
        obtain ⟨z, hz, rfl⟩ := List.mem_map.1 hy
        have h3 := encV_len (hg z hz) (hf z hz)
        have := encT_len (encV z) (by omega)
        omega
      rw [List.length_map] at h2
      omega
    refine h.ask (fun B2 own base2 => wTexts_g (base2 hB) (rowD.read (own (i := 0) rfl)) (by rw [hmm]; omega)) fun w7 h => ?_
    rw [hmm]
    refine h.ask (fun B2 own base2 => wText_g (base2 hB) (by omega)) fun w8 h => ?_
    refine h.make (fun B2 own base2 => open_m) fun u1 τ w9 hp h => ?_
    obtain ⟨p, rfl, rfl⟩ := hp
    rw [bin_eql_ptr_nil U_p_wire_Reader, ifB_false]
    have hl2 := encT_len (encL encT (L.map encV)) (by omega)
    refine h.rd_ 1 rfl (fun B2 own base2 => rText_d (base2 hB) (by show (encT (encL encT (L.map encV))).length ≤ _; omega)) fun w10 h => ?_
    have hrd : textR ⟨encT (encL encT (L.map encV)), false⟩ = (encL encT (L.map encV), ⟨[], false⟩) := by
      have := textR_enc (t := encL encT (L.map encV)) (by omega) []
      rw [List.append_nil] at this
      exact this
    rw [hrd] at h ⊢
    have h : Rel (lawB W) w10 [rowD T_string u (L.map fun x => ofL (encV x)), rdD p ⟨[], false⟩] := h
    refine h.make (fun B2 own base2 => open_m) fun u2 τ w11 hp h => ?_
    obtain ⟨p2, rfl, rfl⟩ := hp
    have h : Rel (lawB W) w11 [rowD T_string u (L.map fun x => ofL (encV x)), rdD p ⟨[], false⟩, rdD p2 ⟨encL encT (L.map encV), false⟩] := h
    rw [bin_eql_ptr_nil U_p_wire_Reader, ifB_false]
    refine h.ask (fun B2 own base2 => rDone_g (own (i := 1) rfl)) fun w12 h => ?_
    rw [show doneR ⟨[], false⟩ = true from rfl, un_not, Bool.not_true, ifB_false]
    refine h.act 2 rfl (fun B2 own base2 => rTexts_d (base2 hB) (by show (encL encT (L.map encV)).length ≤ _; omega)) fun u3 e' τ w13 hp h => ?_
    obtain ⟨rfl, rfl⟩ := hp
    have hrd2 : textsR ⟨encL encT (L.map encV), false⟩ = (L.map encV, ⟨[], false⟩) := by
      have := textsR_enc (l := L.map encV) (by rw [List.length_map]; omega) (fun y hy => by
        obtain ⟨z, hz, rfl⟩ := List.mem_map.1 hy
        have h3 := encV_len (hg z hz) (hf z hz)
        omega) []
      rw [List.append_nil] at this
      exact this
    rw [show itemsR textR ⟨encL encT (L.map encV), false⟩ = (L.map encV, ⟨[], false⟩) from hrd2] at h
    have h : Rel (lawB W) w13 [rowD T_string u (L.map fun x => ofL (encV x)), rdD p ⟨[], false⟩, rdD p2 ⟨[], false⟩, rowD T_string u3 ((L.map encV).map ofL)] := h
    have h := h.pick [2, 3] (by decide)
    have h : Rel (lawB W) w13 [rdD p2 ⟨[], false⟩, rowD T_string u3 ((L.map encV).map ofL)] := h
    have hl3 : ((L.map encV).map ofL).length = L.length := by rw [List.length_map, List.length_map]
    have hr3 : rowR u3 ((L.map encV).map ofL) ⟨w13, fun _ => True⟩ := rowD.read (h.here (i := 1) rfl)
    rw [rowR.len hr3 sl_s_string, hl3, bin_neq, decide_eq_true rfl, Bool.not_true, ifB_false]
    clear hr3
    refine h.ask (fun B2 own base2 => rDone_g (own (i := 0) rfl)) fun w14 h => ?_
    rw [show doneR ⟨[], false⟩ = true from rfl, un_not, Bool.not_true, ifB_false]
    have h := h.pick [1] (by decide)
    have h : Rel (lawB W) w14 [rowD T_string u3 ((L.map encV).map ofL)] := h
    refine LOOP_intro (fun x w' => ∃ i : Nat, i ≤ L.length ∧ x = (.int .i64 i, ()) ∧ Rel (lawB W) w' [rowD T_string u3 ((L.map encV).map ofL)]) (fun x _ => L.length - (match x.1 with | .int _ n => n.toNat | _ => 0))
      ⟨0, Nat.zero_le _, rfl, h⟩ ?_
    clear h
    rintro x w15 ⟨i, hi, rfl, h⟩ next hnext
    simp -zeta only [bin_lss, ifB_dec]
    refine ⟨fun hlt => ?_, fun hge => fin _ _ h⟩
    have hil : i < L.length := by omega
    have hr3 : rowR u3 ((L.map encV).map ofL) ⟨w15, fun _ => True⟩ := rowD.read (h.here (i := 0) rfl)
    obtain ⟨g3, o3, hx3, hc3⟩ := rowR.idx hr3 sl_s_string (P := Tryd.prog) (i := i) (by omega)
    have he3 : ((L.map encV).map ofL)[i]'(by omega) = ofL (encV L[i]) := by simp
    rw [he3] at hc3
    have hc3 : (cellsR g3 o3 [.string (ofL (encV L[i]))]).here w15 := hc3
    rw [hx3, cellsR.ld0 hc3 sc_string rfl]
    refine h.make (fun B2 own base2 => open_m) fun u4 τ w16 hp h => ?_
    obtain ⟨p4, rfl, rfl⟩ := hp
    have h : Rel (lawB W) w16 [rowD T_string u3 ((L.map encV).map ofL), rdD p4 ⟨encV L[i], false⟩] := h
    rw [bin_eql_ptr_nil U_p_wire_Reader, ifB_false]
    obtain ⟨g, o, hx, hc⟩ := rowR.idx r sl_s_erratalaw01_Value (P := Tryd.prog) (i := i) (by omega)
    rw [vget hil] at hc
    have hc : cellsR g o L[i].raw.cs (lawB W) := hc
    have hm := List.getElem_mem hil
    have hl5 := encV_len (hg _ hm) (hf _ hm)
    rw [hx, cellsR.ldAg (h.hereB hc) ag_erratalaw01_Value rfl]
    refine h.rd_ 1 rfl (fun B2 own base2 => equal_d (base2 hB) (base2 (q _ hm)) (hg _ hm) (by show (encV L[i]).length ≤ _; omega)) fun w17 h => ?_
    have hee := equalS_enc (hg _ hm) (hf _ hm) []
    rw [List.append_nil] at hee
    rw [hee] at h ⊢
    have h : Rel (lawB W) w17 [rowD T_string u3 ((L.map encV).map ofL), rdD p4 ⟨[], false⟩] := h
    rw [un_not, Bool.not_true, ifB_false]
    refine h.ask (fun B2 own base2 => rDone_g (own (i := 1) rfl)) fun w18 h => ?_
    rw [show doneR ⟨[], false⟩ = true from rfl, un_not, Bool.not_true, ifB_false, bin_add, wrap_id (by omega) (by omega)]
    exact hnext _ _ ⟨i + 1, hil, rfl, h.take 1⟩ (by simp only; omega)
end Go.Proofs.YtkcjcbmbddfjnaaDoor
