/-
  RetainBack: what the law computes. No condition.
-/
import Derived.Test.YtmllhipiahlihaaDoorRetainG
import Derived.Test.YtmllhipiahlihaaDoorRetainF
namespace Go.Proofs.YtmllhipiahlihaaDoor
open Go.RowKit
set_option maxRecDepth 100000

theorem hor_ge (h : Int) : ∀ l : List Ev, h ≤ hor h l ∧ ∀ e ∈ l, e.time + 1 ≤ hor h l
  | [] => ⟨Int.le_refl _, fun e he => by cases he⟩
  | a :: l => by
    obtain ⟨h1, h2⟩ := hor_ge (max h (a.time + 1)) l
    show h ≤ hor (max h (a.time + 1)) l ∧ ∀ e ∈ a :: l, e.time + 1 ≤ hor (max h (a.time + 1)) l
    refine ⟨by omega, fun e he => ?_⟩
    rcases List.mem_cons.1 he with rfl | he
    · omega
    · exact h2 e he
theorem hor_le {M : Int} : ∀ (l : List Ev) (h : Int), h ≤ M → (∀ e ∈ l, e.time + 1 ≤ M) → hor h l ≤ M
  | [], h, h1, _ => h1
  | a :: l, h, h1, h2 => hor_le l (max h (a.time + 1)) (by have := h2 a List.mem_cons_self; omega) fun e he => h2 e (List.mem_cons_of_mem _ he)
theorem RightS.add {s : St} (h : RightS s) (e : Ev) (hv : ∀ v ∈ e.row, GoodVal v) (hs : inI e.schema) (ht : inI e.time) : RightS (addS s e).2 := by
  rcases addS_cases s e with ⟨_, e2, e3, e4, e5, e6⟩ | ⟨_, e2⟩
  · rw [e2]
    refine ⟨h.part, h.first, h.horz, h.zero, by simp only [List.length_append, List.length_singleton]; omega, fun x hx => ?_, fun i hi => ?_⟩
    · rcases List.mem_append.1 hx with hx | hx
      · have g := h.good x hx
        exact ⟨g.right, g.row, g.vals, g.schema, g.time⟩
      · rw [List.mem_singleton.1 hx]; exact ⟨e3, e4, hv, hs, ht⟩
    · simp only [List.length_append, List.length_singleton] at hi
      by_cases c : i < s.events.length
      · simp only [List.getElem_append_left c]; exact h.pos i c
      · have e7 : i = s.events.length := by omega
        subst e7
        simp only [List.getElem_append_right (Nat.le_refl _), Nat.sub_self, List.getElem_cons_zero]
        exact e5
  · rw [e2]; exact h
theorem RightS.cut {s : St} (h : RightS s) {n : Nat} (hn : n ≤ s.events.length) (hb : s.first + s.events.length ≤ 1152921504606846976) : RightS (cutS s n) := by
  have h1 := h.first
  have h2 := h.horz
  obtain ⟨g1, g2⟩ := hor_ge s.horizon (s.events.take n)
  have htm : ∀ e ∈ s.events.take n, 0 ≤ e.time ∧ e.time + 1 ≤ 1099511627777 := fun e he => by
    have := (h.good e (List.mem_of_mem_take he)).tm
    omega
  refine ⟨h.part, ⟨by show 0 ≤ s.first + n; omega, by show s.first + n ≤ _; omega⟩, ⟨by show 0 ≤ hor s.horizon (s.events.take n); omega, hor_le _ _ h2.2 fun e he => (htm e he).2⟩, ?_, by show (s.events.drop n).length ≤ _; rw [List.length_drop]; have := h.count; omega, fun e he => ?_, fun i hi => ?_⟩
  · show hor s.horizon (s.events.take n) = 0 ↔ s.first + n = 0
    by_cases c : n = 0
    · subst c
      rw [List.take_zero]
      show s.horizon = 0 ↔ s.first + 0 = 0
      rw [Int.add_zero]; exact h.zero
    · have hm : s.events[0]'(by omega) ∈ s.events.take n := by
        rw [List.mem_take_iff_getElem]; exact ⟨0, by omega, rfl⟩
      have := g2 _ hm
      have := (htm _ hm).1
      exact ⟨fun hh => by omega, fun hh => by omega⟩
  · have g := h.good e (List.mem_of_mem_drop he)
    exact ⟨g.right, g.row, g.vals, g.schema, g.time⟩
  · have hi2 : i < (s.events.drop n).length := hi
    have e : (cutS s n).events[i] = (s.events.drop n)[i]'hi2 := rfl
    refine (congrArg Ev.pos e).trans ?_
    rw [List.getElem_drop, h.pos]
    show s.first + ((n + i : Nat) : Int) = s.first + n + i
    omega
theorem addS_len (s : St) (e : Ev) : (addS s e).2.first = s.first ∧ (addS s e).2.part = s.part ∧ (addS s e).2.events.length ≤ s.events.length + 1 := by
  rcases addS_cases s e with ⟨_, e2, _⟩ | ⟨_, e2⟩ <;> rw [e2]
  · exact ⟨rfl, rfl, by simp⟩
  · exact ⟨rfl, rfl, by omega⟩
theorem encSt_len {s : St} (h : RightS s) : (encSt s).length ≤ 20000000 := by
  have := flat_len evB s.events 5000 fun e hx => evB_len (h.good e hx)
  have h1 := encI_len h.part
  have h2 := encI_len (n := s.first) (by have := h.first; constructor <;> omega)
  have h3 := encI_len (n := s.horizon) (by have := h.horz; constructor <;> omega)
  have h4 := encI_len (n := (s.events.length : Int)) (by have := h.count; constructor <;> omega)
  have := h.count
  have : 5000 * s.events.length ≤ 5000 * 2000 := Nat.mul_le_mul_left _ h.count
  unfold encSt
  simp only [List.length_append]
  omega
section
variable {W : World} {w : World} {K : Value → World → Prop}
set_option maxHeartbeats 1000000 in
theorem retainBack_pt {part : Int} {v : Value} {ops : List D_erratalaw12_Op} {text : ByteArray} (hB : wireD (lawB W)) (hp0 : -9223372036854775808 ≤ part ∧ part ≤ 9223372036854775807) (r : rowR v ops (lawB W)) (hm : ops.length ≤ maxLen) (hq : ∀ o ∈ ops, ok_erratalaw12_Op W o) (wx : text.size ≤ maxLen)
    (fin : ∀ w' σ, Rel (lawB W) w' σ → K (.bool true) w') : erratalaw12_RetainBack.pt (.int .i64 part) v (.string text) W K := by
  unfold erratalaw12_RetainBack.pt
  have h := lawB.start W
  refine small_r h fun w1 h => ?_
  refine few_r h r hm hq fun bb w2 hfew h => ?_
  rw [un_not, ifB_not, ifB_bool]
  refine ⟨fun hb => ?_, fun _ => fin _ _ h⟩
  obtain ⟨h60, hfew⟩ := hfew hb
  simp -zeta only [len_string U_string, bin_gtr, ifB_dec]
  refine ⟨fun _ => fin _ _ h, fun ht => ?_⟩
  obtain ⟨t, rfl⟩ : ∃ t : Bs, text = ofL t := ⟨bl text, (ofL_bl text).symm⟩
  rw [ofL_size] at ht
  refine h.make (fun _ _ _ => new_m part) fun u τ w3 hp h => ?_
  obtain ⟨b, rfl, rfl⟩ := hp
  have UpS' := UpS
  simp -zeta only [bin_eql_ptr_nil UpS, ifB_false]
  have h : Rel (lawB W) w3 [storeD b ⟨part, 0, 0, []⟩] := h
  have hR0 : RightS ⟨part, 0, 0, []⟩ := ⟨hp0, ⟨Int.le_refl _, by show (0 : Int) ≤ _; omega⟩, ⟨Int.le_refl _, by show (0 : Int) ≤ _; omega⟩, Iff.rfl, Nat.zero_le _, fun e he => (by cases he), fun i hi => absurd hi (Nat.not_lt_zero i)⟩
  refine LOOP_intro (fun x w' => ∃ (i : Nat) (s : St), i ≤ ops.length ∧ x = (.int .i64 i, ()) ∧ RightS s ∧ s.first + s.events.length ≤ i ∧ Rel (lawB W) w' [storeD b s]) (fun x _ => ops.length - (match x.1 with | .int _ n => n.toNat | _ => 0))
    ⟨0, _, Nat.zero_le _, rfl, hR0, Int.le_refl _, h⟩ ?_
  clear h
  rintro x w4 ⟨i, s, hi, rfl, hs, hle, h⟩ next hnext
  simp -zeta only [rowR.len r sl_s_erratalaw12_Op, bin_lss]
  rw [ifB_dec]
  refine ⟨fun hlt => ?_, fun hge => ?_⟩
  case refine_2 =>
    clear hnext
    refine h.ask (fun B2 own base2 => stBytes_g (base2 hB) (storeD.read (own (i := 0) rfl)) hs) fun w16 h => ?_
    have hel := encSt_len hs
    refine h.make (fun B2 own base2 => stRead_m (base2 hB) (by omega)) fun u τ w17 hp h => ?_
    rw [readSt_enc hs] at hp
    rcases hp with ⟨s', b', e, rfl, rfl⟩ | ⟨hn, _⟩
    case inr => cases hn
    injection e with e
    subst e
    simp -zeta only [ext_2_0, ext_2_1]
    have h : Rel (lawB W) w17 [storeD b s, storeD b' s] := h
    simp -zeta only [bin_eql_ptr_nil UpS, ifB_false]
    rw [un_not, Bool.not_true, ifB_false]
    refine h.make (fun B2 own base2 => stRead_m (t := t) (base2 hB) (by omega)) fun u τ w18 hp h => ?_
    have main : ∀ w' τ', Rel (lawB W) w' (storeD b s :: storeD b' s :: τ') → ifB (.bool true)
        (upK Tryd.prog (sCall F_retain_Store_Bytes #[ptr b']) w' fun t99 w20 =>
          upK Tryd.prog (sCall F_retain_Store_Bytes #[ptr b]) w20 fun t101 w21 =>
          pureK Tryd.prog (sBin .eql T_string (.tmp 99) (.tmp 101) t99 t101) fun t102 =>
          ifB t102
          (upK Tryd.prog (sCall F_retain_Store_First #[ptr b']) w21 fun t106 w22 =>
           upK Tryd.prog (sCall F_retain_Store_First #[ptr b]) w22 fun t108 w23 =>
           pureK Tryd.prog (sBin .eql T_int (.tmp 106) (.tmp 108) t106 t108) fun t109 =>
           ifB t109
           (upK Tryd.prog (sCall F_retain_Store_Next #[ptr b']) w23 fun t113 w24 =>
            upK Tryd.prog (sCall F_retain_Store_Next #[ptr b]) w24 fun t115 w25 =>
            pureK Tryd.prog (sBin .eql T_int (.tmp 113) (.tmp 115) t113 t115) fun t116 =>
            ifB t116
            (upK Tryd.prog (sCall F_retain_Store_Horizon #[ptr b']) w25 fun t120 w26 =>
             upK Tryd.prog (sCall F_retain_Store_Horizon #[ptr b]) w26 fun t122 w27 =>
             pureK Tryd.prog (sBin .eql T_int (.tmp 120) (.tmp 122) t120 t122) fun t123 =>
             K t123 w27)
            (K (.bool false) w25))
           (K (.bool false) w23))
          (K (.bool false) w21))
        (K (.bool false) w') := fun w' τ' h => by
      rw [ifB_true]
      refine h.ask (fun B2 own base2 => stBytes_g (base2 hB) (storeD.read (own (i := 1) rfl)) hs) fun w20 h => ?_
      refine h.ask (fun B2 own base2 => stBytes_g (base2 hB) (storeD.read (own (i := 0) rfl)) hs) fun w21 h => ?_
      rw [eql_str, decide_eq_true rfl, ifB_true]
      refine h.ask (fun B2 own base2 => first_g (storeD.read (own (i := 1) rfl))) fun w22 h => ?_
      refine h.ask (fun B2 own base2 => first_g (storeD.read (own (i := 0) rfl))) fun w23 h => ?_
      rw [bin_eql, decide_eq_true rfl, ifB_true]
      refine h.ask (fun B2 own base2 => next_g (storeD.read (own (i := 1) rfl))) fun w24 h => ?_
      refine h.ask (fun B2 own base2 => next_g (storeD.read (own (i := 0) rfl))) fun w25 h => ?_
      rw [bin_eql, decide_eq_true rfl, ifB_true]
      refine h.ask (fun B2 own base2 => horizon_g (storeD.read (own (i := 1) rfl))) fun w26 h => ?_
      refine h.ask (fun B2 own base2 => horizon_g (storeD.read (own (i := 0) rfl))) fun w27 h => ?_
      rw [bin_eql, decide_eq_true rfl]
      exact fin _ _ h
    rcases hp with ⟨s2, b2, e2, rfl, rfl⟩ | ⟨hn, rfl, rfl⟩
    · simp -zeta only [ext_2_0, ext_2_1]
      have h : Rel (lawB W) w18 [storeD b s, storeD b' s, storeD b2 s2] := h
      obtain ⟨e3, hs2⟩ := readSt_back e2
      simp -zeta only [bin_neq_ptr_nil UpS]
      rw [bin_neq_bool U_bool, show (!(true == true)) = false from rfl, ifB_false]
      refine LETJ_intro fun J4 hJ4 => ?_
      rw [ifB_true]
      refine h.ask (fun B2 own base2 => stBytes_g (base2 hB) (storeD.read (own (i := 2) rfl)) hs2) fun w28 h => ?_
      rw [e3, neq_str, decide_eq_true rfl, Bool.not_true, ifB_false]
      exact hJ4 _ _ (main _ _ h)
    · simp -zeta only [ext_2_0, ext_2_1]
      have h : Rel (lawB W) w18 [storeD b s, storeD b' s] := h
      simp -zeta only [neq_pnil_pnil UpS]
      rw [bin_neq_bool U_bool, show (!(false == false)) = false from rfl, ifB_false]
      refine LETJ_intro fun J4 hJ4 => ?_
      rw [ifB_false]
      exact hJ4 _ _ (main _ _ h)
  have hil : i < ops.length := by omega
  have hbnd : s.first + s.events.length ≤ 60 := by omega
  have hf0 := hs.first
  refine LETJ_intro fun J1 hJ1 => ?_
  replace hJ1 : ∀ w' (s' : St) τ, RightS s' → s'.first + s'.events.length ≤ (i + 1 : Nat) → Rel (lawB W) w' (storeD b s' :: τ) → J1 () w' := fun w' s' τ h1 h2 h => by
    refine hJ1 _ _ ?_
    rw [bin_add, wrap_id (by omega) (by omega)]
    exact hnext _ _ ⟨i + 1, s', hil, rfl, h1, h2, h.take 1⟩ (by simp only; omega)
  clear hnext
  obtain ⟨g, o, hx, hc⟩ := rowR.idx r sl_s_erratalaw12_Op hil
  obtain ⟨row, hrow, hr13, hsrc, hrs, hrv⟩ := hfew _ (List.getElem_mem hil)
  obtain ⟨_, ⟨e0, e1, _, e3, e4, _⟩, _⟩ := hq _ (List.getElem_mem hil)
  generalize ops[i] = op at hc hrow hsrc e0 e1 e3 e4
  have hgv : ∀ v ∈ row, GoodVal v := fun v hv => ⟨(hrv v hv).1, (hrv v hv).2.1, by have := hrs v hv; rw [bl_length]; omega⟩
  simp -zeta only [hx, cellsR.ldAg (h.hereB hc) ag_erratalaw12_Op rfl]
  refine h.allocAg (ds := op.cs.toArray) z_erratalaw12_Op rfl ag_erratalaw12_Op rfl (fun v hv => Enc.one op v hv) fun bo w7 h => ?_
  have h : Rel (lawB W) w7 [storeD b s, cellD bo T_erratalaw12_Op op.cs.toArray] := h
  refine LETJ_intro fun J2 hJ2 => ?_
  replace hJ2 : ∀ (w' : World) (op : D_erratalaw12_Op), rowR op.e.row.1 row (lawB W) → inI op.e.schema → inI op.e.time → Rel (lawB W) w' [storeD b s, cellD bo T_erratalaw12_Op op.cs.toArray] → J2 () w' := by
    intro w5 op hrow hsch htm h
    refine hJ2 _ _ ?_
    clear hJ2
    have hmod : 0 ≤ op.do_ % 5 ∧ op.do_ % 5 < 5 := by omega
    simp -zeta only [field_addr f_erratalaw12_Op_0, Nat.zero_add, h.ld 1 rfl sc_int (o := 0) (v := .int .i64 op.do_) rfl]
    refine h.ask (fun _ _ _ => pick_g op.do_) fun w6 h => ?_
    refine LETJ_intro fun J5 hJ5 => ?_
    replace hJ5 : ∀ bb : Bool, J5 (.bool bb, ()) w6 := by
      intro bb
      refine hJ5 _ _ ?_
      clear hJ5
      simp -zeta only [field_addr f_erratalaw12_Op_1, field_addr f_erratalaw12_Op_3]
      show ifB (.bool bb) _ _
      rw [ifB_bool]
      have hce : cellsR bo 1 op.e.cs ⟨w6, fun _ => True⟩ := cellD.sub (h.here (i := 1) rfl) rfl
      refine ⟨fun _ => ?_, fun _ => ?_⟩
      · simp -zeta only [Nat.zero_add, cellsR.ldAg hce ag_api_Event rfl]
        refine h.act 0 rfl (fun B2 own base2 => addN_d (evOf op.e row) op.e.row (base2 hrow) (fun x hx => by have := hrs x hx; omega)) fun u e' τ w7 hp h => ?_
        obtain ⟨rfl, rfl, rfl⟩ := hp
        obtain ⟨a1, a2, a3⟩ := addS_len s (evOf op.e row)
        exact hJ1 _ _ _ (hs.add _ hgv hsch htm) (by rw [a1]; omega) h
      · simp -zeta only [bin_eql, ifB_dec, Nat.zero_add, h.ld 1 rfl sc_int (o := 8) (v := .int .i64 op.n) rfl]
        refine ⟨fun _ => ?_, fun _ => ⟨fun _ => ?_, fun _ => hJ1 _ s _ hs (by omega) h⟩⟩
        · refine h.act 0 rfl (fun B2 own base2 => drop_d op.n (by omega)) fun u e' τ w7 hp h => ?_
          obtain ⟨rfl, rfl, rfl⟩ := hp
          have hn := placeS_le s op.n
          exact hJ1 _ _ _ (hs.cut hn (by omega)) (by show s.first + (placeS s op.n : Int) + ((s.events.drop (placeS s op.n)).length : Int) ≤ _; rw [List.length_drop]; omega) h
        · refine h.act 0 rfl (fun B2 own base2 => trim_d op.n (by omega)) fun u e' τ w7 hp h => ?_
          obtain ⟨rfl, rfl, rfl⟩ := hp
          have hn := trimN_le s op.n
          exact hJ1 _ _ _ (hs.cut hn (by omega)) (by show s.first + (trimN s op.n : Int) + ((s.events.drop (trimN s op.n)).length : Int) ≤ _; rw [List.length_drop]; omega) h
    simp -zeta only [bin_eql, ifB_dec]
    exact ⟨fun _ => hJ5 _, fun _ => hJ5 _⟩
  simp -zeta only [field_addr f_erratalaw12_Op_2, Nat.zero_add, h.ld 1 rfl sc_bool (o := 7) (v := .bool op.next) rfl]
  rw [ifB_bool]
  refine ⟨fun _ => ?_, fun _ => hJ2 _ op hrow e3 e4 h⟩
  refine h.ask (fun _ own _ => next_g (storeD.read (own (i := 0) rfl))) fun w14 h => ?_
  simp -zeta only [field_addr f_erratalaw12_Op_1, field_addr f_api_Event_1, Nat.zero_add, Nat.reduceAdd]
  refine h.st 1 rfl sc_int (show 2 < 9 by omega) rfl fun w6 h => ?_
  exact hJ2 _ { op with e := { op.e with pos_ := s.next } } hrow e3 e4 h
end
end Go.Proofs.YtmllhipiahlihaaDoor
