/-
  The store's functions that change it, and those that make new things. No condition.
-/
import Derived.Test.YtmllhipiahlihaaGreatDoorRetainB
namespace Go.Proofs.YtmllhipiahlihaaGreatDoor
open Go.RowKit
set_option maxRecDepth 100000

section
variable {B : Base} {b : Nat} {s : St}

theorem new_m (part : Int) : Makes Tryz.prog B (sCall F_retain_New #[.int .i64 part]) fun u τ => ∃ b, u = ptr b ∧ τ = [storeD b ⟨part, 0, 0, []⟩] := by
  refine Makes.intro fun B' w K base h k => ?_
  refine retain_New.up (retain_New.call ?_)
  unfold retain_New.pt
  simp -zeta only [bd_retain_Store_0]
  refine h.box fun b w1 h => ?_
  have h := h.addNil D_api_Event T_api_Event
  refine k _ _ _ ⟨b, rfl, rfl⟩ ?_
  have ho : okS ⟨part, 0, 0, []⟩ := ⟨Int.le_refl 0, by show (0 : Int) ≤ _; decide, Nat.zero_le _, fun e he => by cases he⟩
  have h : Rel B' w1 ([stCell b ⟨part, 0, 0, []⟩ (.slice none 0 0), rowD T_api_Event (.slice none 0 0) (raws [])] ++ ([] : EvL).map rowEnt) := h
  have h := h.gather (g := fun p => rowR p.2.1 p.1.row) (fun x hx => by cases hx)
  exact store_close (τ := []) h rfl ho

theorem addN_d (e : Ev) (v : SV) (r : rowR v.1 e.row B) (hz : ∀ x ∈ e.row, x.s.size ≤ 9223372036854775807) :
    Does Tryz.prog B (storeD b s) (sCall F_retain_Store_Add #[ptr b, (e.raw v).v]) fun u e' τ => u = .int .i64 (addS s e).1 ∧ e' = storeD b (addS s e).2 ∧ τ = [] := by
  refine Does.intro fun B' w K base h k => ?_
  replace r := base r
  obtain ⟨v0, L, he, ho, h⟩ := store_open h
  refine retain_Store_Add.up (retain_Store_Add.call ?_)
  unfold retain_Store_Add.pt
  refine h.box fun b1 w1 h => ?_
  have e1 : ((e.raw v).v : Value).cells = (e.raw v).cs.toArray := Enc.cells_val (e.raw v)
  rw [e1] at h
  replace h : Rel B' w1 [stCell b s v0.1, rowD T_api_Event v0.1 (raws L), rowsR L, cellD b1 T_api_Event (e.raw v).cs.toArray] := h
  have same : ∀ w' c, (addS s e) = (c, s) → Rel B' w' [stCell b s v0.1, rowD T_api_Event v0.1 (raws L), rowsR L, cellD b1 T_api_Event (e.raw v).cs.toArray] → K (.int .i64 c) w' := fun w' c hc h => by
    rw [hc] at k
    exact k _ _ _ _ ⟨rfl, rfl, rfl⟩ ((store_close h he ho).take 1)
  rw [h.ldAg 3 rfl ag_api_Event rfl]
  refine h.ask (fun B2 own base2 => right_g ⟨v0, L, he, ho, own (i := 0) rfl, rowD.read (own (i := 1) rfl), own (i := 2) rfl⟩ e v) fun w2 h => ?_
  rw [un_not, ifB_not, ifB_bool]
  refine ⟨fun hr => ?_, fun hr => same _ _ (by unfold addS; rw [if_neg (by rw [hr]; decide)]) h⟩
  simp -zeta only [field_addr f_api_Event_5, Nat.zero_add, h.ld 3 rfl sc_s_api_Value (o := 5) rfl]
  refine h.ask (fun B2 own base2 => vRightRow_g (base2 r) hz) fun w3 h => ?_
  rw [un_not, ifB_not, ifB_bool]
  refine ⟨fun hrr => ?_, fun hrr => same _ _ (by unfold addS; rw [if_pos hr, if_neg (by rw [hrr]; decide)]) h⟩
  have h := h.tick
  simp -zeta only [field_addr f_api_Event_1, Nat.zero_add, h.ld 3 rfl sc_int (o := 1) rfl]
  refine h.ask (fun B2 own base2 => next_g ⟨v0, L, he, ho, own (i := 0) rfl, rowD.read (own (i := 1) rfl), own (i := 2) rfl⟩) fun w4 h => ⟨h.is 3 rfl sc_int (o := 1) rfl, ?_⟩
  simp -zeta only [bin_neq, ifB_not, ifB_dec]
  refine ⟨fun (hp : e.pos = s.next) => ?_, fun (hp : ¬ e.pos = s.next) => same _ _ (by unfold addS; rw [if_pos hr, if_pos hrr, if_neg hp]) h⟩
  obtain ⟨o1, o2, o3, o4⟩ := ho
  have hrd := rowD.read (h.here (i := 1) rfl)
  simp -zeta only [nil_ptr, field_addr f_retain_Store_3, Nat.zero_add, h.ld 0 rfl sc_s_api_Event (o := 3) rfl, rowR.len hrd sl_s_api_Event, raws_len he, bin_geq, ifB_dec]
  refine ⟨fun hf => same _ _ (by unfold addS; rw [if_pos hr, if_pos hrr, if_pos hp, if_neg (by omega)]) h, fun hf => ?_⟩
  have hok : addS s e = (0, { s with events := s.events ++ [e] }) := by unfold addS; rw [if_pos hr, if_pos hrr, if_pos hp, if_pos (by omega)]
  have h := h.tick
  rw [h.ld 0 rfl sc_s_api_Event (o := 3) rfl, h.ldAg 3 rfl ag_api_Event rfl]
  have hl : e.row.length ≤ 1000000 := by
    have h12 := hrr
    unfold rightRow at h12
    rw [Bool.and_eq_true] at h12
    have := of_decide_eq_true h12.1
    omega
  refine h.make (fun B2 own base2 => event_m e v (base2 r) hl) fun y τ w5 hp2 h => ?_
  obtain ⟨v', rfl, rfl⟩ := hp2
  refine ⟨h.is 0 rfl sc_s_api_Event (o := 3) rfl, ?_⟩
  have hrl := raws_len he
  refine h.build1 (e.raw v') sl_s_api_Event (by decide) fun t w6 h => ⟨h.is 0 rfl sc_s_api_Event (o := 3) rfl, ?_⟩
  refine h.append 1 rfl sl_s_api_Event (Rd.at 5 rfl) (by simp; omega) (by simp; omega) fun u w7 h => ?_
  have hu : u.oneCell' = true := h.oneCell (i := 1) rfl
  refine h.st 0 rfl sc_s_api_Event (show 3 < 4 by omega) hu fun w8 h => ?_
  rw [hok] at k
  refine k _ _ _ _ ⟨rfl, rfl, rfl⟩ ?_
  have h := h.pick [0, 1, 2, 4] (by decide)
  have h := h.join 2 3 rfl rfl (by omega)
  have h := h.imp (i := 2) (e := rowsR (L ++ [(e, v')])) rfl fun B hB => Dat.all_append (Dat.star.left hB) (by
    intro p hp
    simp only [List.mem_cons, List.not_mem_nil, or_false] at hp
    subst hp
    exact rowD.read (Dat.star.right hB))
  have h := h.take 3
  have hev : raws L ++ [e.raw v'] = raws (L ++ [(e, v')]) := by simp [raws]
  have h : Rel B' w8 [stCell b { s with events := s.events ++ [e] } u, rowD T_api_Event u (raws L ++ [e.raw v']), rowsR (L ++ [(e, v')])] := h
  rw [hev] at h
  refine store_close (s := { s with events := s.events ++ [e] }) (τ := []) h (by simp [evs, ← he]) ⟨o1, o2, by simp; omega, fun x hx => ?_⟩
  rcases List.mem_append.1 hx with hx | hx
  · exact o4 x hx
  · simp only [List.mem_cons, List.not_mem_nil, or_false] at hx
    subst hx
    simp only [rightE, Bool.and_eq_true, decide_eq_true_eq] at hr
    exact ⟨hl, by omega, by omega⟩

theorem add_d (e : Ev) (v : SV) (r : rowR v.1 e.row B) (_ : e.row.length ≤ 1000000) (hz : ∀ x ∈ e.row, x.s.size ≤ 9223372036854775807) :
    Does Tryz.prog B (storeD b s) (sCall F_retain_Store_Add #[ptr b, (e.raw v).v]) fun u e' τ => u = .int .i64 (addS s e).1 ∧ e' = storeD b (addS s e).2 ∧ τ = [] := addN_d e v r hz

theorem clone_sub {v : Value} {L : EvL} {n : Nat} (r : rowR v (raws (L.drop n)) B) (hn : L.length ≤ 2000) : Makes Tryz.prog B (sCall F_slices_Clone_s_api_Event_api_Event #[v]) fun v' τ => τ = [rowD T_api_Event v' (raws (L.drop n))] :=
  gslices_Clone_s_api_Event_api_Event r (by simp [raws]; omega) (by simp [raws]; omega)

theorem hor_succ {l : List Ev} {i : Nat} (hi : i < l.length) (h0 : Int) : hor h0 (l.take (i + 1)) = max (hor h0 (l.take i)) (l[i].time + 1) := by
  unfold hor
  rw [List.take_succ_eq_append_getElem hi, List.foldl_append]
  rfl

theorem cut_d (n : Nat) (hn : n ≤ s.events.length) (hb : s.first + n ≤ 2305843009213693952) :
    Does Tryz.prog B (storeD b s) (sCall F_retain_Store_cut #[ptr b, .int .i64 n]) fun u e' τ => u = .int .i64 n ∧ e' = storeD b (cutS s n) ∧ τ = [] := by
  refine Does.intro fun B' w K base h k => ?_
  obtain ⟨v0, L, he, ho, h⟩ := store_open h
  obtain ⟨o1, o2, o3, o4⟩ := ho
  have hLl : L.length = s.events.length := by rw [← he]; simp [evs]
  refine retain_Store_cut.up (retain_Store_cut.call ?_)
  unfold retain_Store_cut.pt
  refine LOOP_intro (fun x w' => ∃ i : Nat, i ≤ n ∧ x = (.int .i64 i, ()) ∧ Rel B' w' [stCell b { s with horizon := hor s.horizon (s.events.take i) } v0.1, rowD T_api_Event v0.1 (raws L), rowsR L]) (fun x _ => n - (match x.1 with | .int _ n => n.toNat | _ => 0)) ⟨0, Nat.zero_le _, rfl, h⟩ ?_
  clear h
  rintro x w1 ⟨i, hi, rfl, h⟩ next hnext
  simp -zeta only [bin_lss, ifB_dec]
  refine ⟨fun hlt => ?_, fun hge => ?_⟩
  · have h := h.tick
    have hil : i < s.events.length := by omega
    obtain ⟨g, o, hx, hc⟩ := rowR.idx (rowD.read (h.here (i := 1) rfl)) sl_s_api_Event (i := i) (by rw [raws_len he]; omega)
    have hel : (raws L)[i]'(by rw [raws_len he]; omega) = s.events[i].raw (L[i]'(by omega)).2 := by simp [raws, ← he, evs]
    rw [hel] at hc
    simp -zeta only [nil_ptr, field_addr f_retain_Store_2, field_addr f_retain_Store_3, Nat.zero_add, h.ld 0 rfl sc_int (o := 2) rfl, h.ld 0 rfl sc_s_api_Event (o := 3) rfl, hx, field_addr f_api_Event_4, cellsR.ld hc sc_int (j := 4) rfl, bin_add, blt_max]
    have ht := o4 _ (List.getElem_mem hil)
    have hw : IntKind.i64.wrap ((s.events[i].raw (L[i]'(by omega)).2).time + 1) = s.events[i].time + 1 := wrap_id (by show _ ≤ s.events[i].time + 1; omega) (by show s.events[i].time + 1 ≤ _; omega)
    rw [hw]
    refine h.st 0 rfl sc_int (show 2 < 4 by omega) rfl fun w2 h => ?_
    rw [wrap_id (by omega) (by omega)]
    refine hnext _ _ ⟨i + 1, by omega, rfl, ?_⟩ (by simp only; omega)
    rw [hor_succ hil]
    exact h
  · have : i = n := by omega
    subst this
    clear hnext
    obtain ⟨v1, hv1, hr1⟩ := rowR.cut (rowD.read (h.here (i := 1) rfl)) sl_s_api_Event (P := Tryz.prog) (lo := i) (hi := (raws L).length) (lov := some (.int .i64 i)) (hiv := none) Bnd.some Bnd.none (by rw [raws_len he]; omega) (Nat.le_refl _)
    have hd : (List.take (raws L).length (raws L)).drop i = raws (L.drop i) := by rw [List.take_length]; simp [raws]
    simp -zeta only [nil_ptr, field_addr f_retain_Store_1, field_addr f_retain_Store_3, Nat.zero_add, h.ld 0 rfl sc_s_api_Event (o := 3) rfl, hv1]
    refine h.make (fun B2 own base2 => ?_) (post := fun v' τ => τ = [rowD T_api_Event v' (raws (L.drop i))]) fun u τ w2 hp h => ?_
    · obtain ⟨v2, hv2, hr2⟩ := rowR.cut (rowD.read (own (i := 1) rfl)) sl_s_api_Event (P := Tryz.prog) (lo := i) (hi := (raws L).length) (lov := some (.int .i64 i)) (hiv := none) Bnd.some Bnd.none (by rw [raws_len he]; omega) (Nat.le_refl _)
      have e2 : v1 = v2 := by
        have h1 := hv1 (Kp := fun v => v = v2)
        rw [hv2] at h1
        exact (h1.mp rfl)
      rw [hd] at hr2
      subst e2
      exact clone_sub hr2 (by omega)
    · subst hp
      have hu : u.oneCell' = true := h.oneCell (i := 3) rfl
      refine h.st 0 rfl sc_s_api_Event (show 3 < 4 by omega) hu fun w3 h => ?_
      simp -zeta only [h.ld 0 rfl sc_int (o := 1) rfl, bin_add]
      rw [wrap_id (by omega) (by omega)]
      refine h.st 0 rfl sc_int (show 1 < 4 by omega) rfl fun w4 h => ?_
      refine k _ _ _ _ ⟨rfl, rfl, rfl⟩ ?_
      have h := h.pick [0, 3, 2] (by decide)
      have h := h.imp (i := 2) (e := rowsR (L.drop i)) rfl fun B hB p hp => hB p (List.mem_of_mem_drop hp)
      have h : Rel B' w4 [stCell b (cutS s i) u, rowD T_api_Event u (raws (L.drop i)), rowsR (L.drop i)] := h
      refine store_close (τ := []) h (by simp [evs, cutS, ← he, List.map_drop]) ⟨by show 0 ≤ s.first + i; omega, hb, by show (s.events.drop i).length ≤ _; simp; omega, fun x hx => o4 x (List.mem_of_mem_drop hx)⟩

theorem placeS_le (s : St) (pos : Int) : placeS s pos ≤ s.events.length := by unfold placeS St.next; omega
theorem drop_d (pos : Int) (hb : s.first + s.events.length ≤ 2305843009213693952) :
    Does Tryz.prog B (storeD b s) (sCall F_retain_Store_Drop #[ptr b, .int .i64 pos]) fun u e' τ => u = .int .i64 (placeS s pos) ∧ e' = storeD b (cutS s (placeS s pos)) ∧ τ = [] := by
  refine Does.intro fun B' w K base h k => ?_
  refine retain_Store_Drop.up (retain_Store_Drop.call ?_)
  unfold retain_Store_Drop.pt
  have hp := placeS_le s pos
  refine h.ask (fun B2 own base2 => place_g (storeD.read (own (i := 0) rfl)) pos) fun w1 h => ?_
  refine h.act 0 rfl (fun B2 own base2 => cut_d (placeS s pos) hp (by omega)) fun u e' τ w2 hp h => ?_
  obtain ⟨rfl, rfl, rfl⟩ := hp
  exact k _ _ _ _ ⟨rfl, rfl, rfl⟩ h

theorem trimN_le (s : St) (t : Int) : trimN s t ≤ s.events.length := by
  unfold trimN
  have := (idxP_lt (p := fun e : Ev => decide (t ≤ e.time)) (l := s.events)).2
  split <;> omega
theorem trim1_g {B : Base} {t : Int} {tb : Nat} (hc : cellD tb T_int #[.int .i64 t] B) (x : D_api_Event) : Gives Tryz.prog B (sCallV (.func (.func F_retain_Store_Trim_1) #[] #[ptr tb]) #[x.v]) (.bool (decide (t ≤ x.time))) := by
  refine Gives.intro fun B' w K base h k => ?_
  refine call_v ?_
  show upK _ (sCall _ #[x.v, ptr tb]) _ _
  refine retain_Store_Trim_1.up (retain_Store_Trim_1.call ?_)
  unfold retain_Store_Trim_1.pt
  refine h.box fun b w1 h => ?_
  replace h : Rel B' w1 [cellD b T_api_Event x.cs.toArray] := by
    have e1 : (x.v : Value).cells = x.cs.toArray := Enc.cells_val x
    rw [e1] at h
    exact h
  simp -zeta only [field_addr f_api_Event_4, Nat.zero_add, h.ld 0 rfl sc_int (o := 4) rfl, cellD.ld (h.hereB (base hc)) sc_int (o := 0) rfl, bin_geq]
  exact k _ _ h
theorem idxP_map {α β : Type} (f : α → β) (p : β → Bool) (l : List α) : idxP p (l.map f) = idxP (fun x => p (f x)) l := by
  unfold idxP
  rw [List.findIdx?_map]
  rfl
theorem trim_d (t : Int) (hb : s.first + s.events.length ≤ 2305843009213693952) :
    Does Tryz.prog B (storeD b s) (sCall F_retain_Store_Trim #[ptr b, .int .i64 t]) fun u e' τ => u = .int .i64 (trimN s t) ∧ e' = storeD b (cutS s (trimN s t)) ∧ τ = [] := by
  refine Does.intro fun B' w K base h k => ?_
  refine retain_Store_Trim.up (retain_Store_Trim.call ?_)
  unfold retain_Store_Trim.pt
  obtain ⟨v0, L, he, ho, h⟩ := store_open h
  have ho3 := ho.2.2.1
  have hrl := raws_len he
  refine h.box fun tb w1 h => ?_
  replace h : Rel B' w1 [stCell b s v0.1, rowD T_api_Event v0.1 (raws L), rowsR L, cellD tb T_int #[.int .i64 t]] := h
  simp -zeta only [nil_ptr, field_addr f_retain_Store_3, Nat.zero_add, h.ld 0 rfl sc_s_api_Event (o := 3) rfl, mk_func]
  have eidx : idxP (fun x : D_api_Event => decide (t ≤ x.time)) (raws L) = idxP (fun e : Ev => decide (t ≤ e.time)) s.events := by
    rw [← he]
    unfold raws evs
    rw [idxP_map, idxP_map]
    rfl
  refine h.ask (fun B2 own base2 => gslices_IndexFunc_s_api_Event_api_Event (rowD.read (own (i := 1) rfl)) (by omega) (fun x => decide (t ≤ x.time)) fun B3 base3 x _ => trim1_g (base3 (own (i := 3) rfl)) x) fun w2 h => ?_
  rw [eidx]
  refine LETJ_intro fun J hJ => ?_
  have hJ2 : ∀ w', Rel B' w' [stCell b s v0.1, rowD T_api_Event v0.1 (raws L), rowsR L, cellD tb T_int #[.int .i64 t]] → J (.int .i64 (trimN s t), ()) w' := by
    intro w' h
    refine hJ _ _ ?_
    have h := store_close h he ho
    refine h.act 0 rfl (fun B2 own base2 => cut_d (trimN s t) (trimN_le s t) (by have := trimN_le s t; omega)) fun u e' τ w2 hp h => ?_
    obtain ⟨rfl, rfl, rfl⟩ := hp
    exact k _ _ _ _ ⟨rfl, rfl, rfl⟩ (h.take 1)
  have hrd := rowD.read (h.here (i := 1) rfl)
  simp -zeta only [bin_lss, ifB_dec, nil_ptr, field_addr f_retain_Store_3, Nat.zero_add, h.ld 0 rfl sc_s_api_Event (o := 3) rfl, rowR.len hrd sl_s_api_Event]
  refine ⟨fun hlt => ?_, fun hge => ?_⟩
  · have : trimN s t = s.events.length := by unfold trimN; rw [if_pos hlt]
    rw [hrl, ← this]
    exact hJ2 _ h
  · have : (trimN s t : Int) = idxP (fun e : Ev => decide (t ≤ e.time)) s.events := by
      unfold trimN; rw [if_neg hge]; omega
    rw [← this]
    exact hJ2 _ h

/-- What comes out: new events with rows of their own. -/
def newEvs (u : Value) (es : List Ev) (τ : List Dat) : Prop := ∃ L' : EvL, evs L' = es ∧ τ = rowD T_api_Event u (raws L') :: L'.map rowEnt

theorem slice_m (hs : storeR b s B) (fr most : Int) : Makes Tryz.prog B (sCall F_retain_Store_Slice #[ptr b, .int .i64 fr, .int .i64 most]) fun u τ => newEvs u (sliceS s fr most) τ := by
  refine Makes.intro fun B' w K base h k => ?_
  have hs' := hs.mono base
  obtain ⟨v, L, he, ho, hc, hr, hrs⟩ := hs'
  obtain ⟨o1, o2, o3, o4⟩ := ho
  have hrl := raws_len he
  have hp := placeS_le s fr
  refine retain_Store_Slice.up (retain_Store_Slice.call ?_)
  unfold retain_Store_Slice.pt
  refine h.ask (fun B2 own base2 => place_g ((hs.mono base).mono base2) fr) fun w1 h => ?_
  have h := h.tick
  have hw1 : IntKind.i64.wrap ((s.events.length : Int) - placeS s fr) = (s.events.length : Int) - placeS s fr := wrap_id (by omega) (by omega)
  have hw2 : IntKind.i64.wrap ((placeS s fr : Int) + max 0 (min most ((s.events.length : Int) - placeS s fr))) = ((placeS s fr + (max 0 (min most ((s.events.length : Int) - placeS s fr))).toNat : Nat) : Int) := by rw [wrap_id (by omega) (by omega)]; omega
  obtain ⟨v1, hv1, hr1⟩ := rowR.cut hr sl_s_api_Event (P := Tryz.prog) (lo := placeS s fr) (hi := placeS s fr + (max 0 (min most ((s.events.length : Int) - placeS s fr))).toNat)
    (lov := some (.int .i64 (placeS s fr))) (hiv := some (.int .i64 ((placeS s fr + (max 0 (min most ((s.events.length : Int) - placeS s fr))).toNat : Nat) : Int))) Bnd.some Bnd.some (by omega) (by omega)
  have hd : ((raws L).take (placeS s fr + (max 0 (min most ((s.events.length : Int) - placeS s fr))).toNat)).drop (placeS s fr) = raws ((L.drop (placeS s fr)).take (max 0 (min most ((s.events.length : Int) - placeS s fr))).toNat) := by
    simp [raws, List.drop_take]
  rw [hd] at hr1
  simp -zeta only [nil_ptr, field_addr f_retain_Store_3, Nat.zero_add, cellD.ld (h.hereB hc) sc_s_api_Event (o := 3) rfl, rowR.len hr sl_s_api_Event, hrl, bin_sub, hw1, blt_min, blt_max, bin_add, hw2, hv1]
  have hLl : L.length = s.events.length := by rw [← he]; simp [evs]
  refine h.make (fun B2 own base2 => copied_m (L := (L.drop (placeS s fr)).take (max 0 (min most ((s.events.length : Int) - placeS s fr))).toNat) ⟨base2 hr1, base2 (Dat.mono _ (Base.le.refl _) (show (rowsR _) B' from fun p hp => hrs p (List.mem_of_mem_drop (List.mem_of_mem_take hp))))⟩ (by simp; omega)
    fun p hp => (o4 p.1 (by rw [← he]; exact List.mem_map.2 ⟨p, List.mem_of_mem_drop (List.mem_of_mem_take hp), rfl⟩)).1) fun u τ w2 hp h => ⟨cellD.is (h.hereB hc) sc_s_api_Event (o := 3) rfl, ?_⟩
  obtain ⟨L', he', rfl⟩ := hp
  refine k _ _ _ ⟨L', ?_, rfl⟩ h
  rw [he']
  unfold sliceS
  rw [← he]
  simp [evs]

theorem from_m (hs : storeR b s B) (t : Int) : Makes Tryz.prog B (sCall F_retain_Store_From #[ptr b, .int .i64 t]) fun u τ => newEvs u (fromS s t) τ := by
  refine Makes.intro fun B' w K base h k => ?_
  obtain ⟨v, L, he, ho, hc, hr, hrs⟩ := hs.mono base
  obtain ⟨o1, o2, o3, o4⟩ := ho
  have hrl := raws_len he
  refine retain_Store_From.up (retain_Store_From.call ?_)
  unfold retain_Store_From.pt
  simp -zeta only [nil_ptr, field_addr f_retain_Store_3, Nat.zero_add, cellD.ld (h.hereB hc) sc_s_api_Event (o := 3) rfl, rowR.len hr sl_s_api_Event, hrl]
  refine LOOP_intro (fun x w' => ∃ (i : Nat) (u : Value) (L' : EvL), i ≤ s.events.length ∧ x = (u, .int .i64 i, ()) ∧ evs L' = (s.events.take i).filter (fun e => decide (t ≤ e.time)) ∧ Rel B' w' (rowD T_api_Event u (raws L') :: L'.map rowEnt)) (fun x _ => s.events.length - (match x.2.1 with | .int _ n => n.toNat | _ => 0))
    ⟨0, _, [], Nat.zero_le _, rfl, rfl, h.addNil D_api_Event T_api_Event⟩ ?_
  clear h
  rintro x w1 ⟨i, u, L', hi, rfl, hev, h⟩ next hnext
  have hl' : L'.length ≤ i := by
    have h1 := congrArg List.length hev
    have h2 := List.length_filter_le (fun e : Ev => decide (t ≤ e.time)) (s.events.take i)
    simp [evs] at h1 h2
    omega
  simp -zeta only [bin_lss, ifB_dec]
  refine ⟨fun hlt => ?_, fun hge => ?_⟩
  · have hil : i < s.events.length := by omega
    have hLl : L.length = s.events.length := by rw [← he]; simp [evs]
    refine LETJ_intro fun J hJ => ?_
    have hJ2 : ∀ w' u (L' : EvL), evs L' = (s.events.take (i + 1)).filter (fun e => decide (t ≤ e.time)) → Rel B' w' (rowD T_api_Event u (raws L') :: L'.map rowEnt) → J (u, ()) w' := by
      intro w' u L' hev h
      refine hJ _ _ ?_
      show pureK _ _ _
      rw [bin_add, wrap_id (by omega) (by omega)]
      exact hnext _ _ ⟨i + 1, u, L', by omega, rfl, hev, h⟩ (by simp only; omega)
    clear hJ hnext
    obtain ⟨g, o, hx, hcx⟩ := rowR.idx hr sl_s_api_Event (i := i) (by omega)
    have hel : (raws L)[i]'(by omega) = s.events[i].raw (L[i]'(by omega)).2 := by simp [raws, ← he, evs]
    rw [hel] at hcx
    simp -zeta only [hx, cellsR.ldAg (h.hereB hcx) ag_api_Event rfl]
    refine h.allocAg (ds := (s.events[i].raw (L[i]'(by omega)).2).cs.toArray) z_api_Event rfl ag_api_Event rfl (fun v hv => Enc.one (s.events[i].raw (L[i]'(by omega)).2) v hv) fun bb w3 h => ?_
    simp -zeta only [field_addr f_api_Event_4, Nat.zero_add, h.ld _ get_last sc_int (o := 4) rfl, h.ldAg _ get_last ag_api_Event rfl, bin_geq, ifB_dec]
    have esucc : (s.events.take (i + 1)).filter (fun e => decide (t ≤ e.time)) = evs L' ++ (if t ≤ s.events[i].time then [s.events[i]] else []) := by
      rw [List.take_succ_eq_append_getElem hil, List.filter_append, hev]
      congr 1
      by_cases hh : t ≤ s.events[i].time <;> simp [hh]
    refine ⟨fun (hle : t ≤ s.events[i].time) => ?_, fun (hle : ¬ t ≤ s.events[i].time) => ?_⟩
    · have hrow : rowR (L[i]'(by omega)).2.1 s.events[i].row B' := by
        have h1 : rowR (L[i]'(by omega)).2.1 (L[i]'(by omega)).1.row B' := hrs (L[i]'(by omega)) (List.getElem_mem _)
        have h2 : (L[i]'(by omega)).1 = s.events[i] := by simp [← he, evs]
        rw [h2] at h1
        exact h1
      refine h.make (fun B2 own base2 => event_m s.events[i] (L[i]'(by omega)).2 (base2 hrow) (o4 _ (List.getElem_mem hil)).1) fun y τ w4 hp h => ?_
      obtain ⟨v', rfl, rfl⟩ := hp
      have h : Rel B' w4 ((rowD T_api_Event u (raws L') :: L'.map rowEnt) ++ [rowEnt (s.events[i], v')]) := h.mid
      refine h.push1 (α := D_api_Event) 0 rfl (s.events[i].raw v') sl_s_api_Event (by decide) (by simp [raws]; omega) (by simp [raws]; omega) fun u' w5 h => ?_
      refine hJ2 _ u' (L' ++ [(s.events[i], v')]) ?_ ?_
      · rw [esucc, if_pos hle]
        simp [evs]
      · simpa [raws] using h
    · refine hJ2 _ u L' ?_ h.drop
      rw [esucc, if_neg hle, List.append_nil]
  · have : i = s.events.length := by omega
    subst this
    rw [List.take_length] at hev
    exact k _ _ _ ⟨L', hev, rfl⟩ h

theorem copy_m (hs : storeR b s B) : Makes Tryz.prog B (sCall F_retain_Store_Copy #[ptr b]) fun u τ => ∃ b', u = ptr b' ∧ τ = [storeD b' s] := by
  refine Makes.intro fun B' w K base h k => ?_
  obtain ⟨v, L, he, ho, hc, hr, hrs⟩ := hs.mono base
  have ho' := ho
  obtain ⟨o1, o2, o3, o4⟩ := ho
  have hrl := raws_len he
  have hLl : L.length = s.events.length := by rw [← he]; simp [evs]
  refine retain_Store_Copy.up (retain_Store_Copy.call ?_)
  unfold retain_Store_Copy.pt
  simp -zeta only [nil_ptr, cellD.ldAg (h.hereB hc) ag_retain_Store rfl]
  refine h.allocAg (ds := #[.int .i64 s.part, .int .i64 s.first, .int .i64 s.horizon, v.1]) z_retain_Store rfl ag_retain_Store rfl (fun u hu => ?_) fun b' w1 h => ?_
  · simp only [List.mem_cons, List.not_mem_nil, or_false] at hu
    rcases hu with rfl | rfl | rfl | rfl <;> first | rfl | exact SV.prop _
  simp -zeta only [nil_ptr, field_addr f_retain_Store_3, Nat.zero_add, cellD.ld (h.hereB hc) sc_s_api_Event (o := 3) rfl]
  refine h.make (fun B2 own base2 => copied_m (L := L) ⟨base2 hr, base2 hrs⟩ (by omega) fun p hp => (o4 p.1 (by rw [← he]; exact List.mem_map.2 ⟨p, hp, rfl⟩)).1) fun u τ w2 hp h => ?_
  obtain ⟨L', he', rfl⟩ := hp
  have hu : u.oneCell' = true := h.oneCell (i := 1) rfl
  refine h.st 0 rfl sc_s_api_Event (show 3 < 4 by omega) hu fun w3 h => ?_
  refine k _ _ _ ⟨b', rfl, rfl⟩ ?_
  have h : Rel B' w3 ([stCell b' s u, rowD T_api_Event u (raws L')] ++ L'.map rowEnt) := h
  have h := h.gather (g := fun p => rowR p.2.1 p.1.row) (fun x hx B hB => rowD.read (E := T_api_Value) (v := x.2.1) (l := x.1.row) hB)
  exact store_close (τ := []) h (by rw [he', he]) ho'
end
end Go.Proofs.YtmllhipiahlihaaGreatDoor
