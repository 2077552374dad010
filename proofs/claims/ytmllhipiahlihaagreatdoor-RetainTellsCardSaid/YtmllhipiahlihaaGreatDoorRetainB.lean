/-
  Events and the store: what the functions of package retain do. No condition.
-/
import Derived.Test.YtmllhipiahlihaaGreatDoorRetainA
namespace Go.Proofs.YtmllhipiahlihaaGreatDoor
open Go.RowKit
set_option maxRecDepth 100000

/-- An event, its row told as a list. -/
structure Ev where
  part : Int
  pos : Int
  source : ByteArray
  schema : Int
  time : Int
  row : List Val
  deriving DecidableEq
def Ev.raw (e : Ev) (v : SV) : D_api_Event := ⟨e.part, e.pos, e.source, e.schema, e.time, v⟩
/-- Events with the values of their rows. -/
abbrev EvL := List (Ev × SV)
def raws (L : EvL) : List D_api_Event := L.map fun p => p.1.raw p.2
def evs (L : EvL) : List Ev := L.map (·.1)
def rowsR (L : EvL) : Dat := Dat.all L fun p => rowR p.2.1 p.1.row
def rowEnt (p : Ev × SV) : Dat := rowD T_api_Value p.2.1 p.1.row
/-- Events that can be read. -/
def evsR (v : Value) (L : EvL) (B : Base) : Prop := rowR v (raws L) B ∧ rowsR L B
def okEv (e : Ev) : Prop := e.row.length ≤ 1000000 ∧ (∀ x ∈ e.row, x.s.size ≤ 9223372036854775807) ∧ e.source.size ≤ 9223372036854775807

section
variable {B : Base}

theorem event_m (e : Ev) (v : SV) (r : rowR v.1 e.row B) (hl : e.row.length ≤ 1000000) : Makes Tryz.prog B (sCall F_retain_event #[(e.raw v).v]) fun u τ => ∃ v' : SV, u = (e.raw v').v ∧ τ = [rowEnt (e, v')] := by
  refine Makes.intro fun B' w K base h k => ?_
  replace r := base r
  refine retain_event.up (retain_event.call ?_)
  unfold retain_event.pt
  refine h.box fun b w1 h => ?_
  replace h : Rel B' w1 [cellD b T_api_Event (e.raw v).cs.toArray] := by
    have e1 : ((e.raw v).v : Value).cells = (e.raw v).cs.toArray := Enc.cells_val (e.raw v)
    rw [e1] at h
    exact h
  refine h.alloc z_api_Event fun b2 w2 h => ?_
  simp -zeta only [field_addr f_api_Event_5, Nat.zero_add, h.ld 0 rfl sc_s_api_Value (o := 5) rfl]
  refine h.make (fun B2 own base2 => gslices_Clone_s_api_Value_api_Value (base2 r) (by omega) (by omega)) fun v' τ w3 hp h => ?_
  subst hp
  have h1 : v'.oneCell' = true := h.oneCell (i := 2) rfl
  refine h.st 0 rfl sc_s_api_Value (show 5 < 6 by omega) h1 fun w4 h => ?_
  rw [h.ldAg 0 rfl ag_api_Event rfl]
  refine h.stAg 1 rfl ag_api_Event rfl (by decide) (fun u hu => Enc.one (e.raw ⟨v', h1⟩) u hu) fun w5 h => ?_
  rw [rv_ag h 1 rfl ag_api_Event rfl]
  exact k _ [rowEnt (e, ⟨v', h1⟩)] _ ⟨⟨v', h1⟩, rfl, rfl⟩ (h.pick [2] (by decide))

theorem eventV_m (e : Ev) (v : SV) (r : rowR v.1 e.row B) (hl : e.row.length ≤ 1000000) : Makes Tryz.prog B (sCallV (.func (.func F_retain_event) #[] #[]) #[(e.raw v).v]) fun u τ => ∃ v' : SV, u = (e.raw v').v ∧ τ = [rowEnt (e, v')] := by
  intro w σ K h k
  exact call_v (event_m e v r hl w σ K h k)

/-- 'copied' of events: new events with rows of their own. -/
theorem copied_m {v : Value} {L : EvL} (r : evsR v L B) (hn : L.length ≤ 1000000) (hl : ∀ p ∈ L, p.1.row.length ≤ 1000000) :
    Makes Tryz.prog B (sCall F_retain_copied_api_Event #[v, .func (.func F_retain_event) #[] #[]]) fun u τ => ∃ L' : EvL, evs L' = evs L ∧ τ = rowD T_api_Event u (raws L') :: L'.map rowEnt := by
  refine Makes.intro fun B' w K base h k => ?_
  have r1 := base r.1
  have r2 := base r.2
  clear r
  refine retain_copied_api_Event.up (retain_copied_api_Event.call ?_)
  unfold retain_copied_api_Event.pt
  have hrl : (raws L).length = L.length := by simp [raws]
  simp -zeta only [rowR.len r1 sl_s_api_Event]
  rw [hrl]
  refine h.mkSlice2 (m := 0) (n := L.length) (⟨0, 0, ⟨#[]⟩, 0, 0, ⟨.slice none 0 0, rfl⟩⟩ : D_api_Event) sl_s_api_Event (by kernel_rfl) (Nat.zero_le _) (by omega) (by omega) fun u w1 h _ => ?_
  refine LOOP_intro (fun x w' => ∃ (i : Nat) (u : Value) (L' : EvL), i ≤ L.length ∧ x = (u, .int .i64 i, ()) ∧ evs L' = (evs L).take i ∧ Rel B' w' (rowD T_api_Event u (raws L') :: L'.map rowEnt)) (fun x _ => L.length - (match x.2.1 with | .int _ n => n.toNat | _ => 0)) ⟨0, u, [], Nat.zero_le _, rfl, rfl, h⟩ ?_
  clear h
  rintro x w2 ⟨i, u, L', hi, rfl, he, h⟩ next hnext
  have hl' : L'.length = i := by
    have := congrArg List.length he
    simpa [evs, hi] using this
  simp -zeta only [bin_lss, ifB_dec]
  refine ⟨fun hlt => ?_, fun hge => ?_⟩
  · have hil : i < L.length := by omega
    obtain ⟨g, o, hx, hc⟩ := rowR.idx r1 sl_s_api_Event (i := i) (by omega)
    have hel : (raws L)[i]'(by omega) = L[i].1.raw L[i].2 := by simp [raws]
    rw [hel] at hc
    simp -zeta only [hx, cellsR.ldAg (h.hereB hc) ag_api_Event rfl]
    refine h.allocAg (ds := (L[i].1.raw L[i].2).cs.toArray) z_api_Event rfl ag_api_Event rfl (fun v hv => Enc.one (L[i].1.raw L[i].2) v hv) fun b w3 h => ?_
    rw [h.ldAg _ get_last ag_api_Event rfl]
    refine h.make (fun B2 own base2 => eventV_m L[i].1 L[i].2 (base2 (r2 L[i] (List.getElem_mem hil))) (hl _ (List.getElem_mem hil))) fun y τ w4 hp h => ?_
    obtain ⟨v', rfl, rfl⟩ := hp
    have h : Rel B' w4 ((rowD T_api_Event u (raws L') :: L'.map rowEnt) ++ [rowEnt (L[i].1, v')]) := h.mid
    refine h.push1 (α := D_api_Event) 0 rfl (L[i].1.raw v') sl_s_api_Event (by decide) (by simp [raws]; omega) (by simp [raws]; omega) fun u' w5 h => ?_
    rw [bin_add, wrap_id (by omega) (by omega)]
    refine hnext _ _ ⟨i + 1, u', L' ++ [(L[i].1, v')], by omega, rfl, ?_, ?_⟩ (by simp only; omega)
    · have : (evs L).take (i + 1) = (evs L).take i ++ [L[i].1] := by
        rw [List.take_succ_eq_append_getElem (by simpa [evs] using hil)]
        simp [evs]
      rw [this, ← he]
      simp [evs]
    · simpa [raws] using h
  · have : i = L.length := by omega
    subst this
    rw [List.take_of_length_le (by simp [evs])] at he
    exact k _ _ _ ⟨L', he, rfl⟩ h
end

/-! ### The store -/
structure St where
  part : Int
  first : Int
  horizon : Int
  events : List Ev
def St.next (s : St) : Int := s.first + s.events.length
def rightE (s : St) (e : Ev) : Bool := decide (e.part = s.part) && (decide (e.source.size ≤ 200) && (decide (0 ≤ e.schema) && (decide (0 ≤ e.time) && decide (e.time ≤ 1099511627776))))
def addS (s : St) (e : Ev) : Int × St := if rightE s e = true then if rightRow e.row = true then if e.pos = s.next then if s.events.length < 2000 then (0, { s with events := s.events ++ [e] }) else (6, s) else (25, s) else (16, s) else (1, s)
def placeS (s : St) (pos : Int) : Nat := (min (max pos s.first) s.next - s.first).toNat
def hor (h : Int) (l : List Ev) : Int := l.foldl (fun h e => max h (e.time + 1)) h
def cutS (s : St) (n : Nat) : St := ⟨s.part, s.first + n, hor s.horizon (s.events.take n), s.events.drop n⟩
def trimN (s : St) (t : Int) : Nat := if idxP (fun e => decide (t ≤ e.time)) s.events < 0 then s.events.length else (idxP (fun e => decide (t ≤ e.time)) s.events).toNat
def sliceS (s : St) (fr most : Int) : List Ev := (s.events.drop (placeS s fr)).take (max 0 (min most (s.events.length - placeS s fr))).toNat
def fromS (s : St) (t : Int) : List Ev := s.events.filter fun e => decide (t ≤ e.time)

def okS (s : St) : Prop := 0 ≤ s.first ∧ s.first ≤ 2305843009213693952 ∧ s.events.length ≤ 2000 ∧ ∀ e ∈ s.events, e.row.length ≤ 1000000 ∧ -1 ≤ e.time ∧ e.time ≤ 1099511627776
def stCell (b : Nat) (s : St) (v : Value) : Dat := cellD b T_retain_Store #[.int .i64 s.part, .int .i64 s.first, .int .i64 s.horizon, v]
def storeD (b : Nat) (s : St) : Dat := Dat.ex fun p : SV × EvL => (Dat.pure (evs p.2 = s.events ∧ okS s)).and ((stCell b s p.1.1).star ((rowD T_api_Event p.1.1 (raws p.2)).star (rowsR p.2)))
/-- A store that can be read. -/
def storeR (b : Nat) (s : St) (B : Base) : Prop := ∃ (v : SV) (L : EvL), evs L = s.events ∧ okS s ∧ stCell b s v.1 B ∧ evsR v.1 L B

theorem storeD.read {b : Nat} {s : St} {B : Base} (h : storeD b s B) : storeR b s B := by
  obtain ⟨⟨v, L⟩, ⟨h1, h2⟩, h3⟩ := h
  exact ⟨v, L, h1, h2, Dat.star.left h3, rowD.read (Dat.star.left (Dat.star.right h3)), Dat.star.right (Dat.star.right h3)⟩
theorem storeR.mono {b : Nat} {s : St} {B B' : Base} (h : storeR b s B) (hb : ∀ {d : Dat}, d B → d B') : storeR b s B' := by
  obtain ⟨v, L, h1, h2, h3, h4, h5⟩ := h
  exact ⟨v, L, h1, h2, hb h3, hb h4, hb h5⟩
theorem store_open {B : Base} {w : World} {b : Nat} {s : St} (h : Rel B w [storeD b s]) : ∃ (v : SV) (L : EvL), evs L = s.events ∧ okS s ∧ Rel B w [stCell b s v.1, rowD T_api_Event v.1 (raws L), rowsR L] := by
  obtain ⟨⟨v, L⟩, h⟩ := h.ex (i := 0) rfl
  obtain ⟨⟨h1, h2⟩, h⟩ := h.pureAnd (i := 0) rfl
  have h := h.split (i := 0) rfl
  have h := Rel.split (i := 1) h rfl
  exact ⟨v, L, h1, h2, h⟩
theorem store_close {B : Base} {w : World} {b : Nat} {s : St} {v : Value} {L : EvL} {τ : List Dat} (h : Rel B w (stCell b s v :: rowD T_api_Event v (raws L) :: rowsR L :: τ)) (he : evs L = s.events) (ho : okS s) : Rel B w (storeD b s :: τ) := by
  have hv : v.oneCell' = true := h.oneCell (i := 1) rfl
  have h := h.join 1 2 rfl rfl (by omega)
  have h := h.join 0 1 rfl rfl (by omega)
  have h := h.imp (i := 0) (e := storeD b s) rfl fun B hB => ⟨⟨⟨v, hv⟩, L⟩, ⟨he, ho⟩, hB⟩
  exact Rel.mid (σ := [storeD b s]) (ρ := [emp, emp]) h

section
variable {B : Base} {b : Nat} {s : St}
theorem part_g (hs : storeR b s B) : Gives Tryz.prog B (sCall F_retain_Store_Part #[ptr b]) (.int .i64 s.part) := by
  refine Gives.intro fun B' w K base h k => ?_
  obtain ⟨v, L, he, ho, hc, -⟩ := hs.mono base
  refine retain_Store_Part.up (retain_Store_Part.call ?_)
  unfold retain_Store_Part.pt
  simp -zeta only [nil_ptr, field_addr f_retain_Store_0, Nat.zero_add, cellD.ld (h.hereB hc) sc_int (o := 0) rfl]
  exact k _ _ h
theorem first_g (hs : storeR b s B) : Gives Tryz.prog B (sCall F_retain_Store_First #[ptr b]) (.int .i64 s.first) := by
  refine Gives.intro fun B' w K base h k => ?_
  obtain ⟨v, L, he, ho, hc, -⟩ := hs.mono base
  refine retain_Store_First.up (retain_Store_First.call ?_)
  unfold retain_Store_First.pt
  simp -zeta only [nil_ptr, field_addr f_retain_Store_1, Nat.zero_add, cellD.ld (h.hereB hc) sc_int (o := 1) rfl]
  exact k _ _ h
theorem horizon_g (hs : storeR b s B) : Gives Tryz.prog B (sCall F_retain_Store_Horizon #[ptr b]) (.int .i64 s.horizon) := by
  refine Gives.intro fun B' w K base h k => ?_
  obtain ⟨v, L, he, ho, hc, -⟩ := hs.mono base
  refine retain_Store_Horizon.up (retain_Store_Horizon.call ?_)
  unfold retain_Store_Horizon.pt
  simp -zeta only [nil_ptr, field_addr f_retain_Store_2, Nat.zero_add, cellD.ld (h.hereB hc) sc_int (o := 2) rfl]
  exact k _ _ h
theorem raws_len {L : EvL} {l : List Ev} (h : evs L = l) : (raws L).length = l.length := by subst h; simp [raws, evs]
theorem next_g (hs : storeR b s B) : Gives Tryz.prog B (sCall F_retain_Store_Next #[ptr b]) (.int .i64 s.next) := by
  refine Gives.intro fun B' w K base h k => ?_
  obtain ⟨v, L, he, ho, hc, hr, -⟩ := hs.mono base
  obtain ⟨o1, o2, o3, -⟩ := ho
  refine retain_Store_Next.up (retain_Store_Next.call ?_)
  unfold retain_Store_Next.pt
  simp -zeta only [nil_ptr, field_addr f_retain_Store_1, field_addr f_retain_Store_3, Nat.zero_add, cellD.ld (h.tick.hereB hc) sc_int (o := 1) rfl, cellD.ld (h.tick.hereB hc) sc_s_api_Event (o := 3) rfl, rowR.len hr sl_s_api_Event, bin_add, raws_len he]
  rw [wrap_id (by omega) (by omega)]
  exact k _ _ h.tick
theorem place_g (hs : storeR b s B) (pos : Int) : Gives Tryz.prog B (sCall F_retain_Store_place #[ptr b, .int .i64 pos]) (.int .i64 (placeS s pos)) := by
  refine Gives.intro fun B' w K base h k => ?_
  have hs' := hs.mono base
  obtain ⟨v, L, he, ho, hc, hr, -⟩ := hs'
  obtain ⟨o1, o2, o3, -⟩ := ho
  refine retain_Store_place.up (retain_Store_place.call ?_)
  unfold retain_Store_place.pt
  simp -zeta only [nil_ptr, field_addr f_retain_Store_1, Nat.zero_add, cellD.ld (h.tick.hereB hc) sc_int (o := 1) rfl, blt_max]
  refine h.tick.ask (fun B2 own base2 => next_g ((hs.mono base).mono base2)) fun w1 h => ⟨cellD.is (h.hereB hc) sc_int (o := 1) rfl, cellD.is (h.hereB hc) sc_int (o := 1) rfl, ?_⟩
  simp -zeta only [blt_min, bin_sub]
  unfold St.next
  rw [wrap_id (by omega) (by omega)]
  have : min (max pos s.first) (s.first + s.events.length) - s.first = (placeS s pos : Int) := by unfold placeS St.next; omega
  rw [this]
  exact k _ _ h
theorem right_g (hs : storeR b s B) (e : Ev) (v : SV) : Gives Tryz.prog B (sCall F_retain_Store_right #[ptr b, (e.raw v).v]) (.bool (rightE s e)) := by
  refine Gives.intro fun B' w K base h k => ?_
  obtain ⟨v', L, he, ho, hc, -⟩ := hs.mono base
  refine retain_Store_right.up (retain_Store_right.call ?_)
  unfold retain_Store_right.pt
  refine h.box fun b1 w1 h => ?_
  have e1 : ((e.raw v).v : Value).cells = (e.raw v).cs.toArray := Enc.cells_val (e.raw v)
  rw [e1] at h
  have h := h.tick
  have hc := h.hereB hc
  simp -zeta only [nil_ptr, field_addr f_api_Event_0, field_addr f_api_Event_2, field_addr f_api_Event_3, field_addr f_api_Event_4, field_addr f_retain_Store_0, Nat.zero_add, cellD.ld hc sc_int (o := 0) rfl, h.ld 0 rfl sc_int (o := 0) rfl, h.ld 0 rfl sc_string (o := 2) rfl, h.ld 0 rfl sc_int (o := 3) rfl, h.ld 0 rfl sc_int (o := 4) rfl, len_string U_string, bin_add, bin_sub, bin_mul, bin_lss, bin_leq, bin_gtr, bin_geq, bin_eql, bin_neq, bin_and, bin_or, un_not, blt_min, blt_max, ifB_not, ifB_dec, ifB_true, ifB_false, ext_2_0, ext_2_1, ext_3_0, ext_3_1, ext_3_2, decide_true, decide_false, Bool.not_true, Bool.not_false, nil_ptr]
  have kk := fun b (hb : rightE s e = b) => (show K (.bool b) (tick w1) by rw [← hb]; exact k _ _ h)
  have hu : rightE s e = (decide (e.part = s.part) && (decide (e.source.size ≤ 200) && (decide (0 ≤ e.schema) && (decide (0 ≤ e.time) && decide (e.time ≤ 1099511627776))))) := rfl
  refine ⟨fun h1 => ⟨fun h2 => ⟨fun h3 => ⟨fun h4 => ?_, fun h4 => ?_⟩, fun h3 => ?_⟩, fun h2 => ?_⟩, fun h1 => ?_⟩
  · refine kk _ ?_
    have h1 : e.part = s.part := h1
    have h2 : (e.source.size : Int) ≤ 200 := h2
    rw [hu, decide_eq_true h1, decide_eq_true (show e.source.size ≤ 200 by omega), decide_eq_true (show 0 ≤ e.schema from h3), decide_eq_true (show 0 ≤ e.time from h4)]
    simp only [Bool.true_and]
    rfl
  · refine kk _ ?_
    rw [hu, decide_eq_false (p := 0 ≤ e.time) h4]; simp
  · refine kk _ ?_
    rw [hu, decide_eq_false (p := 0 ≤ e.schema) h3]; simp
  · refine kk _ ?_
    have h2 : ¬ (e.source.size : Int) ≤ 200 := h2
    rw [hu, decide_eq_false (p := e.source.size ≤ 200) (by omega)]; simp
  · refine kk _ ?_
    rw [hu, decide_eq_false (p := e.part = s.part) h1]; simp
end
end Go.Proofs.YtmllhipiahlihaaGreatDoor
