/-
  The reference's store. No condition.
-/
import Derived.Test.YtmllhipiahlihaaGreatDoorRetainD
import Derived.Test.YtmllhipiahlihaaGreatDoorRetainG
import Derived.Test.YtmllhipiahlihaaGreatDoorRetainF
namespace Go.Proofs.YtmllhipiahlihaaGreatDoor
open Go.RowKit
set_option maxRecDepth 100000

/-- The reference's store: all events that were ever added, from base on. -/
structure FSt where
  part : Int
  base : Int
  first : Int
  horizon : Int
  L : EvL
def FSt.k (f : FSt) : Nat := (f.first - f.base).toNat
def FSt.st (f : FSt) : St := ⟨f.part, f.first, hor f.horizon ((evs f.L).take f.k), (evs f.L).drop f.k⟩
def FSt.next (f : FSt) : Int := f.base + f.L.length
structure FSt.ok (f : FSt) : Prop where
  base : 0 ≤ f.base ∧ f.base ≤ 1152921504606846976
  first : f.base ≤ f.first ∧ f.first ≤ f.next
  len : f.L.length ≤ 1000000
  times : ∀ e ∈ evs f.L, 0 ≤ e.time ∧ e.time ≤ 1099511627776
theorem FSt.k_le {f : FSt} (h : f.ok) : f.k ≤ f.L.length ∧ (f.k : Int) = f.first - f.base := by
  have := h.first
  unfold FSt.next at this
  unfold FSt.k
  omega
theorem FSt.st_next {f : FSt} (h : f.ok) : f.st.next = f.next := by
  obtain ⟨h1, h2⟩ := FSt.k_le h
  show f.first + (((evs f.L).drop f.k).length : Int) = f.next
  have : (evs f.L).length = f.L.length := by simp [evs]
  unfold FSt.next
  rw [List.length_drop, this]
  omega
def fCell (b : Nat) (f : FSt) (v : Value) : Dat := cellD b T_errataref12_Store #[.int .i64 f.part, v, .int .i64 f.base, .int .i64 f.first, .int .i64 f.horizon]
def fstD (b : Nat) (f : FSt) : Dat := Dat.ex fun v : SV => (fCell b f v.1).star (rowD T_api_Event v.1 (raws f.L))
def fstR (b : Nat) (f : FSt) (B : Base) : Prop := ∃ v : SV, fCell b f v.1 B ∧ rowR v.1 (raws f.L) B
theorem fstD.read {b : Nat} {f : FSt} {B : Base} (h : fstD b f B) : fstR b f B := by
  obtain ⟨v, h⟩ := h
  exact ⟨v, Dat.star.left h, rowD.read (Dat.star.right h)⟩
theorem fst_open {B : Base} {w : World} {b : Nat} {f : FSt} (h : Rel B w [fstD b f]) : ∃ v : SV, Rel B w [fCell b f v.1, rowD T_api_Event v.1 (raws f.L)] := by
  obtain ⟨v, h⟩ := h.ex (i := 0) rfl
  exact ⟨v, Rel.split (i := 0) h rfl⟩
theorem fst_close {B : Base} {w : World} {b : Nat} {f : FSt} {v : Value} {τ : List Dat} (h : Rel B w (fCell b f v :: rowD T_api_Event v (raws f.L) :: τ)) : Rel B w (fstD b f :: τ) := by
  have hv : v.oneCell' = true := h.oneCell (i := 1) rfl
  have h := h.join 0 1 rfl rfl (by omega)
  have h := h.imp (i := 0) (e := fstD b f) rfl fun B hB => ⟨⟨v, hv⟩, hB⟩
  exact Rel.mid (σ := [fstD b f]) (ρ := [emp]) h
theorem raws_length (L : EvL) : (raws L).length = L.length := by simp [raws]
theorem evs_length (L : EvL) : (evs L).length = L.length := by simp [evs]
theorem raws_get {L : EvL} {i : Nat} (h : i < L.length) : (raws L)[i]'(by rw [raws_length]; exact h) = L[i].1.raw L[i].2 := by simp [raws]
theorem evs_get {L : EvL} {i : Nat} (h : i < L.length) : (evs L)[i]'(by rw [evs_length]; exact h) = L[i].1 := by simp [evs]
theorem raws_drop (L : EvL) (n : Nat) : (raws L).drop n = raws (L.drop n) := by simp [raws]
section
variable {B : Base} {w : World} {σ : List Dat} {b : Nat} {f : FSt}
theorem UpF : Tryz.prog.underlying T_p_errataref12_Store = some (.pointer (Tryz.prog.pointee T_p_errataref12_Store)) := by kernel_rfl
theorem fNew_m (part : Int) : Makes Tryz.prog B (sCall F_errataref12_New #[.int .i64 part]) fun u τ => ∃ b, u = ptr b ∧ τ = [fstD b ⟨part, 0, 0, 0, []⟩] := by
  refine Makes.intro fun B' w K base h k => ?_
  refine errataref12_New.up (errataref12_New.call ?_)
  unfold errataref12_New.pt
  rw [bd_errataref12_Store_0]
  refine h.box fun b w1 h => ?_
  have h := h.addNil D_api_Event T_api_Event
  have h : Rel B' w1 [fCell b ⟨part, 0, 0, 0, []⟩ (.slice none 0 0), rowD T_api_Event (.slice none 0 0) (raws [])] := h
  exact k _ _ _ ⟨b, rfl, rfl⟩ (fst_close h)
theorem fNext_g (hs : fstR b f B) (hk : f.ok) : Gives Tryz.prog B (sCall F_errataref12_Store_Next #[ptr b]) (.int .i64 f.next) := by
  refine Gives.intro fun B' w K base h k => ?_
  obtain ⟨v, hc, r⟩ := hs
  replace hc := base hc
  replace r := base r
  refine errataref12_Store_Next.up (errataref12_Store_Next.call ?_)
  unfold errataref12_Store_Next.pt
  have h := h.tick
  simp -zeta only [nil_ptr, field_addr f_errataref12_Store_1, field_addr f_errataref12_Store_2, Nat.zero_add, cellD.ld (h.hereB hc) sc_int (o := 2) (v := .int .i64 f.base) rfl, cellD.ld (h.hereB hc) sc_s_api_Event (o := 1) (v := v.1) rfl, rowR.len r sl_s_api_Event, raws_length, bin_add]
  have h1 := hk.base
  have h2 := hk.len
  rw [wrap_id (by omega) (by omega)]
  exact k _ _ h
theorem fLeast_g (hs : fstR b f B) (hk : f.ok) : Gives Tryz.prog B (sCall F_errataref12_Store_Least #[ptr b]) (.int .i64 f.st.horizon) := by
  refine Gives.intro fun B' w K base h k => ?_
  obtain ⟨v, hc, r⟩ := hs
  replace hc := base hc
  replace r := base r
  refine errataref12_Store_Least.up (errataref12_Store_Least.call ?_)
  unfold errataref12_Store_Least.pt
  obtain ⟨k1, k2⟩ := FSt.k_le hk
  have hb := hk.base
  have hf := hk.first
  have hl := hk.len
  unfold FSt.next at hf
  simp -zeta only [nil_ptr, field_addr f_errataref12_Store_1, field_addr f_errataref12_Store_2, field_addr f_errataref12_Store_3, field_addr f_errataref12_Store_4, Nat.zero_add]
  rw [cellD.ld (h.hereB hc) sc_int (o := 4) (v := .int .i64 f.horizon) rfl]
  refine LOOP_intro (fun x w' => ∃ i : Nat, i ≤ f.k ∧ x = (.int .i64 (hor f.horizon ((evs f.L).take i)), .int .i64 i, ()) ∧ Rel B' w' []) (fun x _ => f.k - (match x.2.1 with | .int _ n => n.toNat | _ => 0))
    ⟨0, Nat.zero_le _, rfl, h⟩ ?_
  clear h
  rintro x w1 ⟨i, hi, rfl, h⟩ next hnext
  have h := h.tick
  have hsub : IntKind.i64.wrap (f.first - f.base) = f.first - f.base := wrap_id (by omega) (by omega)
  simp -zeta only [cellD.ld (h.hereB hc) sc_int (o := 2) (v := .int .i64 f.base) rfl, cellD.ld (h.hereB hc) sc_int (o := 3) (v := .int .i64 f.first) rfl, cellD.ld (h.hereB hc) sc_s_api_Event (o := 1) (v := v.1) rfl, bin_sub, hsub, bin_lss]
  rw [ifB_dec]
  refine ⟨fun hlt => ?_, fun hge => ?_⟩
  · have hiL : i < f.L.length := by omega
    obtain ⟨g, o, hx, hcl⟩ := rowR.idx r sl_s_api_Event (P := Tryz.prog) (i := i) (by rw [raws_length]; exact hiL)
    rw [raws_get hiL] at hcl
    have hcl : cellsR g o (f.L[i].1.raw f.L[i].2).cs B' := hcl
    have htm := hk.times f.L[i].1 (by rw [← evs_get hiL]; exact List.getElem_mem _)
    rw [hx]
    simp -zeta only [field_addr f_api_Event_4, cellsR.ld (h.hereB hcl) sc_int (j := 4) (v := .int .i64 f.L[i].1.time) rfl, bin_add, blt_max]
    rw [wrap_id (n := (i : Int) + 1) (by omega) (by omega)]
    have hw : IntKind.i64.wrap (f.L[i].1.time + 1) = f.L[i].1.time + 1 := wrap_id (by omega) (by omega)
    rw [hw]
    refine hnext _ _ ⟨i + 1, by omega, ?_, h⟩ (by simp only; omega)
    have : (evs f.L).take (i + 1) = (evs f.L).take i ++ [f.L[i].1] := by
      rw [List.take_succ_eq_append_getElem (by rw [evs_length]; exact hiL), evs_get hiL]
    rw [this]
    unfold hor
    rw [List.foldl_append]
    rfl
  · have : i = f.k := by omega
    subst this
    exact k _ _ h
theorem fKept_m (hs : fstR b f B) (hk : f.ok) : Makes Tryz.prog B (sCall F_errataref12_Store_Kept #[ptr b]) fun u τ => τ = [rowD T_api_Event u (raws (f.L.drop f.k))] := by
  refine Makes.intro fun B' w K base h k => ?_
  obtain ⟨v, hc, r⟩ := hs
  replace hc := base hc
  replace r := base r
  refine errataref12_Store_Kept.up (errataref12_Store_Kept.call ?_)
  unfold errataref12_Store_Kept.pt
  obtain ⟨k1, k2⟩ := FSt.k_le hk
  have hb := hk.base
  have hf := hk.first
  have hl := hk.len
  unfold FSt.next at hf
  have h := h.tick
  have hsub : IntKind.i64.wrap (f.first - f.base) = (f.k : Int) := by rw [wrap_id (by omega) (by omega)]; omega
  simp -zeta only [nil_ptr, field_addr f_errataref12_Store_1, field_addr f_errataref12_Store_2, field_addr f_errataref12_Store_3, Nat.zero_add]
  simp -zeta only [cellD.ld (h.hereB hc) sc_int (o := 2) (v := .int .i64 f.base) rfl, cellD.ld (h.hereB hc) sc_int (o := 3) (v := .int .i64 f.first) rfl, cellD.ld (h.hereB hc) sc_s_api_Event (o := 1) (v := v.1) rfl, bin_sub, hsub]
  rw [rowR.cutE (α := D_api_Event) r sl_s_api_Event (lo := f.k) (hi := (raws f.L).length) Bnd.some Bnd.none (by rw [raws_length]; exact k1) (Nat.le_refl _)]
  refine h.build0 (α := D_api_Event) sl_s_api_Event fun t3 w1 h _ => ?_
  refine ⟨cellD.is (h.hereB hc) sc_int (o := 2) rfl, cellD.is (h.hereB hc) sc_int (o := 3) rfl, cellD.is (h.hereB hc) sc_s_api_Event (o := 1) rfl, ?_⟩
  have hcut := rowR.cutR (α := D_api_Event) r (lo := f.k) (hi := (raws f.L).length) (by rw [raws_length]; exact k1) (Nat.le_refl _)
  rw [List.take_length, raws_drop] at hcut
  have hdl : (raws (f.L.drop f.k)).length ≤ 1000000 := by rw [raws_length, List.length_drop]; omega
  refine h.append (α := D_api_Event) 0 rfl sl_s_api_Event (l2 := raws (f.L.drop f.k)) (Rd.base hcut) (by simp only [List.length_nil]; omega) (by simp only [List.length_nil]; omega) fun t18 w2 h => ?_
  exact k _ _ _ rfl h
def FSt.add (f : FSt) (e : Ev) (v : SV) : FSt := if (addS f.st e).1 = 0 then { f with L := f.L ++ [(e, v)] } else f
theorem FSt.add_st {f : FSt} (h : f.ok) (e : Ev) (v : SV) : (f.add e v).st = (addS f.st e).2 := by
  unfold FSt.add
  rcases addS_cases f.st e with ⟨e1, e2, _⟩ | ⟨e1, e2⟩
  · rw [if_pos e1, e2]
    have hk := (FSt.k_le h).1
    have el : evs (f.L ++ [(e, v)]) = evs f.L ++ [e] := by simp [evs]
    show (⟨f.part, f.first, hor f.horizon ((evs (f.L ++ [(e, v)])).take f.k), (evs (f.L ++ [(e, v)])).drop f.k⟩ : St) = ⟨f.part, f.first, hor f.horizon ((evs f.L).take f.k), (evs f.L).drop f.k ++ [e]⟩
    rw [el, List.take_append_of_le_length (by rw [evs_length]; exact hk), List.drop_append_of_le_length (by rw [evs_length]; exact hk)]
  · rw [if_neg e1, e2]
theorem FSt.add_ok {f : FSt} (h : f.ok) (e : Ev) (v : SV) (hl : f.L.length ≤ 999999) : (f.add e v).ok ∧ (f.add e v).L.length ≤ f.L.length + 1 := by
  unfold FSt.add
  rcases addS_cases f.st e with ⟨e1, e2, e3, _⟩ | ⟨e1, e2⟩
  · rw [if_pos e1]
    have h1 := h.first
    refine ⟨⟨h.base, ⟨h1.1, ?_⟩, by simp only [List.length_append, List.length_singleton]; omega, fun x hx => ?_⟩, by simp⟩
    · show f.first ≤ f.base + ((f.L ++ [(e, v)]).length : Int)
      unfold FSt.next at h1
      rw [List.length_append, List.length_singleton]; omega
    · have hx : x ∈ evs f.L ++ [e] := by
        have : evs (f.L ++ [(e, v)]) = evs f.L ++ [e] := by simp [evs]
        rw [← this]; exact hx
      rcases List.mem_append.1 hx with hx | hx
      · exact h.times x hx
      · rw [List.mem_singleton.1 hx]
        unfold rightE at e3
        simp only [Bool.and_eq_true, decide_eq_true_eq] at e3
        exact ⟨e3.2.2.2.1, e3.2.2.2.2⟩
  · rw [if_neg e1]; exact ⟨h, Nat.le_succ _⟩
theorem fAdd_d (e : Ev) (v : SV) (r : rowR v.1 e.row B) (hel : e.row.length ≤ 9223372036854775807) (hk : f.ok) (hl : f.L.length ≤ 999999) :
    Does Tryz.prog B (fstD b f) (sCall F_errataref12_Store_Add #[ptr b, (e.raw v).v]) fun u e' τ => u = .int .i64 (addS f.st e).1 ∧ e' = fstD b (f.add e v) ∧ τ = [] := by
  refine Does.intro fun B' w K base h k => ?_
  replace r := base r
  obtain ⟨v0, h⟩ := fst_open h
  refine errataref12_Store_Add.up (errataref12_Store_Add.call ?_)
  unfold errataref12_Store_Add.pt
  obtain ⟨k1, k2⟩ := FSt.k_le hk
  have hb := hk.base
  have hf := hk.first
  have hstl : (f.st.events.length : Int) = f.next - f.first := by
    show (((evs f.L).drop f.k).length : Int) = _
    rw [List.length_drop, evs_length]
    unfold FSt.next at hf ⊢
    omega
  refine h.box fun b1 w1 h => ?_
  have e1 : ((e.raw v).v : Value).cells = (e.raw v).cs.toArray := Enc.cells_val (e.raw v)
  rw [e1] at h
  have h := h.tick
  replace h : Rel B' (tick w1) [fCell b f v0.1, rowD T_api_Event v0.1 (raws f.L), cellD b1 T_api_Event (e.raw v).cs.toArray] := h
  have same : ∀ w' c τ, (addS f.st e) = (c, f.st) → c ≠ 0 → Rel B' w' ([fCell b f v0.1, rowD T_api_Event v0.1 (raws f.L)] ++ τ) → K (.int .i64 c) w' := fun w' c τ hc h0 h => by
    rw [hc] at k
    have : f.add e v = f := by unfold FSt.add; rw [hc, if_neg h0]
    rw [this] at k
    exact k _ _ _ _ ⟨rfl, rfl, rfl⟩ ((fst_close h).take 1)
  have nR : ∀ c : Int, rightE f.st e = false → c = 1 → addS f.st e = (c, f.st) := fun c hr hc => by unfold addS; rw [if_neg (by rw [hr]; decide), hc]
  simp -zeta only [nil_ptr, field_addr f_errataref12_Store_0, field_addr f_errataref12_Store_1, field_addr f_errataref12_Store_2, field_addr f_errataref12_Store_3, field_addr f_api_Event_0, field_addr f_api_Event_1, field_addr f_api_Event_2, field_addr f_api_Event_3, field_addr f_api_Event_4, field_addr f_api_Event_5, Nat.zero_add, Nat.add_zero]
  simp -zeta only [h.ld 2 rfl sc_int (o := 0) (v := .int .i64 e.part) rfl, h.ld 0 rfl sc_int (o := 0) (v := .int .i64 f.part) rfl, h.ld 2 rfl sc_string (o := 2) (v := .string e.source) rfl, h.ld 2 rfl sc_int (o := 3) (v := .int .i64 e.schema) rfl, h.ld 2 rfl sc_int (o := 4) (v := .int .i64 e.time) rfl, h.ld 2 rfl sc_s_api_Value (o := 5) (v := v.1) rfl, len_string U_string]
  have hst : f.st.part = f.part := rfl
  rw [bin_neq, ifB_not, ifB_dec]
  refine ⟨fun c1 => ?_, fun c => same _ 1 _ (nR 1 (by unfold rightE; rw [decide_eq_false (by rw [hst]; exact c)]; rfl) rfl) (by decide) h⟩
  rw [bin_gtr, ifB_dec]
  refine ⟨fun c => same _ 1 _ (nR 1 (by unfold rightE; rw [decide_eq_false (show ¬ e.source.size ≤ 200 by omega)]; simp) rfl) (by decide) h, fun c2 => ?_⟩
  rw [bin_lss, ifB_dec]
  refine ⟨fun c => same _ 1 _ (nR 1 (by unfold rightE; rw [decide_eq_false (show ¬ 0 ≤ e.schema by omega)]; simp) rfl) (by decide) h, fun c3 => ?_⟩
  rw [bin_lss, ifB_dec]
  refine ⟨fun c => same _ 1 _ (nR 1 (by unfold rightE; rw [decide_eq_false (show ¬ 0 ≤ e.time by omega)]; simp) rfl) (by decide) h, fun c4 => ?_⟩
  rw [bin_gtr, ifB_dec]
  refine ⟨fun c => same _ 1 _ (nR 1 (by unfold rightE; rw [decide_eq_false (show ¬ e.time ≤ 1099511627776 by omega)]; simp) rfl) (by decide) h, fun c5 => ?_⟩
  have hr : rightE f.st e = true := by
    unfold rightE
    rw [decide_eq_true (by rw [hst]; exact c1), decide_eq_true (show e.source.size ≤ 200 by omega), decide_eq_true (show 0 ≤ e.schema by omega), decide_eq_true (show 0 ≤ e.time by omega), decide_eq_true (show e.time ≤ 1099511627776 by omega)]; rfl
  refine h.ask (fun B2 own base2 => fRightRow_g (base2 r) hel) fun w2 h => ?_
  rw [rightRow_eq, un_not, ifB_not, ifB_bool]
  refine ⟨fun hrr => ?_, fun c => same _ 16 _ (by unfold addS; rw [if_pos hr, if_neg (by rw [c]; decide)]) (by decide) h⟩
  have h := h.tick
  rw [h.ld 2 rfl sc_int (o := 1) (v := .int .i64 e.pos) rfl]
  refine h.ask (fun B2 own base2 => fNext_g ⟨v0, own (i := 0) rfl, rowD.read (own (i := 1) rfl)⟩ hk) fun w3 h => ⟨h.is 2 rfl sc_int (o := 1) rfl, ?_⟩
  rw [bin_neq, ifB_not, ifB_dec]
  have hnx := FSt.st_next hk
  refine ⟨fun hp => ?_, fun c => same _ 25 _ (by unfold addS; rw [if_pos hr, if_pos hrr, if_neg (by rw [hnx]; exact c)]) (by decide) h⟩
  have h := h.tick
  rw [h.ld 0 rfl sc_int (o := 3) (v := .int .i64 f.first) rfl]
  refine h.ask (fun B2 own base2 => fNext_g ⟨v0, own (i := 0) rfl, rowD.read (own (i := 1) rfl)⟩ hk) fun w4 h => ⟨h.is 0 rfl sc_int (o := 3) rfl, ?_⟩
  unfold FSt.next at hf
  have hsub : IntKind.i64.wrap (f.next - f.first) = (f.st.events.length : Int) := by rw [wrap_id (by unfold FSt.next; omega) (by unfold FSt.next; omega)]; exact hstl.symm
  rw [bin_sub, hsub, bin_geq, ifB_dec]
  refine ⟨fun c => same _ 6 _ (by unfold addS; rw [if_pos hr, if_pos hrr, if_pos (by rw [hnx]; exact hp), if_neg (by omega)]) (by decide) h, fun c6 => ?_⟩
  have hok : addS f.st e = (0, { f.st with events := f.st.events ++ [e] }) := by unfold addS; rw [if_pos hr, if_pos hrr, if_pos (by rw [hnx]; exact hp), if_pos (by omega)]
  rw [hok] at k
  have hadd : f.add e v = { f with L := f.L ++ [(e, v)] } := by unfold FSt.add; rw [hok, if_pos rfl]
  rw [hadd] at k
  have h := h.tick
  rw [h.ld 0 rfl sc_s_api_Event (o := 1) (v := v0.1) rfl, h.ldAg 2 rfl ag_api_Event rfl]
  have hrl := raws_length f.L
  refine h.build1 (α := D_api_Event) (e.raw v) sl_s_api_Event (by decide) (fun t56 w5 h => ?_) rfl
  refine ⟨h.is 0 rfl sc_s_api_Event (o := 1) rfl, ?_⟩
  refine h.append (α := D_api_Event) 1 rfl sl_s_api_Event (l2 := [e.raw v]) (Rd.at 3 (E := T_api_Event) rfl (by decide)) (by rw [List.length_singleton]; omega) (by rw [List.length_singleton]; omega) fun v' w6 h => ?_
  refine h.st 0 rfl sc_s_api_Event (show 1 < 5 by omega) (h.oneCell (α := D_api_Event) (i := 1) rfl) fun w7 h => ?_
  have er : raws (f.L ++ [(e, v)]) = raws f.L ++ [e.raw v] := by simp [raws]
  have h : Rel B' w7 [fCell b { f with L := f.L ++ [(e, v)] } v', rowD T_api_Event v' (raws (f.L ++ [(e, v)]))] := by rw [er]; exact h.take 2
  exact k _ _ _ _ ⟨rfl, rfl, rfl⟩ (fst_close (f := { f with L := f.L ++ [(e, v)] }) h)
def FSt.drop (f : FSt) (pos : Int) : FSt := { f with first := max f.first (min pos f.next) }
theorem FSt.drop_ok {f : FSt} (h : f.ok) (pos : Int) : (f.drop pos).ok := by
  have h1 := h.first
  refine ⟨h.base, ⟨by show f.base ≤ max f.first (min pos f.next); omega, by show max f.first (min pos f.next) ≤ f.next; omega⟩, h.len, h.times⟩
theorem FSt.drop_n {f : FSt} (h : f.ok) (pos : Int) : (f.drop pos).first = f.first + (placeS f.st pos : Int) := by
  have h1 := h.first
  have h2 := FSt.st_next h
  unfold placeS
  rw [h2]
  show max f.first (min pos f.next) = f.first + ((min (max pos f.first) f.next - f.first).toNat : Int)
  omega
theorem FSt.drop_st {f : FSt} (h : f.ok) (pos : Int) : (f.drop pos).st = cutS f.st (placeS f.st pos) := by
  have h1 := FSt.drop_n h pos
  obtain ⟨k1, k2⟩ := FSt.k_le h
  have hk : (f.drop pos).k = f.k + placeS f.st pos := by
    have := (FSt.k_le (FSt.drop_ok h pos)).2
    have hb : (f.drop pos).base = f.base := rfl
    rw [h1, hb] at this
    omega
  show (⟨f.part, (f.drop pos).first, hor f.horizon ((evs f.L).take (f.drop pos).k), (evs f.L).drop (f.drop pos).k⟩ : St) = ⟨f.part, f.first + _, hor (hor f.horizon ((evs f.L).take f.k)) (((evs f.L).drop f.k).take _), ((evs f.L).drop f.k).drop _⟩
  rw [h1, hk, List.take_add, List.drop_drop]
  congr 1
  unfold hor
  rw [List.foldl_append]
theorem fDrop_d (pos : Int) (hk : f.ok) :
    Does Tryz.prog B (fstD b f) (sCall F_errataref12_Store_Drop #[ptr b, .int .i64 pos]) fun u e' τ => u = .int .i64 (placeS f.st pos) ∧ e' = fstD b (f.drop pos) ∧ τ = [] := by
  refine Does.intro fun B' w K base h k => ?_
  obtain ⟨v0, h⟩ := fst_open h
  refine errataref12_Store_Drop.up (errataref12_Store_Drop.call ?_)
  unfold errataref12_Store_Drop.pt
  have hn := FSt.drop_n hk pos
  have hb := hk.base
  have hf := hk.first
  have hl := hk.len
  have hpl := placeS_le f.st pos
  have hsl : f.st.events.length ≤ f.L.length := by show ((evs f.L).drop f.k).length ≤ _; rw [List.length_drop, evs_length]; omega
  simp -zeta only [nil_ptr, field_addr f_errataref12_Store_3, Nat.zero_add]
  rw [h.ld 0 rfl sc_int (o := 3) (v := .int .i64 f.first) rfl]
  have h := h.tick
  rw [h.ld 0 rfl sc_int (o := 3) (v := .int .i64 f.first) rfl]
  refine h.ask (fun B2 own base2 => fNext_g ⟨v0, own (i := 0) rfl, rowD.read (own (i := 1) rfl)⟩ hk) fun w1 h => ⟨h.is 0 rfl sc_int (o := 3) rfl, ?_⟩
  simp -zeta only [blt_min, blt_max]
  refine h.st 0 rfl sc_int (show 3 < 5 by omega) rfl fun w2 h => ?_
  have h : Rel B' w2 [fCell b (f.drop pos) v0.1, rowD T_api_Event v0.1 (raws (f.drop pos).L)] := h
  rw [h.ld 0 rfl sc_int (o := 3) (v := .int .i64 (f.drop pos).first) rfl, bin_sub, hn, wrap_id (by unfold FSt.next at hf; omega) (by unfold FSt.next at hf; omega)]
  have : f.first + (placeS f.st pos : Int) - f.first = (placeS f.st pos : Int) := by omega
  rw [this]
  exact k _ _ _ _ ⟨rfl, rfl, rfl⟩ (fst_close h)
theorem trimN_at {s : St} {t : Int} {i : Nat} (hi : i ≤ s.events.length) (hlo : ∀ j (h : j < s.events.length), j < i → s.events[j].time < t) (hend : i = s.events.length ∨ ∃ h : i < s.events.length, t ≤ s.events[i].time) : trimN s t = i := by
  unfold trimN
  rcases hend with rfl | ⟨h, ht⟩
  · rw [idxP_none (fun x hx => ?_), if_pos (by decide)]
    obtain ⟨j, hj, rfl⟩ := List.getElem_of_mem hx
    have := hlo j hj hj
    exact decide_eq_false (by omega)
  · rw [idxP_take h (fun x hx => ?_) (decide_eq_true ht), if_neg (by omega)]
    · omega
    · obtain ⟨j, hj, rfl⟩ := List.mem_take_iff_getElem.1 hx
      have := hlo j (by omega) (by omega)
      exact decide_eq_false (by omega)
theorem st_get {f : FSt} {i : Nat} (h : i < (f.L.drop f.k).length) : f.st.events[i]'(by show i < ((evs f.L).drop f.k).length; rw [List.length_drop, evs_length]; rw [List.length_drop] at h; exact h) = (f.L.drop f.k)[i].1 := by
  show ((evs f.L).drop f.k)[i]'_ = _
  rw [List.getElem_drop, List.getElem_drop]
  simp [evs]
theorem st_len (f : FSt) : f.st.events.length = (f.L.drop f.k).length := by
  show ((evs f.L).drop f.k).length = _
  rw [List.length_drop, List.length_drop, evs_length]
theorem st_evs (f : FSt) : f.st.events = evs (f.L.drop f.k) := by
  show (evs f.L).drop f.k = _
  simp [evs]
theorem fTrim_d (t : Int) (hk : f.ok) :
    Does Tryz.prog B (fstD b f) (sCall F_errataref12_Store_Trim #[ptr b, .int .i64 t]) fun u e' τ => u = .int .i64 (trimN f.st t) ∧ e' = fstD b (f.drop (f.first + trimN f.st t)) ∧ (f.drop (f.first + trimN f.st t)).st = cutS f.st (trimN f.st t) ∧ τ = [] := by
  refine Does.intro fun B' w K base h k => ?_
  refine errataref12_Store_Trim.up (errataref12_Store_Trim.call ?_)
  unfold errataref12_Store_Trim.pt
  have hb := hk.base
  have hf := hk.first
  have hl := hk.len
  have hsl := st_len f
  have hdl : (f.L.drop f.k).length ≤ f.L.length := by rw [List.length_drop]; omega
  have hnx : f.next = f.first + ((f.L.drop f.k).length : Int) := by
    obtain ⟨k1, k2⟩ := FSt.k_le hk
    rw [List.length_drop]; unfold FSt.next at hf ⊢; omega
  have hnb : f.next ≤ 1152921504608000000 := by unfold FSt.next; omega
  refine h.make (fun B2 own base2 => fKept_m (fstD.read (own (i := 0) rfl)) hk) fun v τ w1 hp h => ?_
  subst hp
  have h : Rel B' w1 [fstD b f, rowD T_api_Event v (raws (f.L.drop f.k))] := h
  refine LETJ_intro fun J1 hJ1 => ?_
  replace hJ1 : ∀ (i : Nat) w', i ≤ f.st.events.length → trimN f.st t = i → Rel B' w' [fstD b f, rowD T_api_Event v (raws (f.L.drop f.k))] → J1 (.int .i64 i, ()) w' := fun i w' hi ht h => by
    refine hJ1 _ _ ?_
    subst ht
    have hpl : placeS f.st (f.first + (trimN f.st t : Int)) = trimN f.st t := by
      have h2 := FSt.st_next hk
      unfold placeS
      rw [h2, show f.st.first = f.first from rfl]
      omega
    simp -zeta only [nil_ptr, field_addr f_errataref12_Store_3, Nat.zero_add]
    obtain ⟨v0, hc, _⟩ := fstD.read (h.here (i := 0) rfl)
    rw [cellD.ld hc sc_int (o := 3) (v := .int .i64 f.first) rfl, bin_add, wrap_id (by omega) (by omega)]
    refine h.act 0 rfl (fun B2 own base2 => fDrop_d (f.first + (trimN f.st t : Int)) hk) fun u e' τ w3 hp h => ?_
    obtain ⟨rfl, rfl, rfl⟩ := hp
    rw [hpl]
    refine k _ _ _ _ ⟨rfl, rfl, ?_, rfl⟩ (h.pick [0] (by decide))
    rw [FSt.drop_st hk, hpl]
  refine LOOP_intro (fun x w' => ∃ i : Nat, i ≤ f.st.events.length ∧ x = (.int .i64 i, ()) ∧ (∀ j (h : j < f.st.events.length), j < i → f.st.events[j].time < t) ∧ Rel B' w' [fstD b f, rowD T_api_Event v (raws (f.L.drop f.k))]) (fun x _ => f.st.events.length - (match x.1 with | .int _ n => n.toNat | _ => 0))
    ⟨0, Nat.zero_le _, rfl, fun j _ hj => absurd hj (Nat.not_lt_zero j), h⟩ ?_
  clear h
  rintro x w4 ⟨i, hi, rfl, hlo, h⟩ next hnext
  have hrd := rowD.read (h.here (i := 1) rfl)
  simp -zeta only [rowR.len hrd sl_s_api_Event, raws_length, bin_lss, bin_sub, blt_min]
  rw [ifB_dec]
  refine ⟨fun hlt => ?_, fun hge => hJ1 i _ hi (trimN_at hi hlo (.inl (by omega))) h⟩
  have hil : i < (f.L.drop f.k).length := by omega
  have hmin : min (i : Int) (IntKind.i64.wrap (((f.L.drop f.k).length : Int) - 1)) = (i : Int) := by rw [wrap_id (by omega) (by omega)]; omega
  rw [hmin]
  obtain ⟨g, o, hx, hcl⟩ := rowR.idx hrd sl_s_api_Event (P := Tryz.prog) (i := i) (by rw [raws_length]; exact hil)
  rw [raws_get hil] at hcl
  have hcl : cellsR g o ((f.L.drop f.k)[i].1.raw (f.L.drop f.k)[i].2).cs ⟨w4, fun _ => True⟩ := hcl
  have hsg := st_get hil
  simp -zeta only [hx, field_addr f_api_Event_4, cellsR.ld hcl sc_int (j := 4) (v := .int .i64 (f.L.drop f.k)[i].1.time) rfl]
  rw [bin_lss, ifB_dec]
  refine ⟨fun c => ?_, fun c => hJ1 i _ hi (trimN_at hi hlo (.inr ⟨by omega, by rw [hsg]; omega⟩)) h⟩
  rw [bin_add, wrap_id (by omega) (by omega)]
  refine hnext _ _ ⟨i + 1, by omega, rfl, fun j hj hj2 => ?_, h⟩ (by simp only; omega)
  by_cases e : j = i
  · subst e; rw [hsg]; exact c
  · exact hlo j hj (by omega)
theorem fFrom_m (t : Int) (hs : fstR b f B) (hk : f.ok) : Makes Tryz.prog B (sCall F_errataref12_Store_From #[ptr b, .int .i64 t]) fun u τ => ∃ M : EvL, (∀ p ∈ M, p ∈ f.L) ∧ evs M = fromS f.st t ∧ τ = [rowD T_api_Event u (raws M)] := by
  refine Makes.intro fun B' w K base h k => ?_
  replace hs : fstR b f B' := by obtain ⟨v, h1, h2⟩ := hs; exact ⟨v, base h1, base h2⟩
  refine errataref12_Store_From.up (errataref12_Store_From.call ?_)
  unfold errataref12_Store_From.pt
  have hl := hk.len
  have hdl : (f.L.drop f.k).length ≤ f.L.length := by rw [List.length_drop]; omega
  refine h.make (fun B2 own base2 => fKept_m (by obtain ⟨v, h1, h2⟩ := hs; exact ⟨v, base2 h1, base2 h2⟩) hk) fun v τ w1 hp h => ?_
  subst hp
  have hKe := st_evs f
  have hin : ∀ p ∈ f.L.drop f.k, p ∈ f.L := fun p hp => List.mem_of_mem_drop hp
  generalize f.L.drop f.k = K0 at *
  have h : Rel B' w1 [rowD T_api_Event v (raws K0)] := h
  have h := h.addNil D_api_Event T_api_Event
  refine LOOP_intro (fun x w' => ∃ (i : Nat) (u : Value), i ≤ K0.length ∧ x = (u, .int .i64 i, ()) ∧ Rel B' w' [rowD T_api_Event v (raws K0), rowD T_api_Event u (raws ((K0.take i).filter fun p => decide (t ≤ p.1.time)))]) (fun x _ => K0.length - (match x.2.1 with | .int _ n => n.toNat | _ => 0))
    ⟨0, _, Nat.zero_le _, rfl, h⟩ ?_
  clear h
  rintro x w2 ⟨i, u, hi, rfl, h⟩ next hnext
  have hrd := rowD.read (h.here (i := 0) rfl)
  simp -zeta only [rowR.len hrd sl_s_api_Event, raws_length, bin_lss]
  rw [ifB_dec]
  refine ⟨fun hlt => ?_, fun hge => ?_⟩
  · have hil : i < K0.length := by omega
    refine LETJ_intro fun J1 hJ1 => ?_
    replace hJ1 : ∀ u w', Rel B' w' [rowD T_api_Event v (raws K0), rowD T_api_Event u (raws ((K0.take (i + 1)).filter fun p => decide (t ≤ p.1.time)))] → J1 (u, ()) w' := fun u w' h => by
      refine hJ1 _ _ ?_
      rw [bin_add, wrap_id (by omega) (by omega)]
      exact hnext _ _ ⟨i + 1, u, hil, rfl, h⟩ (by simp only; omega)
    have hsucc : (K0.take (i + 1)).filter (fun p => decide (t ≤ p.1.time)) = (K0.take i).filter (fun p => decide (t ≤ p.1.time)) ++ (if t ≤ K0[i].1.time then [K0[i]] else []) := by
      rw [List.take_succ_eq_append_getElem hil, List.filter_append]
      congr 1
      by_cases hh : t ≤ K0[i].1.time <;> simp [hh]
    have hfl := List.length_filter_le (fun p : Ev × SV => decide (t ≤ p.1.time)) (K0.take i)
    rw [List.length_take] at hfl
    obtain ⟨g, o, hx, hcl⟩ := rowR.idx hrd sl_s_api_Event (P := Tryz.prog) (i := i) (by rw [raws_length]; exact hil)
    rw [raws_get hil] at hcl
    have hcl : cellsR g o (K0[i].1.raw K0[i].2).cs ⟨w2, fun _ => True⟩ := hcl
    simp -zeta only [hx, field_addr f_api_Event_4, cellsR.ld hcl sc_int (j := 4) (v := .int .i64 K0[i].1.time) rfl, cellsR.ldAg hcl ag_api_Event rfl, bin_geq]
    rw [ifB_dec]
    refine ⟨fun c => ?_, fun c => ?_⟩
    · refine h.push1 (α := D_api_Event) 1 rfl (K0[i].1.raw K0[i].2) sl_s_api_Event (by decide) (by rw [raws_length]; omega) (by rw [raws_length]; omega) fun u' w5 h => ?_
      refine hJ1 u' _ ?_
      rw [hsucc, if_pos c]
      have : raws ((K0.take i).filter (fun p => decide (t ≤ p.1.time)) ++ [K0[i]]) = raws ((K0.take i).filter fun p => decide (t ≤ p.1.time)) ++ [K0[i].1.raw K0[i].2] := by simp [raws]
      rw [this]
      exact h
    · refine hJ1 u _ ?_
      rw [hsucc, if_neg c, List.append_nil]
      exact h
  · have hie : i = K0.length := by omega
    subst hie
    rw [List.take_length] at h
    refine k _ _ _ ⟨K0.filter fun p => decide (t ≤ p.1.time), fun p hp => hin p (List.mem_filter.1 hp).1, ?_, rfl⟩ (h.pick [1] (by decide))
    unfold fromS
    rw [hKe]
    simp only [evs, List.filter_map]
    rfl
theorem fSlice_m (fr most : Int) (hs : fstR b f B) (hk : f.ok) (hpos : ∀ i (h : i < f.st.events.length), f.st.events[i].pos = f.st.first + i) :
    Makes Tryz.prog B (sCall F_errataref12_Store_Slice #[ptr b, .int .i64 fr, .int .i64 most]) fun u τ => ∃ M : EvL, (∀ p ∈ M, p ∈ f.L) ∧ evs M = sliceS f.st fr most ∧ τ = [rowD T_api_Event u (raws M)] := by
  refine Makes.intro fun B' w K base h k => ?_
  replace hs : fstR b f B' := by obtain ⟨v, h1, h2⟩ := hs; exact ⟨v, base h1, base h2⟩
  refine errataref12_Store_Slice.up (errataref12_Store_Slice.call ?_)
  unfold errataref12_Store_Slice.pt
  have hl := hk.len
  have hdl : (f.L.drop f.k).length ≤ f.L.length := by rw [List.length_drop]; omega
  refine h.make (fun B2 own base2 => fKept_m (by obtain ⟨v, h1, h2⟩ := hs; exact ⟨v, base2 h1, base2 h2⟩) hk) fun v τ w1 hp h => ?_
  subst hp
  have hKe := st_evs f
  have hKl := st_len f
  have hnx : f.st.next = f.st.first + (f.st.events.length : Int) := rfl
  have hd : placeS f.st fr = (min (max fr f.st.first) f.st.next - f.st.first).toNat := rfl
  have hsg : ∀ {i : Nat} (h : i < (f.L.drop f.k).length), (f.L.drop f.k)[i].1.pos = f.st.first + i := fun {i} h => by
    rw [← st_get h]; exact hpos i (by rw [hKl]; exact h)
  have hin : ∀ p ∈ f.L.drop f.k, p ∈ f.L := fun p hp => List.mem_of_mem_drop hp
  unfold sliceS at k
  generalize placeS f.st fr = d at *
  generalize f.L.drop f.k = K0 at *
  have h : Rel B' w1 [rowD T_api_Event v (raws K0)] := h
  have h := h.addNil D_api_Event T_api_Event
  have hdle : d ≤ K0.length := by omega
  refine LETJ_intro fun J1 hJ1 => ?_
  replace hJ1 : ∀ (i : Nat) u w', i ≤ K0.length → (i = K0.length ∨ most ≤ (((K0.take i).drop d).length : Int)) → (((K0.take i).drop d).length : Int) ≤ max 0 most → Rel B' w' [rowD T_api_Event v (raws K0), rowD T_api_Event u (raws ((K0.take i).drop d))] → J1 (u, ()) w' := fun i u w' hi hend hle h => by
    refine hJ1 _ _ ?_
    refine k _ _ _ ⟨(K0.take i).drop d, fun p hp => hin p (List.mem_of_mem_take (List.mem_of_mem_drop hp)), ?_, rfl⟩ (h.pick [1] (by decide))
    rw [List.length_drop, List.length_take] at hend hle
    have e1 : (K0.take i).drop d = (K0.drop d).take (i - d) := by rw [List.drop_take]
    rw [e1]
    have e2 : evs ((K0.drop d).take (i - d)) = (f.st.events.drop d).take (i - d) := by rw [hKe]; simp [evs]
    rw [e2]
    by_cases c : (max 0 (min most ((f.st.events.length : Int) - d))).toNat = i - d
    · rw [c]
    · have hlen : (f.st.events.drop d).length = K0.length - d := by rw [List.length_drop, hKl]
      rw [List.take_of_length_le (l := f.st.events.drop d) (i := i - d) (by omega), List.take_of_length_le (by omega)]
  refine LOOP_intro (fun x w' => ∃ (i : Nat) (u : Value), i ≤ K0.length ∧ x = (u, .int .i64 i, ()) ∧ (((K0.take i).drop d).length : Int) ≤ max 0 most ∧ Rel B' w' [rowD T_api_Event v (raws K0), rowD T_api_Event u (raws ((K0.take i).drop d))]) (fun x _ => K0.length - (match x.2.1 with | .int _ n => n.toNat | _ => 0))
    ⟨0, _, Nat.zero_le _, rfl, by rw [List.take_zero, List.drop_nil]; show (0 : Int) ≤ _; omega, by rw [List.take_zero, List.drop_nil]; exact h⟩ ?_
  clear h
  rintro x w3 ⟨i, u, hi, rfl, hle, h⟩ next hnext
  have hrd := rowD.read (h.here (i := 0) rfl)
  have hrd2 := rowD.read (h.here (i := 1) rfl)
  simp -zeta only [rowR.len hrd sl_s_api_Event, rowR.len hrd2 sl_s_api_Event, raws_length, bin_lss]
  rw [ifB_dec]
  refine ⟨fun hlt => ?_, fun hge => hJ1 i u _ hi (.inl (by omega)) hle h⟩
  rw [ifB_dec]
  refine ⟨fun hlt2 => ?_, fun hge => hJ1 i u _ hi (.inr (by omega)) hle h⟩
  have hil : i < K0.length := by omega
  clear hJ1
  refine LETJ_intro fun J2 hJ2 => ?_
  replace hJ2 : ∀ u w', (((K0.take (i + 1)).drop d).length : Int) ≤ max 0 most → Rel B' w' [rowD T_api_Event v (raws K0), rowD T_api_Event u (raws ((K0.take (i + 1)).drop d))] → J2 (u, ()) w' := fun u w' h1 h => by
    refine hJ2 _ _ ?_
    rw [bin_add, wrap_id (by omega) (by omega)]
    exact hnext _ _ ⟨i + 1, u, hil, rfl, h1, h⟩ (by simp only; omega)
  obtain ⟨g, o, hx, hcl⟩ := rowR.idx hrd sl_s_api_Event (P := Tryz.prog) (i := i) (by rw [raws_length]; exact hil)
  rw [raws_get hil] at hcl
  have hcl : cellsR g o (K0[i].1.raw K0[i].2).cs ⟨w3, fun _ => True⟩ := hcl
  have hps := hsg hil
  simp -zeta only [hx, field_addr f_api_Event_1, cellsR.ld hcl sc_int (j := 1) (v := .int .i64 K0[i].1.pos) rfl, cellsR.ldAg hcl ag_api_Event rfl, bin_geq]
  rw [ifB_dec]
  have hll : ((K0.take i).drop d).length ≤ K0.length := by rw [List.length_drop, List.length_take]; omega
  refine ⟨fun c => ?_, fun c => ?_⟩
  · have hid : d ≤ i := by omega
    have e : (K0.take (i + 1)).drop d = (K0.take i).drop d ++ [K0[i]] := by
      rw [List.take_succ_eq_append_getElem hil, List.drop_append_of_le_length (by rw [List.length_take]; omega)]
    refine h.push1 (α := D_api_Event) 1 rfl (K0[i].1.raw K0[i].2) sl_s_api_Event (by decide) (by rw [raws_length]; omega) (by rw [raws_length]; omega) fun u' w5 h => ?_
    refine hJ2 u' _ (by rw [e, List.length_append, List.length_singleton]; omega) ?_
    rw [e]
    have : raws ((K0.take i).drop d ++ [K0[i]]) = raws ((K0.take i).drop d) ++ [K0[i].1.raw K0[i].2] := by simp [raws]
    rw [this]
    exact h
  · have hid : i + 1 ≤ d := by omega
    have e1 : (K0.take (i + 1)).drop d = [] := List.drop_of_length_le (by rw [List.length_take]; omega)
    have e2 : (K0.take i).drop d = [] := List.drop_of_length_le (by rw [List.length_take]; omega)
    refine hJ2 u _ (by rw [e1]; show (0 : Int) ≤ _; omega) ?_
    rw [e1]
    rw [e2] at h
    exact h
end
end Go.Proofs.YtmllhipiahlihaaGreatDoor
