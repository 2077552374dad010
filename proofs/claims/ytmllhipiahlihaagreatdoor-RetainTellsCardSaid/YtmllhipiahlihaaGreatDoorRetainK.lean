/-
  The reference's Bytes and Read. No condition.
-/
import Derived.Test.YtmllhipiahlihaaGreatDoorRetainJ
import Derived.Test.YtmllhipiahlihaaGreatDoorWireS
namespace Go.Proofs.YtmllhipiahlihaaGreatDoor
open Go.RowKit
set_option maxRecDepth 100000

section
variable {B : Base} {w : World} {σ : List Dat} {b : Nat} {f : FSt}
theorem fBytes_g2 (hs : fstR b f B) (q : rowsR f.L B) (hk : f.ok) (hR : RightS f.st) : Gives Tryz.prog B (sCall F_errataref12_Store_Bytes #[ptr b]) (.string (ofL (encSt f.st))) := by
  refine Gives.intro fun B' w K base h k => ?_
  replace hs : fstR b f B' := by obtain ⟨v, h1, h2⟩ := hs; exact ⟨v, base h1, base h2⟩
  replace q : rowsR f.L B' := base q
  refine errataref12_Store_Bytes.up (errataref12_Store_Bytes.call ?_)
  unfold errataref12_Store_Bytes.pt
  have hcount := hR.count
  have hfi := hR.first
  have hho := hR.horz
  have hall := flat_len evB f.st.events 5000 fun e hx => evB_len (hR.good e hx)
  have hlenE := st_len f
  have hst : ∀ {B2 : Base}, (∀ {d : Dat}, d B' → d B2) → fstR b f B2 := fun hb => by obtain ⟨v, h1, h2⟩ := hs; exact ⟨v, hb h1, hb h2⟩
  refine h.make (fun B2 own base2 => fKept_m (hst base2) hk) fun v τ w1 hp h => ?_
  subst hp
  have hgetE : ∀ {i : Nat} (h : i < (f.L.drop f.k).length), f.st.events[i]'(by rw [hlenE]; exact h) = (f.L.drop f.k)[i].1 := fun h => st_get h
  have hq2 : ∀ p ∈ f.L.drop f.k, rowR p.2.1 p.1.row B' := fun p hp => q p (List.mem_of_mem_drop hp)
  generalize f.L.drop f.k = K0 at *
  have h : Rel B' w1 [rowD T_api_Event v (raws K0)] := h
  have h := h.tick
  obtain ⟨v0, hc, _⟩ := hs
  have f0 : inI f.part := hR.part
  have f1 : inI f.first := by have : 0 ≤ f.first ∧ f.first ≤ 1152921504606846976 := hfi; constructor <;> omega
  have f2 : inI f.st.horizon := ⟨by omega, by omega⟩
  have f3 : inI (f.st.events.length : Int) := ⟨by omega, by omega⟩
  have l1 := encI_len f0
  have l2 := encI_len f1
  have l3 := encI_len f2
  have l4 := encI_len f3
  have en : encN (f.st.events.length : Int) = encI f.st.events.length := by unfold encN; rw [if_neg (by omega)]
  have lenIs : ∀ {w : World} {σ : List Dat}, Rel B' w (rowD T_api_Event v (raws K0) :: σ) → Is Tryz.prog (sBlt .len #[T_s_api_Event] T_int #[false] #[v]) (.int .i64 f.st.events.length) w := fun h => is_of fun {K} => by
    rw [rowR.len (rowD.read (h.here (i := 0) rfl)) sl_s_api_Event, raws_length, hlenE]
  simp -zeta only [nil_ptr, field_addr f_errataref12_Store_0, field_addr f_errataref12_Store_3, Nat.add_zero, Nat.zero_add]
  rw [cellD.ld (h.hereB hc) sc_int (o := 0) (v := .int .i64 f.part) rfl, cellD.ld (h.hereB hc) sc_int (o := 3) (v := .int .i64 f.first) rfl, rowR.len (rowD.read (h.here (i := 0) rfl)) sl_s_api_Event, raws_length, ← hlenE]
  refine h.ask (fun B2 own base2 => fInt_g f0) fun w2 h => ?_
  refine ⟨lenIs h, cellD.is (h.hereB hc) sc_int (o := 3) rfl, ?_⟩
  refine h.ask (fun B2 own base2 => fInt_g f1) fun w3 h => ?_
  refine ⟨lenIs h, ?_⟩
  rw [strL_add (by omega)]
  refine h.ask (fun B2 own base2 => fLeast_g (by obtain ⟨v1, h1, h2⟩ := (⟨v0, hc, by assumption⟩ : fstR b f B'); exact ⟨v1, base2 h1, base2 h2⟩) hk) fun w4 h => ?_
  refine ⟨lenIs h, ?_⟩
  refine h.ask (fun B2 own base2 => fInt_g f2) fun w5 h => ?_
  refine ⟨lenIs h, ?_⟩
  rw [strL_add (by simp only [List.length_append]; omega)]
  refine h.ask (fun B2 own base2 => fNum_g f3) fun w6 h => ?_
  rw [en, strL_add (by simp only [List.length_append]; omega)]
  unfold encSt at k
  rw [show f.st.part = f.part from rfl, show f.st.first = f.first from rfl] at k
  generalize hhd : (((encI f.part ++ encI f.first) ++ encI f.st.horizon) ++ encI f.st.events.length) = hd at *
  have hhl : hd.length ≤ 84 := by rw [← hhd]; simp only [List.length_append]; omega
  refine LOOP_intro (fun x w' => ∃ i : Nat, i ≤ K0.length ∧ x = (.string (ofL (hd ++ (f.st.events.take i).flatMap evB)), .int .i64 i, ()) ∧ Rel B' w' [rowD T_api_Event v (raws K0)]) (fun x _ => K0.length - (match x.2.1 with | .int _ n => n.toNat | _ => 0))
    ⟨0, Nat.zero_le _, by rw [List.take_zero, List.flatMap_nil, List.append_nil]; rfl, h⟩ ?_
  clear h
  rintro x w7 ⟨i, hi, rfl, h⟩ next hnext
  have hrd := rowD.read (h.here (i := 0) rfl)
  simp -zeta only [rowR.len hrd sl_s_api_Event, raws_length, bin_lss]
  rw [ifB_dec]
  refine ⟨fun hlt => ?_, fun hge => ?_⟩
  · have hil : i < K0.length := by omega
    have hiE : i < f.st.events.length := by omega
    have h := h.tick
    have hrd := rowD.read (h.here (i := 0) rfl)
    have hev := hgetE hil
    have hgd := hR.good f.st.events[i] (List.getElem_mem hiE)
    rw [hev] at hgd
    have hstep := flat_take_succ evB hiE
    have hle := flat_take_le evB f.st.events (i + 1)
    rw [hstep, List.length_append, hev] at hle
    rw [hev] at hstep
    have hq : rowR K0[i].2.1 K0[i].1.row B' := hq2 _ (List.getElem_mem hil)
    have elem : ∀ {w : World} {σ : List Dat}, Rel B' w (rowD T_api_Event v (raws K0) :: σ) → ∃ g o, (∀ {Kp : Value → Prop}, pureK Tryz.prog (sIdxAddr T_s_api_Event v (.int .i64 i)) Kp = Kp (.pointer (some ⟨g, o, none⟩))) ∧ cellsR g o (K0[i].1.raw K0[i].2).cs ⟨w, fun _ => True⟩ := fun h => by
      obtain ⟨g, o, hx, hcl⟩ := rowR.idx (rowD.read (h.here (i := 0) rfl)) sl_s_api_Event (P := Tryz.prog) (i := i) (by rw [raws_length]; exact hil)
      rw [raws_get hil] at hcl
      exact ⟨g, o, hx, hcl⟩
    obtain ⟨g, o, hx, hcl⟩ := elem h
    have hcl' : ∀ {w : World} {σ : List Dat}, Rel B' w (rowD T_api_Event v (raws K0) :: σ) → cellsR g o (K0[i].1.raw K0[i].2).cs ⟨w, fun _ => True⟩ := fun h => by
      obtain ⟨g', o', hx', hcl2⟩ := elem h
      have e : (Value.pointer (some ⟨g, o, none⟩)) = .pointer (some ⟨g', o', none⟩) := by
        have h1 := hx (Kp := fun x => x = .pointer (some ⟨g', o', none⟩))
        have h2 := hx' (Kp := fun x => x = .pointer (some ⟨g', o', none⟩))
        rw [h1] at h2
        exact h2.mpr rfl
      injection e with e
      injection e with e
      injection e with e1 e2
      subst e1; subst e2
      exact hcl2
    clear elem
    generalize hE : K0[i].1 = e at *
    generalize hV : K0[i].2 = ev at *
    have hsrc := hgd.src
    have hrl := encRow_len hgd.len.1 hgd.len.2 hgd.vals
    have a1 := encT_len (bl e.source) (by omega)
    have a2 := encI_len hgd.schema
    have a3 := encI_len hgd.time
    have a4 := encT_len (encRow e.row) (by omega)
    have hevl : (evB e).length = (encT (bl e.source)).length + (encI e.schema).length + (encI e.time).length + (encT (encRow e.row)).length := by unfold evB; simp only [List.length_append]
    simp -zeta only [hx, field_addr f_api_Event_2, field_addr f_api_Event_3, field_addr f_api_Event_4, field_addr f_api_Event_5]
    rw [cellsR.ld hcl sc_string (j := 2) (v := .string e.source) rfl, cellsR.ld hcl sc_int (j := 3) (v := .int .i64 e.schema) rfl, cellsR.ld hcl sc_int (j := 4) (v := .int .i64 e.time) rfl, cellsR.ld hcl sc_s_api_Value (j := 5) (v := ev.1) rfl]
    have es : e.source = ofL (bl e.source) := (ofL_bl e.source).symm
    refine h.ask (v := .string (ofL (encT (bl e.source)))) (fun B2 own base2 => by have := fText_g (B := B2) (s := bl e.source) (by omega); rw [← es] at this; exact this) fun w10 h => ?_
    refine ⟨cellsR.is (hcl' h) sc_s_api_Value (j := 5) rfl, cellsR.is (hcl' h) sc_int (j := 4) rfl, cellsR.is (hcl' h) sc_int (j := 3) rfl, ?_⟩
    rw [strL_add (by simp only [List.length_append]; omega)]
    refine h.ask (fun B2 own base2 => fInt_g hgd.schema) fun w11 h => ?_
    refine ⟨cellsR.is (hcl' h) sc_s_api_Value (j := 5) rfl, cellsR.is (hcl' h) sc_int (j := 4) rfl, ?_⟩
    rw [strL_add (by simp only [List.length_append]; omega)]
    refine h.ask (fun B2 own base2 => fInt_g hgd.time) fun w12 h => ?_
    refine ⟨cellsR.is (hcl' h) sc_s_api_Value (j := 5) rfl, ?_⟩
    rw [strL_add (by simp only [List.length_append]; omega)]
    refine h.ask (fun B2 own base2 => fRowBytes_g (base2 hq) (by have := hgd.len.1; omega) fun v hv => ⟨hgd.vals v hv, by have := hgd.len.2 v hv; omega⟩) fun w13 h => ?_
    refine h.ask (fun B2 own base2 => fText_g (by omega)) fun w14 h => ?_
    rw [strL_add (by simp only [List.length_append]; omega), bin_add, wrap_id (by omega) (by omega)]
    refine hnext _ _ ⟨i + 1, hil, ?_, h⟩ (by simp only; omega)
    rw [hstep]
    unfold evB
    simp only [List.append_assoc]
    rfl
  · have hie : i = f.st.events.length := by omega
    subst hie
    rw [List.take_length]
    exact k _ _ h
def readPost (t : Bs) (u : Value) (τ : List Dat) : Prop := (∃ s b F, readSt t = some s ∧ FSt.st F = s ∧ F.ok ∧ F.L.length ≤ 2000 ∧ F.base = F.first ∧ u = .tuple #[ptr b, .bool true] ∧ τ = [fstD b F, rowsR F.L]) ∨ (readSt t = none ∧ u = .tuple #[.pointer none, .bool false] ∧ τ = [])
theorem fRead_m {t : Bs} (ht : t.length ≤ 1099511627776) : Makes Tryz.prog B (sCall F_errataref12_Read #[.string (ofL t)]) (readPost t) := by
  refine Makes.intro fun B' w K base h k => ?_
  refine errataref12_Read.up (errataref12_Read.call ?_)
  unfold errataref12_Read.pt
  refine h.make (fun B2 own base2 => fopen_m) fun u τ w1 hp h => ?_
  obtain ⟨p, rfl, rfl⟩ := hp
  have h : Rel B' w1 [rfD p ⟨t, false⟩] := h
  have no : readSt t = none → ∀ w' τ, Rel B' w' τ → K (.tuple #[.pointer none, .bool false]) w' := fun hn w' τ h => k _ _ _ (.inr ⟨hn, rfl, rfl⟩) h.nil
  have yes : ∀ F b, readSt t = some (FSt.st F) → F.ok → F.L.length ≤ 2000 → F.base = F.first → ∀ w', Rel B' w' [fstD b F, rowsR F.L] → K (.tuple #[ptr b, .bool true]) w' := fun F b h1 h2 h3 h4 w' h => k _ _ _ (.inl ⟨_, b, F, h1, rfl, h2, h3, h4, rfl, rfl⟩) h
  clear k
  unfold readSt at no yes
  have hsn : Sane ⟨t, false⟩ := fun hb => by cases hb
  have q1 := intR_le ⟨t, false⟩
  have q2 := intR_le (intR ⟨t, false⟩).2
  have q3 := intR_le (intR (intR ⟨t, false⟩).2).2
  have q4 := natR_le (intR (intR (intR ⟨t, false⟩).2).2).2
  have q0 : (⟨t, false⟩ : RS).rest.length = t.length := rfl
  have s4 := natR_sane (intR_sane (intR_sane (intR_sane hsn)))
  have n0 : 0 ≤ (natR (intR (intR (intR ⟨t, false⟩).2).2).2).1 := (numR_le (.inl rfl : isEnd 59) 0 (intR (intR (intR ⟨t, false⟩).2).2).2).2.2 (Int.le_refl 0)
  refine h.rf_ 0 rfl (fun B2 own base2 => fIntR_d (by omega)) fun w2 h => ?_
  refine h.make (fun B2 own base2 => fNew_m _) fun u τ w3 hp h => ?_
  obtain ⟨b, rfl, rfl⟩ := hp
  have hdef : headR ⟨t, false⟩ = ((((( intR ⟨t, false⟩).1, (intR (intR ⟨t, false⟩).2).1), (intR (intR (intR ⟨t, false⟩).2).2).1), (natR (intR (intR (intR ⟨t, false⟩).2).2).2).1), (natR (intR (intR (intR ⟨t, false⟩).2).2).2).2) := rfl
  rw [hdef] at no yes
  simp only at no yes
  have h : Rel B' w3 [rfD p (intR ⟨t, false⟩).2, fstD b ⟨(intR ⟨t, false⟩).1, 0, 0, 0, []⟩] := h
  obtain ⟨v0, h⟩ := h.ex (i := 1) rfl
  have h := Rel.split (i := 1) h rfl
  have h : Rel B' w3 [rfD p (intR ⟨t, false⟩).2, fCell b ⟨(intR ⟨t, false⟩).1, 0, 0, 0, []⟩ v0.1, rowD T_api_Event v0.1 (raws [])] := h
  simp -zeta only [nil_ptr, field_addr f_errataref12_Store_0, field_addr f_errataref12_Store_1, field_addr f_errataref12_Store_2, field_addr f_errataref12_Store_3, field_addr f_errataref12_Store_4, Nat.add_zero, Nat.zero_add]
  refine h.rf_ 0 rfl (fun B2 own base2 => fIntR_d (by omega)) fun w4 h => ?_
  refine h.st 1 rfl sc_int (show 3 < 5 by omega) rfl fun w5 h => ?_
  rw [h.ld 1 rfl sc_int (o := 3) (v := .int .i64 (intR (intR ⟨t, false⟩).2).1) rfl]
  refine h.st 1 rfl sc_int (show 2 < 5 by omega) rfl fun w6 h => ?_
  refine h.rf_ 0 rfl (fun B2 own base2 => fIntR_d (by omega)) fun w7 h => ?_
  refine h.st 1 rfl sc_int (show 4 < 5 by omega) rfl fun w8 h => ?_
  refine h.rf_ 0 rfl (fun B2 own base2 => fNumR_d (by omega)) fun w9 h => ?_
  have e4 : (natR (intR (intR (intR ⟨t, false⟩).2).2).2).2.rest.length ≤ t.length := by omega
  have h : Rel B' w9 [rfD p (natR (intR (intR (intR ⟨t, false⟩).2).2).2).2, fCell b ⟨(intR ⟨t, false⟩).1, (intR (intR ⟨t, false⟩).2).1, (intR (intR ⟨t, false⟩).2).1, (intR (intR (intR ⟨t, false⟩).2).2).1, []⟩ v0.1, rowD T_api_Event v0.1 (raws [])] := h
  clear q1 q2 q3 q4 q0 hdef
  generalize (natR (intR (intR (intR ⟨t, false⟩).2).2).2) = nn at *
  generalize (intR (intR (intR ⟨t, false⟩).2).2) = hh at *
  generalize (intR (intR ⟨t, false⟩).2) = ff at *
  generalize (intR ⟨t, false⟩) = pp at *
  obtain ⟨n, r4⟩ := nn
  obtain ⟨hz, r3⟩ := hh
  obtain ⟨f, r2⟩ := ff
  obtain ⟨pt, r1⟩ := pp
  simp only at no yes h s4 e4 n0
  have h := h.tick
  simp -zeta only [h.ld 1 rfl sc_int (o := 3) (v := .int .i64 f) rfl, h.ld 1 rfl sc_int (o := 4) (v := .int .i64 hz) rfl]
  unfold headBad at no yes
  simp only at no yes
  rw [bin_lss, ifB_dec]
  refine ⟨fun c => no (if_pos (by rw [decide_eq_true c]; simp)) _ _ h, fun c1 => ?_⟩
  rw [bin_gtr, ifB_dec]
  refine ⟨fun c => no (if_pos (by rw [decide_eq_true c]; simp)) _ _ h, fun c2 => ?_⟩
  rw [bin_lss, ifB_dec]
  refine ⟨fun c => no (if_pos (by rw [decide_eq_true c]; simp)) _ _ h, fun c3 => ?_⟩
  rw [bin_gtr, ifB_dec]
  refine ⟨fun c => no (if_pos (by rw [decide_eq_true c]; simp)) _ _ h, fun c4 => ?_⟩
  rw [bin_eql, bin_eql, bin_neq_bool U_bool, ifB_not, ifB_bool]
  refine ⟨fun c5 => ?_, fun c => no (if_pos (by have : (decide (hz = 0) != decide (f = 0)) = true := by rw [bne, c]; rfl
                                                rw [this]; simp)) _ _ h⟩
  rw [bin_gtr, ifB_dec]
  refine ⟨fun c => no (if_pos (by rw [decide_eq_true c]; simp)) _ _ h, fun c6 => ?_⟩
  have hbad : ¬ (decide (f < 0) || decide (1152921504606846976 < f) || decide (hz < 0) || decide (1099511627777 < hz) || (decide (hz = 0) != decide (f = 0)) || decide (2000 < n)) = true := by
    have : (decide (hz = 0) != decide (f = 0)) = false := by rw [bne, c5]; rfl
    rw [this, decide_eq_false c1, decide_eq_false c2, decide_eq_false c3, decide_eq_false c4, decide_eq_false c6]; decide
  rw [if_neg hbad] at no yes
  have h99 := h
  obtain ⟨m, rfl⟩ : ∃ m : Nat, n = m := ⟨n.toNat, by omega⟩
  rw [Int.toNat_natCast] at no yes
  have h := h99.pick [1, 2, 0] (by decide)
  clear h99
  have h : Rel B' (tick w9) [fCell b ⟨pt, f, f, hz, []⟩ v0.1, rowD T_api_Event v0.1 (raws (⟨pt, f, f, hz, []⟩ : FSt).L), rfD p r4] := h
  have h := fst_close h
  have h := h.addEmp
  have h := h.imp (i := 2) (e := rowsR []) rfl fun B _ p hp => by cases hp
  have hok0 : (⟨pt, f, f, hz, []⟩ : FSt).ok := ⟨⟨by show 0 ≤ f; omega, by show f ≤ _; omega⟩, ⟨Int.le_refl _, by show f ≤ f + ((([] : EvL).length : Nat) : Int); rw [List.length_nil]; omega⟩, Nat.zero_le _, fun e he => (by cases he)⟩
  have hst0 : (⟨pt, f, f, hz, []⟩ : FSt).st = ⟨pt, f, hz, []⟩ := by
    have : (⟨pt, f, f, hz, []⟩ : FSt).k = 0 := by show (f - f).toNat = 0; omega
    show (⟨pt, f, hor hz ((evs []).take _), (evs []).drop _⟩ : St) = _
    rw [this]; rfl
  rw [← hst0] at no yes
  clear c5 hbad hst0
  refine LOOP_intro (fun x w' => ∃ (i : Nat) (F : FSt) (r : RS), i ≤ m ∧ x = (.int .i64 i, ()) ∧ readEvs (m - i) F.st r = readEvs m (⟨pt, f, f, hz, []⟩ : FSt).st r4 ∧ Sane r ∧ r.rest.length ≤ t.length ∧ F.ok ∧ F.L.length ≤ i ∧ F.base = F.first ∧ Rel B' w' [fstD b F, rfD p r, rowsR F.L]) (fun x _ => m - (match x.1 with | .int _ n => n.toNat | _ => 0))
    ⟨0, ⟨pt, f, f, hz, []⟩, r4, Nat.zero_le _, rfl, rfl, s4, e4, hok0, Nat.le_refl _, rfl, h⟩ ?_
  clear h
  rintro x w10 ⟨i, F, r, hi, rfl, hev, hsa, hrl, hok, hFl, hbf, h9⟩ next hnext
  rw [bin_lss, ifB_dec]
  refine ⟨fun hlt => ?_, fun hge => ?_⟩
  case refine_2 =>
    have e0 : m - i = 0 := by omega
    rw [e0, readEvs] at hev
    refine h9.ask (fun B2 own base2 => fDone_g (own (i := 1) rfl)) fun w8 h => ?_
    rw [un_not, ifB_not, ifB_bool]
    refine ⟨fun cd => ?_, fun cd => no (by rw [← hev]; exact if_neg (by rw [cd]; decide)) _ _ h⟩
    exact yes F b (by rw [← hev]; exact if_pos cd) hok (by omega) hbf _ (h.pick [0, 2] (by decide))
  obtain ⟨k, hk⟩ : ∃ k, m - i = k + 1 := ⟨m - i - 1, by omega⟩
  rw [hk, readEvs] at hev
  have z1 := textR_le r
  have z2 := intR_le (textR r).2
  have z3 := intR_le (intR (textR r).2).2
  have z4 := textR_le (intR (intR (textR r).2).2).2
  have z5 := textR_sane hsa
  have zi := intR_sane (intR_sane z5)
  have z6 := textR_sane zi
  have rev : evR r = ((((((textR r).1), (intR (textR r).2).1), (intR (intR (textR r).2).2).1), (textR (intR (intR (textR r).2).2).2).1), (textR (intR (intR (textR r).2).2).2).2) := rfl
  rw [rev] at hev
  simp only at hev
  have rd1 : ∀ {K : Value → World → Prop} {w : World} {σ : List Dat}, Rel B' w (fstD b F :: rfD p r :: σ) → (∀ w', Rel B' w' (fstD b F :: rfD p (textR r).2 :: σ) → K (.string (ofL (textR r).1)) w') → upK Tryz.prog (sCall F_errataref01_Reader_Text #[ptr1 p]) w K := fun h kk => h.rf_ 1 rfl (fun B2 own base2 => fTextR_d hsa (by omega)) kk
  have rd2 : ∀ {K : Value → World → Prop} {w : World} {σ : List Dat}, Rel B' w (fstD b F :: rfD p (textR r).2 :: σ) → (∀ w', Rel B' w' (fstD b F :: rfD p (intR (textR r).2).2 :: σ) → K (.int .i64 (intR (textR r).2).1) w') → upK Tryz.prog (sCall F_errataref01_Reader_Int #[ptr1 p]) w K := fun h kk => h.rf_ 1 rfl (fun B2 own base2 => fIntR_d (by omega)) kk
  have rd3 : ∀ {K : Value → World → Prop} {w : World} {σ : List Dat}, Rel B' w (fstD b F :: rfD p (intR (textR r).2).2 :: σ) → (∀ w', Rel B' w' (fstD b F :: rfD p (intR (intR (textR r).2).2).2 :: σ) → K (.int .i64 (intR (intR (textR r).2).2).1) w') → upK Tryz.prog (sCall F_errataref01_Reader_Int #[ptr1 p]) w K := fun h kk => h.rf_ 1 rfl (fun B2 own base2 => fIntR_d (by omega)) kk
  have rd4 : ∀ {K : Value → World → Prop} {w : World} {σ : List Dat}, Rel B' w (fstD b F :: rfD p (intR (intR (textR r).2).2).2 :: σ) → (∀ w', Rel B' w' (fstD b F :: rfD p (textR (intR (intR (textR r).2).2).2).2 :: σ) → K (.string (ofL (textR (intR (intR (textR r).2).2).2).1)) w') → upK Tryz.prog (sCall F_errataref01_Reader_Text #[ptr1 p]) w K := fun h kk => h.rf_ 1 rfl (fun B2 own base2 => fTextR_d zi (by omega)) kk
  have z7 : (textR (intR (intR (textR r).2).2).2).1.length ≤ t.length := by omega
  have z8 : (textR (intR (intR (textR r).2).2).2).2.rest.length ≤ t.length := by omega
  clear z1 z2 z3 z4 rev zi z5
  generalize textR (intR (intR (textR r).2).2).2 = y4 at *
  generalize intR (intR (textR r).2).2 = y3 at *
  generalize intR (textR r).2 = y2 at *
  generalize textR r = y1 at *
  obtain ⟨x4, q4⟩ := y4
  obtain ⟨x3, q3⟩ := y3
  obtain ⟨x2, q2⟩ := y2
  obtain ⟨x1, q1⟩ := y1
  simp only at hev rd1 rd2 rd3 rd4 z6 z7 z8
  refine LETJ_intro fun J1 hJ1 => ?_
  replace hJ1 : ∀ e7 w', Rel B' w' [fstD b F, rfD p r, rowsR F.L, cellD e7 T_api_Event #[.int .i64 F.part, .int .i64 F.next, .string ⟨#[]⟩, .int .i64 0, .int .i64 0, .slice none 0 0]] → J1 (.pointer (some ⟨e7, 0, none⟩), ()) w' := fun e7 w' h => by
    refine hJ1 _ _ ?_
    simp -zeta only [field_addr f_api_Event_2, field_addr f_api_Event_3, field_addr f_api_Event_4, field_addr f_api_Event_5, Nat.zero_add]
    refine rd1 h fun w12 h => ?_
    refine h.st 3 rfl sc_string (show 2 < 6 by omega) rfl fun w13 h => ?_
    refine rd2 h fun w14 h => ?_
    refine h.st 3 rfl sc_int (show 3 < 6 by omega) rfl fun w15 h => ?_
    refine rd3 h fun w16 h => ?_
    refine h.st 3 rfl sc_int (show 4 < 6 by omega) rfl fun w17 h => ?_
    refine rd4 h fun w18 h => ?_
    refine h.make (fun B2 own base2 => fReadRow_m (by omega)) fun u τ w12 hp h => ?_
    rcases hp with ⟨row, v, hrow, rfl, rfl⟩ | ⟨hn, rfl, rfl⟩
    · simp -zeta only [ext_2_0, ext_2_1]
      have hv1 : v.oneCell' = true := h.oneCell (α := ValD) (i := 4) rfl
      refine h.st 3 rfl sc_s_api_Value (show 5 < 6 by omega) hv1 fun w13 h => ?_
      rw [un_not, Bool.not_true, ifB_false]
      have h : Rel B' w13 [fstD b F, rfD p q4, rowsR F.L, cellD e7 T_api_Event (((⟨F.part, F.next, ofL x1, x2, x3, row⟩ : Ev).raw ⟨v, hv1⟩).cs.toArray), rowD T_api_Value v row] := h
      rw [h.ldAg 3 rfl ag_api_Event rfl]
      rw [hrow] at hev
      simp only at hev
      obtain ⟨g1, g2⟩ := readRow_back hrow
      have hrl := (readRow_len hrow).2
      rw [show F.st.part = F.part from rfl, FSt.st_next hok] at hev
      refine h.act 0 rfl (fun B2 own base2 => fAdd_d ⟨F.part, F.next, ofL x1, x2, x3, row⟩ ⟨v, hv1⟩ (rowD.read (own (j := 4) (by decide) rfl)) (by show row.length ≤ _; omega) hok (by omega)) fun u e' τ w14 hp h => ?_
      obtain ⟨rfl, rfl, rfl⟩ := hp
      rw [bin_neq, ifB_not, ifB_dec]
      refine ⟨fun c => ?_, fun c => no (by rw [← hev]; exact if_neg c) _ _ h⟩
      rw [if_pos c] at hev
      rw [bin_add, wrap_id (by omega) (by omega)]
      obtain ⟨o1, o2⟩ := FSt.add_ok hok ⟨F.part, F.next, ofL x1, x2, x3, row⟩ ⟨v, hv1⟩ (by omega)
      have hL : (F.add ⟨F.part, F.next, ofL x1, x2, x3, row⟩ ⟨v, hv1⟩).L = F.L ++ [(⟨F.part, F.next, ofL x1, x2, x3, row⟩, ⟨v, hv1⟩)] := by unfold FSt.add; rw [if_pos c]
      have h := Rel.join (a := rowsR F.L) (b := rowD T_api_Value v row) h 2 4 rfl rfl (by omega)
      have h := h.imp (i := 2) (e := rowsR (F.add ⟨F.part, F.next, ofL x1, x2, x3, row⟩ ⟨v, hv1⟩).L) rfl fun B hB => by
        rw [hL]
        exact Dat.all_append (Dat.star.left hB) fun p hp => by
          rw [List.mem_singleton.1 hp]
          exact rowD.read (Dat.star.right hB)
      refine hnext _ _ ⟨i + 1, _, q4, by omega, rfl, ?_, z6, z8, o1, by omega, by unfold FSt.add; rw [if_pos c]; exact hbf, h.pick [0, 1, 2] (by decide)⟩ (by simp only; omega)
      rw [show m - (i + 1) = k by omega]
      exact (congrArg (fun z => readEvs k z q4) (FSt.add_st hok ⟨F.part, F.next, ofL x1, x2, x3, row⟩ ⟨v, hv1⟩)).trans hev
    · simp -zeta only [ext_2_0, ext_2_1]
      refine h.st 3 rfl sc_s_api_Value (show 5 < 6 by omega) rfl fun w13 h => ?_
      rw [un_not, Bool.not_false, ifB_true]
      rw [hn] at hev
      exact no hev.symm _ _ h
  have put : ∀ (e7 : Nat) (cs : Array Value) (w' : World), cs.size = 6 → Rel B' w' [fstD b F, rfD p r, rowsR F.L, cellD e7 T_api_Event cs] →
      upK Tryz.prog (sStore T_api_Event (.pointer (some ⟨e7, 0, none⟩)) (.agg #[.int .i64 F.part, .int .i64 F.next, .string ⟨#[]⟩, .int .i64 0, .int .i64 0, .slice none 0 0])) w' fun _ w'' => J1 (.pointer (some ⟨e7, 0, none⟩), ()) w'' := fun e7 cs w' hcs h => by
    refine h.stAll 3 (ds := #[.int .i64 F.part, .int .i64 F.next, .string ⟨#[]⟩, .int .i64 0, .int .i64 0, .slice none 0 0]) rfl ag_api_Event rfl hcs (fun v hv => ?_) fun w13 h => ?_
    · simp only [List.mem_cons, List.not_mem_nil, or_false] at hv
      rcases hv with rfl | rfl | rfl | rfl | rfl | rfl <;> rfl
    · exact hJ1 e7 _ h
  have nx : ∀ {K : Value → World → Prop} {w : World} {σ : List Dat}, Rel B' w (fstD b F :: σ) → (∀ w', Rel B' w' (fstD b F :: σ) → K (.int .i64 F.next) w') → upK Tryz.prog (sCall F_errataref12_Store_Next #[ptr b]) w K := fun h kk => h.ask (fun B2 own base2 => fNext_g (fstD.read (own (i := 0) rfl)) hok) kk
  have ld0 : ∀ {w : World} {σ : List Dat} {Kp : Value → Prop}, Rel B' w (fstD b F :: σ) → readK Tryz.prog (sLoad T_int (.pointer (some ⟨b, 0, none⟩))) w Kp = Kp (.int .i64 F.part) := fun h => by
    obtain ⟨v, hc, _⟩ := fstD.read (h.here (i := 0) rfl)
    exact cellD.ld hc sc_int rfl
  have is0 : ∀ {w : World} {σ : List Dat}, Rel B' w (fstD b F :: σ) → Is Tryz.prog (sLoad T_int (.pointer (some ⟨b, 0, none⟩))) (.int .i64 F.part) w := fun h => by
    obtain ⟨v, hc, _⟩ := fstD.read (h.here (i := 0) rfl)
    exact cellD.is hc sc_int rfl
  clear hJ1 hnext
  have h := h9.tick
  rw [ld0 h]
  refine ⟨?_, ?_⟩
  · refine nx h fun w15 h => ⟨is0 h, ?_⟩
    rw [bd_api_Event_0_1]
    refine h.alloc z_api_Event fun e7 w19 h => ⟨is0 h, ?_⟩
    exact put e7 _ _ rfl h
  · refine h.alloc z_api_Event fun e7 w19 h => ⟨is0 h, ?_⟩
    refine nx h fun w15 h => ⟨is0 h, ?_⟩
    rw [bd_api_Event_0_1]
    exact put e7 _ _ rfl h
end
end Go.Proofs.YtmllhipiahlihaaGreatDoor
