/-
  IntakeBack: the walk. No condition.
-/
import Derived.Test.YtefinemhfgdpdaaGreatDoorIntO
import Derived.Test.YtefinemhfgdpdaaGreatDoorIntY
namespace Go.Proofs.YtefinemhfgdpdaaGreatDoor
open Go.RowKit
set_option maxRecDepth 100000

def FinE (s : IS) : Prop := ∃ times, FinI s times
theorem FinE.keys {s : IS} (h : FinE s) : KeysOk s := by
  obtain ⟨t, h⟩ := h
  exact h.keys
theorem FinE.apply {s : IS} (h : FinE s) (e : EnD) (r : List ValD) : FinE (applyS s e r).2 := by
  obtain ⟨t, h⟩ := h
  have hf := apply_final h e r
  by_cases c : e.kind = 0 ∧ (applyS s e r).1.2 = 0
  · exact ⟨_, (hf.yes c.1 c.2).2.2⟩
  · exact ⟨_, hf.no c⟩
theorem encIS_len {s : IS} (hf : FitIS s) : (encIS s).length ≤ 1000000 := by
  have htop := hf.top
  have hlk := keysS_len (s := s) hf.cfg
  have a1 := encI_len hf.now
  have a2 := encI_len (n := s.top) (by constructor <;> omega)
  have a3 := encI_len hf.next
  have a4 := encI_len hf.refused
  have a5 := encTab_len hf.prods
  have a6 := encT_len (encTab s.prods) (by omega)
  have a8 := encI_len (n := ((keysS s).length : Int)) ⟨by omega, by omega⟩
  have a9 := flat_len (encC s) (keysS s) 42 fun t ht => by
    have h1 := encI_len (hf.key ht).1
    have h2 := encI_len (hf.key ht).2
    unfold encC
    rw [List.length_append]
    omega
  unfold encIS encH
  simp only [List.length_append]
  omega
/-- What holds of a partition between two entries. -/
structure LiveI (c : CfD) (y : IS) (i : Int) : Prop where
  good : GoodIS y
  fin : FinE y
  cfg : y.cfg = c
  known : y.known = knS
  next : y.next ≤ i
  refused : y.refused ≤ i
theorem LiveI.start {c : CfD} (h : RightC c) : LiveI c (newS c knS) 0 := ⟨new_good h _, ⟨_, fin_new h _⟩, rfl, rfl, Int.le_refl _, Int.le_refl _⟩
theorem LiveI.step {c : CfD} {y : IS} {i : Int} (h : LiveI c y i) (hi : i ≤ 1000) (e : EnD) (r : List ValD) : LiveI c (applyS y e r).2 (i + 1) := by
  have h1 := h.next
  have h2 := h.refused
  obtain ⟨g1, g2, g3, g4, g5⟩ := apply_good h.good e r (by omega) (by omega)
  exact ⟨g1, h.fin.apply e r, by rw [g2, h.cfg], by rw [g3, h.known], by omega, by omega⟩
theorem LiveI.fit {c : CfD} {y : IS} {i : Int} (h : LiveI c y i) : FitIS y := h.good.fit h.fin.keys
theorem LiveI.read {c : CfD} {y : IS} {i : Int} (h : LiveI c y i) : readIS c knS (encIS y) = some y := by
  have h2 := h.good.next
  have := readIS_enc h.fit h.good.now ⟨h2.1, by omega⟩ h.good.refused.1
  rw [h.cfg, h.known] at this
  exact this
theorem LiveI.kl {c : CfD} {y : IS} {i : Int} (h : LiveI c y i) : y.known.length ≤ 4611686018427387904 := by rw [h.known]; exact knS_len
set_option maxHeartbeats 2000000 in
theorem intakeBack_pt {W : World} {v mv : Value} {l more : List EnD} {c : CfD} {s : ByteArray} (hB : wireD (lawB W)) (r0 : rowR v l (lawB W)) (hm : l.length ≤ maxLen) (hq : ∀ x ∈ l, ok_api_Entry W x)
    (r1 : rowR mv more (lawB W)) (hm1 : more.length ≤ maxLen) (hq1 : ∀ x ∈ more, ok_api_Entry W x)
    {K : Value → World → Prop} (fin : ∀ w' σ, Rel (lawB W) w' σ → K (.bool true) w') : erratalaw11_IntakeBack.pt c.v v (.string s) mv W K := by
  obtain ⟨t, rfl⟩ : ∃ t, s = ofL t := ⟨bl s, (ofL_bl s).symm⟩
  obtain ⟨L, hLe, q, hlq⟩ := open_ents hq
  have r : rowR v (eraws L) (lawB W) := by rw [hLe]; exact r0
  have hal : (eraws L).length = L.length := List.length_map ..
  have hlL : L.length ≤ maxLen := by rw [← hal, hLe]; exact hm
  obtain ⟨M, hMe, qM, hmq⟩ := open_ents hq1
  have rM : rowR mv (eraws M) (lawB W) := by rw [hMe]; exact r1
  have haM : (eraws M).length = M.length := List.length_map ..
  have hlM : M.length ≤ maxLen := by rw [← haM, hMe]; exact hm1
  unfold erratalaw11_IntakeBack.pt
  have h := lawB.start W
  refine h.box fun cb w1 h => ?_
  have h : Rel (lawB W) w1 [cellD cb T_api_Config c.cs.toArray] := h
  refine small_r h fun w2 h => ?_
  have h := h.tick
  rw [h.ldAg 0 rfl ag_api_Config rfl]
  refine h.make (fun B2 own base2 => known_m) fun u τ w3 hp h => ?_
  subst hp
  have h : Rel (lawB W) w3 [cellD cb T_api_Config c.cs.toArray, knownD u knS] := h
  refine ⟨h.isAg 0 rfl ag_api_Config rfl, ?_⟩
  refine h.make (fun B2 own base2 => New_m c (own (i := 1) rfl) knS_few) fun x τ w4 hp h => ?_
  rcases hp with ⟨hc, p, rfl, rfl⟩ | ⟨hn, rfl, rfl⟩
  case inr =>
    have h := h.pick [0] (by decide)
    have h : Rel (lawB W) w4 [cellD cb T_api_Config c.cs.toArray] := h
    have tail : ∀ w', Rel (lawB W) w' [cellD cb T_api_Config c.cs.toArray] → readK Tryz.prog (sLoad T_api_Config (.pointer (some ⟨cb, 0, none⟩))) w' fun t33 => upK Tryz.prog (sCall F_intake_Right #[t33]) w' fun t34 w6 => pureK Tryz.prog (sUn .not t34) fun t35 => K t35 w6 := by
      intro w' h
      rw [h.ldAg 0 rfl ag_api_Config rfl]
      refine h.ask (fun B2 own base2 => cRight_g c) fun w6 h => ?_
      rw [un_not, decide_eq_false hn]
      exact fin _ _ h
    refine few_r (n := 60) r q h hlL hlq (fun w5 hf h => ?_) fun w5 h => ?_
    case refine_2 =>
      rw [un_not, Bool.not_false, ifB_true, ifB_true, nil_nn, ifB_false]
      exact tail _ h
    rw [un_not, Bool.not_true, ifB_false]
    refine few_r (n := 40) rM qM h hlM hmq (fun w6 hf2 h => ?_) fun w6 h => ?_
    case refine_2 =>
      rw [un_not, Bool.not_false, ifB_true, ifB_true, nil_nn, ifB_false]
      exact tail _ h
    rw [un_not, Bool.not_true, ifB_false, lenS U_string, bin_gtr, ifB_dec]
    refine ⟨fun _ => ?_, fun _ => ?_⟩
    · rw [ifB_true, nil_nn, ifB_false]
      exact tail _ h
    · rw [nil_nil, ifB_true, ifB_true, nil_nn, ifB_false]
      exact tail _ h
  have h := h.pick [0, 2] (by decide)
  have h : Rel (lawB W) w4 [cellD cb T_api_Config c.cs.toArray, intD p (newS c knS)] := h
  refine few_r (n := 60) r q h hlL hlq (fun w5 hf h => ?_) fun w5 h => ?_
  case refine_2 =>
    rw [un_not, Bool.not_false, ifB_true, ifB_true, int_nn, ifB_true]
    exact fin _ _ h
  rw [un_not, Bool.not_true, ifB_false]
  refine few_r (n := 40) rM qM h hlM hmq (fun w6 hfM h => ?_) fun w6 h => ?_
  case refine_2 =>
    rw [un_not, Bool.not_false, ifB_true, ifB_true, int_nn, ifB_true]
    exact fin _ _ h
  rw [un_not, Bool.not_true, ifB_false, lenS U_string, bin_gtr, ifB_dec]
  refine ⟨fun _ => ?_, fun hts => ?_⟩
  · rw [ifB_true, int_nn, ifB_true]
    exact fin _ _ h
  rw [int_nil, ifB_false]
  have hl60 := hf.len
  have hm40 := hfM.len
  refine LOOP_intro (fun x w' => ∃ (i : Nat) (y : IS), i ≤ L.length ∧ x = (.int .i64 i, ()) ∧ LiveI c y i ∧ Rel (lawB W) w' [cellD cb T_api_Config c.cs.toArray, intD p y]) (fun x _ => L.length - (match x.1 with | .int _ n => n.toNat | _ => 0))
    ⟨0, newS c knS, Nat.zero_le _, rfl, LiveI.start hc, h⟩ ?_
  clear h
  rintro x w8 ⟨i, y, hi, rfl, hy, h⟩ next hnext
  simp -zeta only [rowR.len r sl_s_api_Entry, bin_lss, ifB_dec]
  rw [hal]
  have hyn := hy.next
  have hyr := hy.refused
  refine ⟨fun hlt => ?_, fun hge => ?_⟩
  · have hil : i < L.length := by omega
    obtain ⟨go, oo, hx, hcl⟩ := rowR.idx r sl_s_api_Entry (P := Tryz.prog) (i := i) (by omega)
    have hel : (eraws L)[i]'(by omega) = L[i].1 := by simp [eraws]
    rw [hel] at hcl
    have hcl : cellsR go oo L[i].1.cs (lawB W) := hcl
    have hrow := q L[i] (List.getElem_mem hil)
    have hrl : L[i].2.length ≤ 4611686018427387904 := by have := (hf.each L[i] (List.getElem_mem hil)).1; omega
    generalize L[i] = en at hcl hrow hrl
    obtain ⟨e, rw_⟩ := en
    simp only at hcl hrow hrl
    simp -zeta only [hx, cellsR.ldAg (h.hereB hcl) ag_api_Entry rfl]
    refine h.act 1 rfl (fun B2 own base2 => apply_d (en := e) hy.good (by omega) (by omega) (base2 hrow) hrl hy.kl) fun u e' τ w9 hp h => ?_
    obtain ⟨rfl, rfl, rfl⟩ := hp
    rw [bin_add, wrap_id (by omega) (by omega)]
    exact hnext _ _ ⟨i + 1, _, hil, rfl, hy.step (by omega) e rw_, h⟩ (by simp only; omega)
  · clear hnext
    have h := h.tick
    rw [h.ldAg 0 rfl ag_api_Config rfl]
    refine h.make (fun B2 own base2 => known_m) fun u3 τ w9 hp h => ?_
    subst hp
    have h : Rel (lawB W) w9 [cellD cb T_api_Config c.cs.toArray, intD p y, knownD u3 knS] := h
    refine ⟨h.isAg 0 rfl ag_api_Config rfl, ?_⟩
    refine h.ask (fun B2 own base2 => iBytes_g (base2 hB) (own (i := 1) rfl) hy.fit) fun w10 h => ?_
    refine ⟨h.isAg 0 rfl ag_api_Config rfl, ?_⟩
    refine h.make (fun B2 own base2 => iRead_m (base2 hB) c (own (i := 2) rfl) knS_few (encIS_len hy.fit)) fun u4 τ w11 hp h => ?_
    rcases hp with ⟨_, s', a, hs', rfl, rfl⟩ | ⟨hno, _⟩
    case inr => have := hno hc; rw [hy.read] at this; cases this
    rw [hy.read] at hs'
    injection hs' with hs'
    subst hs'
    have h : Rel (lawB W) w11 [cellD cb T_api_Config c.cs.toArray, intD p y, knownD u3 knS, intD a y] := h
    simp -zeta only [ext_2_0, ext_2_1]
    refine h.make (fun B2 own base2 => Copy_m (own (i := 1) rfl) hy.good.prods (known_few hy.known)) fun z τ w12 hp h => ?_
    obtain ⟨z, rfl, rfl⟩ := hp
    have h := h.pick [0, 1, 3, 4] (by decide)
    have h : Rel (lawB W) w12 [cellD cb T_api_Config c.cs.toArray, intD p y, intD a y, intD z y] := h
    rw [un_not, Bool.not_true, ifB_false, int_nil, ifB_false, int_nil, ifB_false]
    refine LOOP_intro (fun x w' => ∃ (j : Nat) (y : IS), j ≤ M.length ∧ x = (.int .i64 j, ()) ∧ LiveI c y (60 + j) ∧ Rel (lawB W) w' [cellD cb T_api_Config c.cs.toArray, intD p y, intD a y, intD z y]) (fun x _ => M.length - (match x.1 with | .int _ n => n.toNat | _ => 0))
      ⟨0, y, Nat.zero_le _, rfl, ⟨hy.good, hy.fin, hy.cfg, hy.known, by omega, by omega⟩, h⟩ ?_
    clear h hy hyn hyr
    rintro x w13 ⟨j, y, hj, rfl, hy, h⟩ next hnext
    simp -zeta only [rowR.len rM sl_s_api_Entry, bin_lss, ifB_dec]
    rw [haM]
    have hyn := hy.next
    have hyr := hy.refused
    refine ⟨fun hlt => ?_, fun hge => ?_⟩
    · have hjl : j < M.length := by omega
      obtain ⟨go, oo, hx, hcl⟩ := rowR.idx rM sl_s_api_Entry (P := Tryz.prog) (i := j) (by omega)
      have hel : (eraws M)[j]'(by omega) = M[j].1 := by simp [eraws]
      rw [hel] at hcl
      have hcl : cellsR go oo M[j].1.cs (lawB W) := hcl
      have hrow := qM M[j] (List.getElem_mem hjl)
      have hrl : M[j].2.length ≤ 4611686018427387904 := by have := (hfM.each M[j] (List.getElem_mem hjl)).1; omega
      generalize M[j] = en at hcl hrow hrl
      obtain ⟨e, rw_⟩ := en
      simp only at hcl hrow hrl
      simp -zeta only [hx, cellsR.ldAg (h.hereB hcl) ag_api_Entry rfl]
      refine h.act 1 rfl (fun B2 own base2 => apply_d (en := e) hy.good (by omega) (by omega) (base2 hrow) hrl hy.kl) fun u e' τ w14 hp h => ?_
      obtain ⟨rfl, rfl, rfl⟩ := hp
      simp -zeta only [ext_2_0, ext_2_1, cellsR.ldAg (h.hereB hcl) ag_api_Entry rfl]
      refine h.act 2 rfl (fun B2 own base2 => apply_d (en := e) hy.good (by omega) (by omega) (base2 hrow) hrl hy.kl) fun u e' τ w15 hp h => ?_
      obtain ⟨rfl, rfl, rfl⟩ := hp
      simp -zeta only [ext_2_0, ext_2_1, cellsR.ldAg (h.hereB hcl) ag_api_Entry rfl]
      refine h.act 3 rfl (fun B2 own base2 => apply_d (en := e) hy.good (by omega) (by omega) (base2 hrow) hrl hy.kl) fun u e' τ w16 hp h => ?_
      obtain ⟨rfl, rfl, rfl⟩ := hp
      simp -zeta only [ext_2_0, ext_2_1, bin_neq, decide_true, Bool.not_true, ifB_false]
      rw [bin_add, wrap_id (by omega) (by omega)]
      have := hy.step (by omega) e rw_
      rw [show (60 : Int) + j + 1 = 60 + ((j + 1 : Nat) : Int) by omega] at this
      exact hnext _ _ ⟨j + 1, _, hjl, rfl, this, h⟩ (by simp only; omega)
    · clear hnext
      refine h.ask (fun B2 own base2 => iBytes_g (base2 hB) (own (i := 1) rfl) hy.fit) fun w14 h => ?_
      refine h.ask (fun B2 own base2 => iBytes_g (base2 hB) (own (i := 2) rfl) hy.fit) fun w15 h => ?_
      rw [neqS, decide_eq_true rfl, Bool.not_true, ifB_false]
      refine h.ask (fun B2 own base2 => iBytes_g (base2 hB) (own (i := 1) rfl) hy.fit) fun w16 h => ?_
      refine h.ask (fun B2 own base2 => iBytes_g (base2 hB) (own (i := 3) rfl) hy.fit) fun w17 h => ?_
      rw [neqS, decide_eq_true rfl, Bool.not_true, ifB_false]
      have h := h.take 1
      have h : Rel (lawB W) w17 [cellD cb T_api_Config c.cs.toArray] := h
      have h := h.tick
      rw [h.ldAg 0 rfl ag_api_Config rfl]
      refine h.make (fun B2 own base2 => known_m) fun u5 τ w18 hp h => ?_
      subst hp
      have h : Rel (lawB W) w18 [cellD cb T_api_Config c.cs.toArray, knownD u5 knS] := h
      refine ⟨h.isAg 0 rfl ag_api_Config rfl, ?_⟩
      refine h.make (fun B2 own base2 => iRead_m (base2 hB) c (own (i := 1) rfl) knS_few (t := t) (by omega)) fun u6 τ w19 hp h => ?_
      have hrd : ∃ (uv : Value) (b : Bool), u6 = .tuple #[uv, .bool b] ∧ b = (readIS c knS t).isSome ∧ ((b = true ∧ ∃ s p, readIS c knS t = some s ∧ uv = ptrI p ∧ τ = [intD p s]) ∨ (b = false ∧ uv = .pointer none ∧ τ = [])) := by
        rcases hp with ⟨_, s', a, hs', rfl, rfl⟩ | ⟨hno, rfl, rfl⟩
        · exact ⟨_, true, rfl, by rw [hs']; rfl, .inl ⟨rfl, s', a, hs', rfl, rfl⟩⟩
        · exact ⟨_, false, rfl, by rw [hno hc]; rfl, .inr ⟨rfl, rfl, rfl⟩⟩
      clear hp
      obtain ⟨uv, b, rfl, hbs, hp⟩ := hrd
      simp -zeta only [ext_2_0, ext_2_1]
      have h := h.tick
      have hld : readK Tryz.prog (sLoad T_api_Config (.pointer (some ⟨cb, 0, none⟩))) (tick w19) = fun K => K c.v := by
        funext K
        exact h.ldAg 0 rfl ag_api_Config rfl
      rw [hld]
      refine h.make (fun B2 own base2 => known_m) fun u7 τ2 w20 hp2 h => ?_
      subst hp2
      refine ⟨h.isAg 0 rfl ag_api_Config rfl, ?_⟩
      have hlast : ∀ {B2 : Base}, (∀ {i : Nat} {d : Dat}, ([cellD cb T_api_Config c.cs.toArray, knownD u5 knS] ++ τ ++ [knownD u7 knS])[i]? = some d → d B2) → knownD u7 knS B2 := fun own => own (i := ([cellD cb T_api_Config c.cs.toArray, knownD u5 knS] ++ τ).length) get_last
      refine h.make (fun B2 own base2 => fRead11_m c (hlast own) hc (t := t) (by omega)) fun u8 τ3 w21 hp3 h => ?_
      obtain ⟨qv, rfl⟩ := hp3
      have h := h.drop
      rw [← hbs]
      simp -zeta only [ext_2_0, ext_2_1]
      rw [bin_neq_bool U_bool, beq_self_eq_true, Bool.not_true, ifB_false]
      rcases hp with ⟨rfl, s', a2, hs', rfl, rfl⟩ | ⟨rfl, rfl, rfl⟩
      · rw [int_nn, bin_neq_bool U_bool, beq_self_eq_true, Bool.not_true, ifB_false, ifB_true, int_nil, ifB_false]
        obtain ⟨b1, b2, _⟩ := readIS_back hc hs'
        have h : Rel (lawB W) w21 [cellD cb T_api_Config c.cs.toArray, knownD u5 knS, intD a2 s', knownD u7 knS] := h
        refine h.ask (fun B2 own base2 => iBytes_g (base2 hB) (own (i := 2) rfl) b2) fun w22 h => ?_
        rw [eql_ofL, decide_eq_true b1]
        exact fin _ _ h
      · rw [nil_nn, bin_neq_bool U_bool, beq_self_eq_true, Bool.not_true, ifB_false, ifB_true, nil_nil, ifB_true]
        exact fin _ _ h
end Go.Proofs.YtefinemhfgdpdaaGreatDoor
