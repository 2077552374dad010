/-
  ProducerBack: the walk. No condition.
-/
import Derived.Test.YtppnebcpalialaaDoorProO
import Derived.Test.YtppnebcpalialaaDoorArgs
namespace Go.Proofs.YtppnebcpalialaaDoor
open Go.RowKit
set_option maxRecDepth 100000

theorem open_tab {W : World} : ∀ {l : List PrD}, (∀ x ∈ l, ok_api_Producer W x) → ∃ L : PrL, praws L = l ∧ prows L (lawB W) ∧ ∀ p ∈ L, p.1.last.length ≤ maxLen
  | [], _ => ⟨[], rfl, fun x hx => (by cases hx), fun x hx => (by cases hx)⟩
  | x :: l, hq => by
    obtain ⟨L, h1, h2, h3⟩ := open_tab (l := l) fun y hy => hq y (List.mem_cons_of_mem _ hy)
    obtain ⟨_, _, _, ls, hr, hm, _⟩ := hq x List.mem_cons_self
    refine ⟨(⟨x.id, x.epoch, x.next, ls⟩, x.last) :: L, ?_, fun y hy => ?_, fun y hy => ?_⟩
    · show _ :: praws L = _
      rw [h1]
    · rcases List.mem_cons.1 hy with rfl | hy
      · exact hr
      · exact h2 y hy
    · rcases List.mem_cons.1 hy with rfl | hy
      · exact hm
      · exact h3 y hy
set_option maxHeartbeats 1000000 in
theorem producerBack_pt {W : World} (hB : wireD (lawB W)) {v : Value} {l : List PrD} {text : ByteArray} {e : D_api_Entry} {pos : Int} (r0 : rowR v l (lawB W)) (_ : l.length ≤ maxLen) (hq : ∀ x ∈ l, ok_api_Producer W x) (_ : text.size ≤ maxLen)
    {K : Value → World → Prop} (fin : ∀ w' σ, Rel (lawB W) w' σ → K (.bool true) w') : erratalaw10_ProducerBack.pt v (.string text) e.v (.int .i64 pos) W K := by
  obtain ⟨L, hL, q, hll⟩ := open_tab hq
  have r : rowR v (praws L) (lawB W) := by rw [hL]; exact r0
  unfold erratalaw10_ProducerBack.pt
  have h := lawB.start W
  refine h.box fun e6 w1 h => ?_
  have h : Rel (lawB W) w1 [cellD e6 T_api_Entry e.cs.toArray] := h
  refine small_r h fun w2 h => ?_
  refine few_r r q h (fun w3 hf h => ?_) fun w3 h => by rw [un_not, Bool.not_false, ifB_true]; exact fin _ _ h
  rw [un_not, Bool.not_true, ifB_false]
  have hf1 := hf.each
  have hf2 := hf.len
  simp -zeta only [len_string U_string, bin_gtr, ifB_dec]
  refine ⟨fun _ => fin _ _ h, fun ht => ?_⟩
  obtain ⟨t, rfl⟩ : ∃ t : Bs, text = ofL t := ⟨bl text, (ofL_bl text).symm⟩
  rw [ofL_size] at ht
  refine h.make (fun B2 own base2 => tabRead_m (base2 hB) (t := t) (by omega)) fun u τ w4 hp h => ?_
  have main : ∀ w', Rel (lawB W) w' [cellD e6 T_api_Entry e.cs.toArray] →
      upK Tryd.prog (sCall F_errataref10_Right #[v]) w' fun t55 w6 =>
     pureK Tryd.prog (sUn .not t55) fun t56 =>
     ifB t56
     (K (.bool true) w6)
     (upK Tryd.prog (sCall F_producer_Bytes #[v]) w6 fun t59 w7 =>
      readK Tryd.prog (sLoad T_api_Entry (.pointer (some ⟨e6, 0, none⟩))) w7 fun t61 =>
      upK Tryd.prog (sCall F_producer_Put #[v, t61, .int .i64 pos]) w7 fun t63 w8 =>
      upK Tryd.prog (sCall F_producer_Read #[t59]) w8 fun t66 w9 =>
      pureK Tryd.prog (sExtract t66 0) fun t67 =>
      pureK Tryd.prog (sExtract t66 1) fun t68 =>
      readK Tryd.prog (sLoad T_api_Entry (.pointer (some ⟨e6, 0, none⟩))) w9 fun t71 =>
      upK Tryd.prog (sCall F_producer_Look #[v, t71]) w9 fun t72 w10 =>
      pureK Tryd.prog (sExtract t72 0) fun t73 =>
      pureK Tryd.prog (sExtract t72 1) fun t74 =>
      pureK Tryd.prog (sUn .not t68) fun t76 =>
      ifB t76
      (K (.bool false) w10)
      (upK Tryd.prog (sCall F_producer_Same #[t67, v]) w10 fun t80 w11 =>
       pureK Tryd.prog (sUn .not t80) fun t81 =>
       ifB t81
       (K (.bool false) w11)
       (upK Tryd.prog (sCall F_producer_Bytes #[v]) w11 fun t85 w12 =>
        pureK Tryd.prog (sBin .neq T_string (.tmp 85) (.tmp 86) t85 t59) fun t87 =>
        ifB t87
        (K (.bool false) w12)
        (ifB (.bool true)
         (pureK Tryd.prog (sBin .eql T_api_Errno (.tmp 91) (.const (.int .i64 0)) t74 (.int .i64 0)) fun t92 =>
          ifB t92
          (K (.bool true) w12)
          (upK Tryd.prog (sCall F_producer_Same #[t63, v]) w12 fun t96 w13 =>
           K t96 w13))
         (K (.bool false) w12))))) := by
    intro w' h
    refine h.ask (fun B2 own base2 => RRight_g (base2 r) (base2 q) (by omega) (fun p hp => by have := hf1 p hp; omega)) fun w6 h => ?_
    rw [un_not, ifB_not, ifB_bool]
    refine ⟨fun cr => ?_, fun _ => fin _ _ h⟩
    have hR := rightB_true.1 cr
    have hel := encTab_len hR
    refine h.ask (fun B2 own base2 => tabBytes_g (base2 hB) (base2 r) (base2 q) hR) fun w7 h => ?_
    rw [h.ldAg 0 rfl ag_api_Entry rfl]
    refine h.make (fun B2 own base2 => Put_o (base2 r) (base2 q) hR e pos) fun u τ w8 hp h => ?_
    have h := hp _ _ [cellD e6 T_api_Entry e.cs.toArray] h
    have h : Rel (lawB W) w8 [cellD e6 T_api_Entry e.cs.toArray, tabD u (putS (prs L) e.producer e.epoch e.seq pos)] := h
    refine h.make (fun B2 own base2 => tabRead_m (base2 hB) (t := encTab (prs L)) (by omega)) fun x τ w9 hp2 h => ?_
    rcases hp2 with ⟨s', y, hok, rfl, hy⟩ | ⟨hn, _⟩
    case inr => exact absurd (tab_ok hR) (hn _)
    obtain rfl := tab_uniq hR hok
    have h := hy _ _ [cellD e6 T_api_Entry e.cs.toArray, tabD u (putS (prs L) e.producer e.epoch e.seq pos)] h
    have h : Rel (lawB W) w9 [cellD e6 T_api_Entry e.cs.toArray, tabD u (putS (prs L) e.producer e.epoch e.seq pos), tabD y (prs L)] := h
    simp -zeta only [ext_2_0, ext_2_1]
    rw [h.ldAg 0 rfl ag_api_Entry rfl]
    refine h.ask (fun B2 own base2 => Look_g (base2 r) (base2 q) hR e) fun w10 h => ?_
    simp -zeta only [ext_2_0, ext_2_1]
    rw [un_not, Bool.not_true, ifB_false]
    refine h.ask (v := .bool true) (fun B2 own base2 => ?_) fun w11 h => ?_
    · obtain ⟨Ly, hLy, ry, qy⟩ : tabD y (prs L) B2 := own (i := 2) rfl
      exact Same_g ry qy (base2 r) (base2 q) hLy (by rw [hLy]; exact hR)
    rw [un_not, Bool.not_true, ifB_false]
    refine h.ask (fun B2 own base2 => tabBytes_g (base2 hB) (base2 r) (base2 q) hR) fun w12 h => ?_
    rw [neq_str, decide_eq_true rfl, Bool.not_true, ifB_false, ifB_true, bin_eql, ifB_dec]
    refine ⟨fun _ => fin _ _ h, fun hne => ?_⟩
    have hput : putS (prs L) e.producer e.epoch e.seq pos = prs L := by unfold putS; rw [if_pos hne]
    rw [hput] at h
    refine h.ask (v := .bool true) (fun B2 own base2 => ?_) fun w13 h => fin _ _ h
    obtain ⟨Lu, hLu, ru, qu⟩ : tabD u (prs L) B2 := own (i := 1) rfl
    exact Same_g ru qu (base2 r) (base2 q) hLu (by rw [hLu]; exact hR)
  rcases hp with ⟨s', x, hok, rfl, hx⟩ | ⟨hn, rfl, rfl⟩
  · simp -zeta only [ext_2_0, ext_2_1]
    refine LETJ_intro fun J1 hJ1 => ?_
    replace hJ1 : ∀ w' τ, Rel (lawB W) w' ([cellD e6 T_api_Entry e.cs.toArray] ++ τ) → J1 () w' := fun w' τ h => hJ1 _ _ (main w' h.drop)
    have h := hx _ _ [cellD e6 T_api_Entry e.cs.toArray] h
    have h : Rel (lawB W) w4 [cellD e6 T_api_Entry e.cs.toArray, tabD x s'] := h
    obtain ⟨hR', he', _, _⟩ := hok
    rw [ifB_true]
    refine h.ask (v := .string (ofL (encTab s'))) (fun B2 own base2 => ?_) fun w14 h => ?_
    · obtain ⟨Lx, hLx, rx, qx⟩ : tabD x s' B2 := own (i := 1) rfl
      subst hLx
      exact tabBytes_g (base2 hB) rx qx hR'
    rw [he', neq_str, decide_eq_true rfl, Bool.not_true, ifB_false]
    refine h.ask (v := .bool true) (fun B2 own base2 => ?_) fun w15 h => ?_
    · obtain ⟨Lx, hLx, rx, qx⟩ : tabD x s' B2 := own (i := 1) rfl
      subst hLx
      have hl := hR'.len
      rw [List.length_map] at hl
      have := Right_g rx qx (by omega) fun p hp => by have := (hR'.fine p.1 (List.mem_map_of_mem hp)).len; omega
      rw [rightB_true.2 hR'] at this
      exact this
    rw [un_not, Bool.not_true, ifB_false, un_not, Bool.not_true, ifB_false]
    exact hJ1 _ [tabD x s'] h
  · simp -zeta only [ext_2_0, ext_2_1]
    refine LETJ_intro fun J1 hJ1 => ?_
    replace hJ1 : ∀ w' τ, Rel (lawB W) w' ([cellD e6 T_api_Entry e.cs.toArray] ++ τ) → J1 () w' := fun w' τ h => hJ1 _ _ (main w' h.drop)
    rw [ifB_false, un_not, Bool.not_false, ifB_true, len_slice U_s_api_Producer, bin_neq]
    rw [decide_eq_true (by rfl), Bool.not_true, ifB_false]
    exact hJ1 _ [] h
end Go.Proofs.YtppnebcpalialaaDoor
