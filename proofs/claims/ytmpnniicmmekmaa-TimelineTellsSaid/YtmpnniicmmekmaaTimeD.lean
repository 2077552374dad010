/-
  Contracts of timelines' functions that chapter 45 asks: versions, Open, Same; the laws' small. No condition.
-/
import Derived.Test.YtmpnniicmmekmaaTimeC
namespace Go.Proofs.Ytmpnniicmmekmaa
open Go.RowKit
section
variable {B : Base}

theorem versions_m {v : Value} {t : List Seg} (r : rowR v t B) (hl : t.length ≤ 1000000) : Makes Try.prog B (sCall F_timeline_versions #[v]) fun u τ => τ = [rowD T_int u (versS t)] := by
  refine Makes.intro fun B' w K base h k => ?_
  replace r := base r
  refine timeline_versions.up (timeline_versions.call ?_)
  unfold timeline_versions.pt
  simp -zeta only [rowR.len r sl_s_api_Seg]
  refine LOOP_intro (fun x w' => ∃ (i : Nat) (v : Value), i ≤ t.length ∧ x = (v, .int .i64 i, ()) ∧ Rel B' w' [rowD T_int v ((t.take i).map (·.version))]) (fun x _ => t.length - (match x.2.1 with | .int _ n => n.toNat | _ => 0))
    ⟨0, _, Nat.zero_le _, rfl, h.addNil Int T_int⟩ ?_
  clear h
  rintro x w1 ⟨i, vv, hil, rfl, h⟩ next hnext
  have hlen : ((t.take i).map (·.version)).length = i := by simp; omega
  simp -zeta only [bin_lss, ifB_dec]
  refine ⟨fun hlt => ?_, fun hge => ?_⟩
  · have hi' : i < t.length := by omega
    obtain ⟨g, o, hx, hc⟩ := rowR.idx r sl_s_api_Seg hi'
    simp -zeta only [hx, cellsR.ldAg (h.hereB hc) ag_api_Seg rfl]
    refine h.allocAg (ds := t[i].cs.toArray) z_api_Seg rfl ag_api_Seg rfl (fun v hv => Enc.one t[i] v hv) fun b w2 h => ?_
    simp -zeta only [field_addr f_api_Seg_1, Nat.zero_add, h.ld 1 rfl sc_int (o := 1) rfl]
    refine h.push1 (α := Int) 0 rfl t[i].version sl_s_int (by decide) (by omega) (by omega) fun v2 w3 h => ?_
    rw [bin_add, wrap_id (by omega) (by omega)]
    have e : (t.take i).map (·.version) ++ [t[i].version] = (t.take (i + 1)).map (·.version) := by rw [List.take_succ_eq_append_getElem hi', List.map_append]; rfl
    have h := h.take 1
    have h : Rel B' w3 [rowD T_int v2 ((t.take i).map (·.version) ++ [t[i].version])] := h
    rw [e] at h
    exact hnext _ _ ⟨i + 1, v2, by omega, rfl, h⟩ (by simp only; omega)
  · clear hnext
    rw [List.take_of_length_le (by omega)] at h hlen
    refine h.act 0 rfl (fun B2 own base2 => SortInt_d (by omega)) fun u e' τ w2 hp h => ?_
    obtain ⟨rfl, rfl, rfl⟩ := hp
    have h : Rel B' w2 [rowD T_int vv (sortI (t.map (·.version)))] := h
    have hsl := sortI_length (t.map (·.version))
    refine h.act 0 rfl (fun B2 own base2 => CompactInt_d (by omega)) fun u e' τ w3 hp h => ?_
    obtain ⟨rfl, rfl⟩ := hp
    exact k _ _ _ rfl h

theorem tOpen_m {v : Value} {t : List Seg} (r : rowR v t B) (hs : Sorted t) (hl : t.length ≤ 1000000) {closed : Int} (hc : -9223372036854775808 ≤ closed) : Makes Try.prog B (sCall F_timeline_Open #[v, .int .i64 closed]) fun u τ => τ = [rowD T_int u (openS t closed)] := by
  refine Makes.intro fun B' w K base h k => ?_
  replace r := base r
  refine timeline_Open.up (timeline_Open.call ?_)
  unfold timeline_Open.pt
  simp -zeta only [blt_min, bin_add]
  rw [wrap_id (by omega) (by omega)]
  unfold openS at k
  generalize min closed 1099511627776 + 1 = time at k
  refine h.ask (fun B2 own base2 => behind_g (base2 r) hs (by omega) time) fun w1 h => ?_
  have hb := behindS_le t time
  have hlo : max (behindS t time) 1 - 1 ≤ t.length := by omega
  simp -zeta only [blt_max, bin_sub]
  rw [wrap_id (by omega) (by omega), show max (behindS t time : Int) 1 - 1 = ((max (behindS t time) 1 - 1 : Nat) : Int) by omega]
  rw [rowR.cutE r sl_s_api_Seg (lo := max (behindS t time) 1 - 1) (hi := t.length) Bnd.some Bnd.none hlo (Nat.le_refl _)]
  have hcut := rowR.cutR r (lo := max (behindS t time) 1 - 1) (hi := t.length) hlo (Nat.le_refl _)
  rw [List.take_length] at hcut
  refine h.make (fun B2 own base2 => versions_m (base2 hcut) (by simp; omega)) fun u τ w2 hp h => ?_
  exact k _ _ _ hp h

theorem Equal_g {va vb : Value} {a b : List Seg} (ra : rowR va a B) (rb : rowR vb b B) (hl : a.length ≤ 1000000000) : Gives Try.prog B (sCall F_slices_Equal_s_api_Seg_api_Seg #[va, vb]) (.bool (decide (a = b))) := by
  refine Gives.intro fun B' w K base h k => ?_
  replace ra := base ra
  replace rb := base rb
  refine slices_Equal_s_api_Seg_api_Seg.up (slices_Equal_s_api_Seg_api_Seg.call ?_)
  unfold slices_Equal_s_api_Seg_api_Seg.pt
  have no : ∀ w', Rel B' w' [] → a ≠ b → K (.bool false) w' := fun w' h hn => by
    rw [decide_eq_false hn] at k
    exact k _ _ h
  simp -zeta only [rowR.len ra sl_s_api_Seg, rowR.len rb sl_s_api_Seg, bin_neq, ifB_not, ifB_dec]
  refine ⟨fun hlen => ?_, fun hlen => no _ h fun e => hlen (by rw [e])⟩
  have hlen : a.length = b.length := by omega
  refine LOOP_intro (fun x w' => ∃ i : Nat, i ≤ a.length ∧ x = (.int .i64 i, ()) ∧ (∀ q (h1 : q < a.length) (h2 : q < b.length), q < i → a[q] = b[q]) ∧ Rel B' w' []) (fun x _ => a.length - (match x.1 with | .int _ n => n.toNat | _ => 0))
    ⟨0, Nat.zero_le _, rfl, fun q _ _ hq => absurd hq (Nat.not_lt_zero q), h⟩ ?_
  clear h
  rintro x w1 ⟨i, hil, rfl, hin, h⟩ next hnext
  simp -zeta only [bin_lss, ifB_dec]
  refine ⟨fun hlt => ?_, fun hge => ?_⟩
  · have h1 : i < a.length := by omega
    have h2 : i < b.length := by omega
    have h := h.tick
    obtain ⟨g, o, hx, hc⟩ := rowR.idx ra sl_s_api_Seg h1
    obtain ⟨g2, o2, hx2, hc2⟩ := rowR.idx rb sl_s_api_Seg h2
    have hc : cellsR g o a[i].cs B' := hc
    have hc2 : cellsR g2 o2 b[i].cs B' := hc2
    simp -zeta only [hx, hx2, cellsR.ldAg (h.hereB hc) ag_api_Seg rfl, cellsR.ldAg (h.hereB hc2) ag_api_Seg rfl]
    rw [neq_api_Seg a[i] b[i], ifB_not, ifB_dec]
    refine ⟨fun e => ?_, fun e => no _ h fun hab => e (by subst hab; rfl)⟩
    rw [bin_add, wrap_id (by omega) (by omega)]
    refine hnext _ _ ⟨i + 1, by omega, rfl, fun q q1 q2 q3 => ?_, h⟩ (by simp only; omega)
    by_cases eq : q = i
    · subst eq; exact e
    · exact hin q q1 q2 (by omega)
  · have : a = b := List.ext_getElem hlen fun q q1 q2 => hin q q1 q2 (by omega)
    rw [decide_eq_true this] at k
    exact k _ _ h
theorem Same_g {va vb : Value} {a b : List Seg} (ra : rowR va a B) (rb : rowR vb b B) (hl : a.length ≤ 1000000000) : Gives Try.prog B (sCall F_timeline_Same #[va, vb]) (.bool (decide (a = b))) := by
  refine Gives.intro fun B' w K base h k => ?_
  replace ra := base ra
  replace rb := base rb
  refine timeline_Same.up (timeline_Same.call ?_)
  unfold timeline_Same.pt
  exact h.ask (fun B2 own base2 => Equal_g (base2 ra) (base2 rb) hl) fun w1 h => k _ _ h

theorem SameInts_g {va vb : Value} {a b : List Int} (ra : rowR va a B) (rb : rowR vb b B) (hl : a.length ≤ 1000000000) : Gives Try.prog B (sCall F_errataref45_SameInts #[va, vb]) (.bool (decide (a = b))) := by
  refine Gives.intro fun B' w K base h k => ?_
  replace ra := base ra
  replace rb := base rb
  refine errataref45_SameInts.up (errataref45_SameInts.call ?_)
  unfold errataref45_SameInts.pt
  have no : ∀ w', Rel B' w' [] → a ≠ b → K (.bool false) w' := fun w' h hn => by
    rw [decide_eq_false hn] at k
    exact k _ _ h
  simp -zeta only [rowR.len ra sl_s_int, rowR.len rb sl_s_int, bin_neq, ifB_not, ifB_dec]
  refine ⟨fun hlen => ?_, fun hlen => no _ h fun e => hlen (by rw [e])⟩
  have hlen : a.length = b.length := by omega
  refine LOOP_intro (fun x w' => ∃ i : Nat, i ≤ a.length ∧ x = (.int .i64 i, ()) ∧ (∀ q (h1 : q < a.length) (h2 : q < b.length), q < i → a[q] = b[q]) ∧ Rel B' w' []) (fun x _ => a.length - (match x.1 with | .int _ n => n.toNat | _ => 0))
    ⟨0, Nat.zero_le _, rfl, fun q _ _ hq => absurd hq (Nat.not_lt_zero q), h⟩ ?_
  clear h
  rintro x w1 ⟨i, hil, rfl, hin, h⟩ next hnext
  simp -zeta only [bin_lss, ifB_dec]
  refine ⟨fun hlt => ?_, fun hge => ?_⟩
  · have h1 : i < a.length := by omega
    have h2 : i < b.length := by omega
    have h := h.tick
    obtain ⟨g, o, hx, hc⟩ := rowR.idx ra sl_s_int h1
    obtain ⟨g2, o2, hx2, hc2⟩ := rowR.idx rb sl_s_int h2
    simp -zeta only [hx, hx2, cellsR.ld0 (h.hereB hc) sc_int rfl, cellsR.ld0 (h.hereB hc2) sc_int rfl, bin_neq, ifB_not, ifB_dec]
    refine ⟨fun e => ?_, fun e => no _ h fun hab => e (by subst hab; rfl)⟩
    rw [bin_add, wrap_id (by omega) (by omega)]
    refine hnext _ _ ⟨i + 1, by omega, rfl, fun q q1 q2 q3 => ?_, h⟩ (by simp only; omega)
    by_cases eq : q = i
    · subst eq; exact e
    · exact hin q q1 q2 (by omega)
  · have : a = b := List.ext_getElem hlen fun q q1 q2 => hin q q1 q2 (by omega)
    rw [decide_eq_true this] at k
    exact k _ _ h

theorem begun_inv {v : Int} (h : 1 ≤ v ∧ v ≤ 50) : TInv [⟨0, v⟩] := by
  refine ⟨by simp, fun _ => rfl, fun s hs => ?_, List.pairwise_singleton _ _, fun i hi => by simp at hi⟩
  simp only [List.mem_cons, List.not_mem_nil, or_false] at hs
  subst hs
  exact ⟨by show (0 : Int) ≤ _; omega, h⟩
theorem begun_m (v : Int) : Makes Try.prog B (sCall F_erratalaw45_begun #[.int .i64 v]) fun u τ => τ = [rowD T_api_Seg u [(⟨0, v⟩ : Seg)]] := by
  refine Makes.intro fun B' w K base h k => ?_
  refine erratalaw45_begun.up (erratalaw45_begun.call ?_)
  unfold erratalaw45_begun.pt
  simp -zeta only [bd_api_Seg_0_1]
  exact h.build1 (⟨0, v⟩ : Seg) sl_s_api_Seg (by decide) fun vt w1 h => k _ _ _ rfl h
end
end Go.Proofs.Ytmpnniicmmekmaa
