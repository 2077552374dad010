/-
  Contracts of what is needed: the versions of a stretch of the timeline, and those of the open replacements. No condition.
-/
import Derived.Test.YtdecfgbdppfmcaaRepG
import Derived.Test.YtdecfgbdppfmcaaSort1
namespace Go.Proofs.Ytdecfgbdppfmcaa
open Go.RowKit
section
variable {B : Base}

theorem versions_m {v : Value} {t : List Seg} (r : rowR v t B) (hl : t.length ≤ 1000000) : Makes Try.prog B (sCall F_timeline_versions #[v]) fun u τ => ∃ L : List Int, τ = [rowD T_int u L] ∧ L.length ≤ t.length := by
  refine Makes.intro fun B' w K base h k => ?_
  replace r := base r
  refine timeline_versions.up (timeline_versions.call ?_)
  unfold timeline_versions.pt
  simp -zeta only [rowR.len r sl_s_api_Seg]
  refine LOOP_intro (fun x w' => ∃ (i : Nat) (v : Value) (L : List Int), i ≤ t.length ∧ x = (v, .int .i64 i, ()) ∧ L.length = i ∧ Rel B' w' [rowD T_int v L]) (fun x _ => t.length - (match x.2.1 with | .int _ n => n.toNat | _ => 0))
    ⟨0, _, [], Nat.zero_le _, rfl, rfl, h.addNil Int T_int⟩ ?_
  clear h
  rintro x w1 ⟨i, vv, L, hil, rfl, hL, h⟩ next hnext
  simp -zeta only [bin_lss, ifB_dec]
  refine ⟨fun hlt => ?_, fun hge => ?_⟩
  · have hi' : i < t.length := by omega
    obtain ⟨g, o, hx, hc⟩ := rowR.idx r sl_s_api_Seg hi'
    simp -zeta only [hx, cellsR.ldAg (h.hereB hc) ag_api_Seg rfl]
    refine h.allocAg (ds := t[i].cs.toArray) z_api_Seg rfl ag_api_Seg rfl (fun v hv => Enc.one t[i] v hv) fun b w2 h => ?_
    simp -zeta only [field_addr f_api_Seg_1, Nat.zero_add, h.ld 1 rfl sc_int (o := 1) rfl]
    refine h.push1 (α := Int) 0 rfl t[i].version sl_s_int (by decide) (by omega) (by omega) fun v2 w3 h => ?_
    rw [bin_add, wrap_id (by omega) (by omega)]
    exact hnext _ _ ⟨i + 1, v2, L ++ [t[i].version], by omega, rfl, by rw [List.length_append, List.length_singleton]; omega, h.take 1⟩ (by simp only; omega)
  · clear hnext
    refine h.act 0 rfl (fun B2 own base2 => SortInt_d (by omega)) fun u e' τ w2 hp h => ?_
    obtain ⟨rfl, rfl, rfl⟩ := hp
    have h : Rel B' w2 [rowD T_int vv (sortI L)] := h
    have hsl := sortI_length L
    refine h.act 0 rfl (fun B2 own base2 => CompactInt_d (by omega)) fun u e' τ w3 hp h => ?_
    obtain ⟨rfl, rfl⟩ := hp
    have := Lib.compact_length_le (sortI L)
    exact k _ _ _ ⟨_, rfl, by omega⟩ h

theorem tOpen_m {v : Value} {t : List Seg} (r : rowR v t B) (hs : Sorted t) (hl : t.length ≤ 1000000) (closed : Int) : Makes Try.prog B (sCall F_timeline_Open #[v, .int .i64 closed]) fun u τ => ∃ L : List Int, τ = [rowD T_int u L] ∧ L.length ≤ t.length := by
  refine Makes.intro fun B' w K base h k => ?_
  replace r := base r
  refine timeline_Open.up (timeline_Open.call ?_)
  unfold timeline_Open.pt
  simp -zeta only [blt_min, bin_add]
  generalize IntKind.i64.wrap (min closed 1099511627776 + 1) = time
  refine h.ask (fun B2 own base2 => behind_g (base2 r) hs (by omega) time) fun w1 h => ?_
  have hb := behindS_le t time
  by_cases ht : t = []
  · subst ht
    have hb0 : behindS [] time = 0 := rfl
    rw [hb0]
    simp -zeta only [blt_max, bin_sub]
    rw [wrap_id (by omega) (by omega), show max ((0 : Nat) : Int) 1 - 1 = ((0 : Nat) : Int) by decide]
    rw [rowR.cutE r sl_s_api_Seg (lo := 0) (hi := 0) Bnd.some Bnd.none (Nat.zero_le _) (Nat.zero_le _)]
    have hcut := rowR.cutR r (lo := 0) (hi := 0) (Nat.zero_le _) (Nat.zero_le _)
    refine h.make (fun B2 own base2 => versions_m (base2 hcut) (by simp)) fun u τ w2 hp h => ?_
    obtain ⟨L, rfl, hL⟩ := hp
    exact k _ _ _ ⟨L, rfl, by simpa using hL⟩ h
  · have hlen : 0 < t.length := List.length_pos_iff.2 ht
    simp -zeta only [blt_max, bin_sub]
    rw [wrap_id (by omega) (by omega), show max (behindS t time : Int) 1 - 1 = ((max (behindS t time) 1 - 1 : Nat) : Int) by omega]
    rw [rowR.cutE r sl_s_api_Seg (lo := max (behindS t time) 1 - 1) (hi := t.length) Bnd.some Bnd.none (by omega) (Nat.le_refl _)]
    have hcut := rowR.cutR r (lo := max (behindS t time) 1 - 1) (hi := t.length) (by omega) (Nat.le_refl _)
    refine h.make (fun B2 own base2 => versions_m (base2 hcut) (by simp; omega)) fun u τ w2 hp h => ?_
    obtain ⟨L, rfl, hL⟩ := hp
    refine k _ _ _ ⟨L, rfl, Nat.le_trans hL (by simp)⟩ h

theorem Needed_m {vl vt : Value} {l : List Rpl} {t : List Seg} (rl : rowR vl l B) (rt : rowR vt t B) (hl : l.length ≤ 100000) (hs : Sorted t) (htl : t.length ≤ 100000) (closed : Int) :
    Makes Try.prog B (sCall F_replace_Needed #[vl, vt, .int .i64 closed]) fun u τ => ∃ L : List Int, τ = [rowD T_int u L] ∧ L.length ≤ t.length + l.length ∧ ∀ r ∈ l, openR r = true → r.version ∈ L := by
  refine Makes.intro fun B' w K base h k => ?_
  replace rl := base rl
  replace rt := base rt
  refine replace_Needed.up (replace_Needed.call ?_)
  unfold replace_Needed.pt
  refine h.make (fun B2 own base2 => tOpen_m (base2 rt) hs (by omega) closed) fun u0 τ w1 hp h => ?_
  obtain ⟨L0, rfl, hL0⟩ := hp
  have h : Rel B' w1 [rowD T_int u0 L0] := h
  refine h.make (fun B2 own base2 => Open_m (base2 rl) (by omega)) fun u1 τ w2 hp h => ?_
  subst hp
  have h : Rel B' w2 ([rowD T_int u0 L0] ++ [rowD T_api_Replacement u1 (l.filter openR)]) := h
  obtain ⟨B2, hext, h, hrow⟩ := h.frz1
  have hr := rowD.read hrow
  have hfl : (l.filter openR).length ≤ l.length := List.length_filter_le _ _
  have hmem : ∀ r ∈ l, openR r = true → r ∈ l.filter openR := fun r h1 h2 => List.mem_filter.2 ⟨h1, h2⟩
  generalize l.filter openR = F at hr hfl hmem
  clear hrow
  simp -zeta only [rowR.len hr sl_s_api_Replacement]
  refine LOOP_intro (fun x w' => ∃ (i : Nat) (v : Value) (L : List Int), i ≤ F.length ∧ x = (v, .int .i64 i, ()) ∧ L.length ≤ t.length + i ∧ (∀ q (hq : q < F.length), q < i → F[q].version ∈ L) ∧ Rel B2 w' [rowD T_int v L]) (fun x _ => F.length - (match x.2.1 with | .int _ n => n.toNat | _ => 0))
    ⟨0, _, L0, Nat.zero_le _, rfl, hL0, fun q _ hq => absurd hq (Nat.not_lt_zero q), h⟩ ?_
  clear h
  rintro x w3 ⟨i, vv, L, hil, rfl, hL, hin, h⟩ next hnext
  simp -zeta only [bin_lss, ifB_dec]
  refine ⟨fun hlt => ?_, fun hge => ?_⟩
  · have hi' : i < F.length := by omega
    obtain ⟨g, o, hx, hc⟩ := rowR.idx hr sl_s_api_Replacement hi'
    simp -zeta only [hx, cellsR.ldAg (h.hereB hc) ag_api_Replacement rfl]
    refine h.allocAg (ds := F[i].cs.toArray) z_api_Replacement rfl ag_api_Replacement rfl (fun v hv => Enc.one F[i] v hv) fun b w4 h => ?_
    simp -zeta only [field_addr f_api_Replacement_2, Nat.zero_add, h.ld 1 rfl sc_int (o := 2) rfl]
    refine h.push1 (α := Int) 0 rfl F[i].version sl_s_int (by decide) (by omega) (by omega) fun v2 w5 h => ?_
    rw [bin_add, wrap_id (by omega) (by omega)]
    refine hnext _ _ ⟨i + 1, v2, L ++ [F[i].version], by omega, rfl, by rw [List.length_append, List.length_singleton]; omega, fun q hq hqi => ?_, h.take 1⟩ (by simp only; omega)
    by_cases e : q = i
    · subst e; exact List.mem_append_right _ List.mem_cons_self
    · exact List.mem_append_left _ (hin q hq (by omega))
  · clear hnext
    refine h.act 0 rfl (fun B2 own base2 => SortInt_d (by omega)) fun u e' τ w4 hp h => ?_
    obtain ⟨rfl, rfl, rfl⟩ := hp
    have h : Rel B2 w4 [rowD T_int vv (sortI L)] := h
    have hsl := sortI_length L
    refine h.act 0 rfl (fun B2 own base2 => CompactInt_d (by omega)) fun u e' τ w5 hp h => ?_
    obtain ⟨rfl, rfl⟩ := hp
    have := Lib.compact_length_le (sortI L)
    refine k _ _ _ ⟨_, rfl, by omega, fun r hr1 hr2 => ?_⟩ (hext.rel h)
    obtain ⟨q, hq, e⟩ := List.getElem_of_mem (hmem r hr1 hr2)
    refine compact_mem (sortI_mem.2 ?_)
    rw [← e]
    exact hin q hq (by omega)
end
end Go.Proofs.Ytdecfgbdppfmcaa
