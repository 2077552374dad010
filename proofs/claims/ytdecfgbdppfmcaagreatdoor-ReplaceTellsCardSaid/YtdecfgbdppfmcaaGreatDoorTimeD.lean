/-
  Contracts of timelines' functions that chapter 45 asks: versions, Open, Same; the laws' small. No condition.
-/
import Derived.Test.YtdecfgbdppfmcaaGreatDoorTimeC
namespace Go.Proofs.YtdecfgbdppfmcaaGreatDoor
open Go.RowKit
set_option maxRecDepth 100000
section
variable {B : Base}

theorem versions_m {v : Value} {t : List Seg} (r : rowR v t B) (hl : t.length ≤ 1000000) : Makes Tryz.prog B (sCall F_timeline_versions #[v]) fun u τ => τ = [rowD T_int u (versS t)] := by
  refine Makes.intro fun B' w K base h k => ?_
  replace r := base r
  refine timeline_versions.up (timeline_versions.call ?_)
  unfold timeline_versions.pt
  simp -zeta only [rowR.len r sl_s_api_Seg]
  refine LOOP_intro (fun x w' => ∃ (i : Nat) (v : Value), i ≤ t.length ∧ x = (v, .int .i64 i, ()) ∧ Rel B' w' [rowD T_int v ((t.take i).map (·.version))]) (fun x _ => t.length - (match x.2.1 with | .int _ n => n.toNat | _ => 0))
    ⟨0, _, Nat.zero_le _, rfl, h.addNil Int T_int⟩ ?_
  clear h
  rintro x w1 ⟨i, vv, hil, rfl, h⟩ next hnext
  have hlen : ((t.take i).map (·.version)).length = i := by simp; omega
  simp -zeta only [bin_lss, ifB_dec]
  refine ⟨fun hlt => ?_, fun hge => ?_⟩
  · have hi' : i < t.length := by omega
    obtain ⟨g, o, hx, hc⟩ := rowR.idx r sl_s_api_Seg hi'
    simp -zeta only [hx, cellsR.ldAg (h.hereB hc) ag_api_Seg rfl]
    refine h.allocAg (ds := t[i].cs.toArray) z_api_Seg rfl ag_api_Seg rfl (fun v hv => Enc.one t[i] v hv) fun b w2 h => ?_
    simp -zeta only [field_addr f_api_Seg_1, Nat.zero_add, h.ld 1 rfl sc_int (o := 1) rfl]
    refine h.push1 (α := Int) 0 rfl t[i].version sl_s_int (by decide) (by omega) (by omega) fun v2 w3 h => ?_
    rw [bin_add, wrap_id (by omega) (by omega)]
    have e : (t.take i).map (·.version) ++ [t[i].version] = (t.take (i + 1)).map (·.version) := by rw [List.take_succ_eq_append_getElem hi', List.map_append]; rfl
    have h := h.take 1
    have h : Rel B' w3 [rowD T_int v2 ((t.take i).map (·.version) ++ [t[i].version])] := h
    rw [e] at h
    exact hnext _ _ ⟨i + 1, v2, by omega, rfl, h⟩ (by simp only; omega)
  · clear hnext
    rw [List.take_of_length_le (by omega)] at h hlen
    refine h.act 0 rfl (fun B2 own base2 => SortInt_d (by omega)) fun u e' τ w2 hp h => ?_
    obtain ⟨rfl, rfl, rfl⟩ := hp
    have h : Rel B' w2 [rowD T_int vv (sortI (t.map (·.version)))] := h
    have hsl := sortI_length (t.map (·.version))
    refine h.act 0 rfl (fun B2 own base2 => CompactInt_d (by omega)) fun u e' τ w3 hp h => ?_
    obtain ⟨rfl, rfl⟩ := hp
    exact k _ _ _ rfl h

theorem tOpen_m {v : Value} {t : List Seg} (r : rowR v t B) (hs : Sorted t) (hl : t.length ≤ 1000000) {closed : Int} (hc : -9223372036854775808 ≤ closed) : Makes Tryz.prog B (sCall F_timeline_Open #[v, .int .i64 closed]) fun u τ => τ = [rowD T_int u (openS t closed)] := by
  refine Makes.intro fun B' w K base h k => ?_
  replace r := base r
  refine timeline_Open.up (timeline_Open.call ?_)
  unfold timeline_Open.pt
  simp -zeta only [blt_min, bin_add]
  rw [wrap_id (by omega) (by omega)]
  unfold openS at k
  generalize min closed 1099511627776 + 1 = time at k
  refine h.ask (fun B2 own base2 => behind_g (base2 r) hs (by omega) time) fun w1 h => ?_
  have hb := behindS_le t time
  have hlo : max (behindS t time) 1 - 1 ≤ t.length := by omega
  simp -zeta only [blt_max, bin_sub]
  rw [wrap_id (by omega) (by omega), show max (behindS t time : Int) 1 - 1 = ((max (behindS t time) 1 - 1 : Nat) : Int) by omega]
  rw [rowR.cutE r sl_s_api_Seg (lo := max (behindS t time) 1 - 1) (hi := t.length) Bnd.some Bnd.none hlo (Nat.le_refl _)]
  have hcut := rowR.cutR r (lo := max (behindS t time) 1 - 1) (hi := t.length) hlo (Nat.le_refl _)
  rw [List.take_length] at hcut
  refine h.make (fun B2 own base2 => versions_m (base2 hcut) (by simp; omega)) fun u τ w2 hp h => ?_
  exact k _ _ _ hp h

theorem begun_inv {v : Int} (h : 1 ≤ v ∧ v ≤ 50) : TInv [⟨0, v⟩] := by
  refine ⟨by simp, fun _ => rfl, fun s hs => ?_, List.pairwise_singleton _ _, fun i hi => by simp at hi⟩
  simp only [List.mem_cons, List.not_mem_nil, or_false] at hs
  subst hs
  exact ⟨by show (0 : Int) ≤ _; omega, h⟩
end
end Go.Proofs.YtdecfgbdppfmcaaGreatDoor
