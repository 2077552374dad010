/-
  The disk's calls: settle, write, Crash. No condition.
-/
import Derived.Test.YtmkigdkhpdeaeaaDoorDiskB
namespace Go.Proofs.YtmkigdkhpdeaeaaDoor
open Go.RowKit
section
variable {B : Base} {w : World} {p : Nat} {s : DS} {kv : Value}

theorem settle1_g {b : Nat} {f : Int} (hc : cellD b T_int #[.int .i64 f] B) (x : Sec) : Gives Tryd.prog B (sCallV (.func (.func F_disk_Disk_settle_1) #[] #[ptr b]) #[Enc.val x]) (.bool (decide (x.file = f))) := by
  refine Gives.intro fun B' w K base h k => ?_
  replace hc := base hc
  refine call_v ?_
  refine disk_Disk_settle_1.up (p0 := x.v) (t1 := ptr b) (disk_Disk_settle_1.call ?_)
  unfold disk_Disk_settle_1.pt
  refine h.box fun b2 w1 h => ?_
  have h : Rel B' w1 [cellD b2 T_disk_sector x.cs.toArray] := h
  simp -zeta only [field_addr f_disk_sector_0, Nat.add_zero, h.ld 0 rfl sc_int (o := 0) rfl, cellD.ld (h.hereB hc) sc_int (o := 0) rfl, bin_eql]
  exact k _ _ h
theorem settle2_g {b : Nat} {f : Int} (hc : cellD b T_int #[.int .i64 f] B) (x : Sec) (y : Bool) : Gives Tryd.prog B (sCallV (.func (.func F_disk_Disk_settle_2) #[] #[ptr b]) #[Enc.val x, Enc.val y]) (.bool (decide (x.file = f))) := by
  refine Gives.intro fun B' w K base h k => ?_
  replace hc := base hc
  refine call_v ?_
  refine disk_Disk_settle_2.up (p0 := x.v) (t1 := .bool y) (t2 := ptr b) (disk_Disk_settle_2.call ?_)
  unfold disk_Disk_settle_2.pt
  refine h.box fun b2 w1 h => ?_
  have h : Rel B' w1 [cellD b2 T_disk_sector x.cs.toArray] := h
  simp -zeta only [field_addr f_disk_sector_0, Nat.add_zero, h.ld 0 rfl sc_int (o := 0) rfl, cellD.ld (h.hereB hc) sc_int (o := 0) rfl, bin_eql]
  exact k _ _ h

theorem settle_d (f : Int) {x : ByteArray} (hx : x.size ≤ 16777216) : Does Tryd.prog B (diskD p s kv) (sCall F_disk_Disk_settle #[ptr p, .int .i64 f, .string x]) fun v e' τ => v = .tuple #[] ∧ e' = diskD p (settleS s f x) kv ∧ τ = [] := by
  refine Does.intro fun B' w K base h k => ?_
  obtain ⟨m, lf, cf, m2, ls, cs, qv, hF, hk, h⟩ := diskD.open_ h
  have hql := hF.ok.qlen
  refine disk_Disk_settle.up (disk_Disk_settle.call ?_)
  unfold disk_Disk_settle.pt
  refine h.box fun b w1 h => ?_
  have h : Rel B' w1 [cellD p T_disk_Disk (dcs m qv m2 s kv), mapE m lf cf, rowD T_disk_sector qv s.queue, mapE m2 ls cs, cellD b T_int #[.int .i64 f]] := h
  have h := h.tick
  simp -zeta only [nil_ptr, field_addr f_disk_Disk_0, Nat.add_zero, h.ld 0 rfl sc_map_int_disk_file (o := 0) rfl, h.ld 4 rfl sc_int (o := 0) rfl, bd_disk_file_0_1]
  refine h.mapUpd 1 rfl U_map_int_disk_file kInt f (⟨x, x⟩ : FileV) fun w2 h => ?_
  simp -zeta only [field_addr f_disk_Disk_1, field_addr f_disk_Disk_2, Nat.zero_add, h.ld 0 rfl sc_s_disk_sector (o := 1) rfl, mk_func]
  refine h.act 2 rfl (fun B2 own base2 => dslices_DeleteFunc_s_disk_sector_disk_sector (by omega) (fun q => decide (q.file = f)) fun B3 base3 q hq => settle1_g (base3 (own (j := 4) (by decide) rfl)) q) fun qv' e' τ w3 hp h => ?_
  obtain ⟨rfl, rfl⟩ := hp
  have h1 : qv'.oneCell' = true := h.oneCell (i := 2) rfl
  refine h.st 0 rfl sc_s_disk_sector (show 1 < 7 by omega) h1 fun w4 h => ?_
  simp -zeta only [h.ld 0 rfl sc_map_disk_sector_bool (o := 2) rfl]
  refine h.act 3 rfl (fun B2 own base2 => deleteS_d hF.ws (fun q => decide (q.file = f)) fun B3 base3 e he => settle2_g (base3 (own (j := 4) (by decide) rfl)) e.1 e.2.1) fun v e' τ w5 hp h => ?_
  obtain ⟨rfl, rfl, rfl⟩ := hp
  have h := h.take 4
  have hF' : DF (settleS s f x) (setE f (⟨x, x⟩ : FileV) lf cf).1 (setE f (⟨x, x⟩ : FileV) lf cf).2 (ls.filter fun e => !decide (e.1.file = f)) cs := by
    refine ⟨hF.wf.set _ _, fun g => ?_, hF.ws.filter _, fun q => ?_, hF.ok.settle f hx⟩
    · rw [setE_get hF.wf.keys]
      show upd s.fs f _ g = _
      unfold upd
      split
      · rfl
      · exact hF.files g
    · rw [filter_get hF.ws (fun q : Sec => !decide (q.file = f))]
      show _ = decide (q ∈ s.queue.filter fun q => !decide (q.file = f))
      by_cases e : q.file = f
      · rw [if_neg (by simp [e])]
        simp [List.mem_filter, e]
      · rw [if_pos (by simp [e]), hF.set_ q]
        simp [List.mem_filter, e]
  exact k _ _ [] _ ⟨rfl, rfl, rfl⟩ (diskD.close hF' hk h)

theorem entry_there {x : Sec} {z : Bool} {l : List (Ent Sec Bool)} {c : Nat} : ∃ e ∈ (entryE x z l c).1, e.2.2 = (entryE x z l c).2.2.1 := by
  unfold entryE
  cases hf : findE x l 0 with
  | none => exact ⟨(x, z, c), List.mem_append_right _ (by simp), rfl⟩
  | some q =>
    obtain ⟨h1, _, _⟩ := findE_some (i := q.1) (v := q.2) hf
    refine ⟨l[q.1], List.getElem_mem h1, ?_⟩
    show _ = ((l[q.1]?).map (·.2.2)).getD 0
    rw [List.getElem?_eq_getElem h1]
    rfl
theorem addQ_succ {f : Int} {q : List Sec} {ns : List Nat} {j : Nat} (hj : j < ns.length) : addQ f q (ns.take (j + 1)) = addQ1 f (addQ f q (ns.take j)) ns[j] := by
  unfold addQ
  rw [List.take_succ_eq_append_getElem hj, List.foldl_append]
  rfl
theorem secs_get {at_ n j : Nat} (hj : j < (secs at_ n).length) : (secs at_ n)[j] = at_ / 64 + j := by simp [secs]
theorem secs_len (at_ n : Nat) : (secs at_ n).length = (at_ + n - 1) / 64 + 1 - at_ / 64 := by simp [secs]

theorem write_d (f at_ : Int) {t : ByteArray} (ht : t.size ≤ 9223372036854775807) : Does Tryd.prog B (diskD p s kv) (sCall F_disk_Disk_write #[ptr p, .int .i64 f, .int .i64 at_, .string t]) fun v e' τ => v = .int .i64 (writeE s f at_ t) ∧ e' = diskD p (writeW s f at_ t) kv ∧ τ = [] := by
  refine Does.intro fun B' w K base h k => ?_
  obtain ⟨m, lf, cf, m2, ls, cs, qv, hF, hk, h⟩ := diskD.open_ h
  refine disk_Disk_write.up (disk_Disk_write.call ?_)
  unfold disk_Disk_write.pt
  have no : ∀ e w' , writeE s f at_ t = e → e ≠ 0 → Rel B' w' [cellD p T_disk_Disk (dcs m qv m2 s kv), mapE m lf cf, rowD T_disk_sector qv s.queue, mapE m2 ls cs] → K (.int .i64 e) w' := by
    intro e w' he hne h
    refine k _ _ [] _ ⟨by rw [he], rfl, rfl⟩ ?_
    have : writeW s f at_ t = s := by unfold writeW; rw [if_neg (by rw [he]; exact hne)]
    rw [this]
    exact diskD.close hF hk h
  refine h.ask (fun B2 own base2 => may_g (own (i := 0) rfl) f) fun w1 h => ?_
  simp -zeta only [bin_neq, ifB_not, ifB_dec]
  refine ⟨fun e0 => ?_, fun e0 => no _ _ (by unfold writeE; rw [if_pos e0]) e0 h⟩
  have e0' : ¬ mayS s f ≠ 0 := by simpa using e0
  simp -zeta only [bin_lss, bin_gtr, ifB_dec]
  refine ⟨fun e1 => no _ _ (by unfold writeE; rw [if_neg e0', if_pos e1]) (by decide) h, fun e1 => ⟨fun e2 => no _ _ (by unfold writeE; rw [if_neg e0', if_neg e1, if_pos e2]) (by decide) h, fun e2 => ?_⟩⟩
  have hbt := bl_length t
  have hw : IntKind.i64.wrap (16777216 - at_) = 16777216 - at_ := wrap_id (by omega) (by omega)
  simp -zeta only [str_len U_string, bin_sub, hw, bin_gtr, ifB_dec]
  refine ⟨fun e3 => no _ _ (by unfold writeE; rw [if_neg e0', if_neg e1, if_neg e2, if_pos (by omega)]) (by decide) h, fun e3 => ?_⟩
  have hE : writeE s f at_ t = 0 := writeE_zero.2 ⟨by simpa using e0, by omega, by omega⟩
  have hW : writeW s f at_ t = addS s f at_.toNat t := by unfold writeW; rw [if_pos hE]
  rw [hE, hW] at k
  obtain ⟨a, rfl⟩ : ∃ a : Nat, at_ = a := ⟨at_.toNat, by omega⟩
  have hat : (a : Int).toNat = a := by omega
  rw [hat] at k
  clear no
  rw [eql_str, ifB_dec]
  refine ⟨fun e4 => k _ _ [] _ ⟨rfl, rfl, rfl⟩ (by unfold addS; rw [if_pos e4]; exact diskD.close hF hk h), fun e4 => ?_⟩
  have hpos := size_pos e4
  have hnow := hF.ok.now f
  simp -zeta only [nil_ptr, field_addr f_disk_Disk_0, Nat.add_zero, h.ld 0 rfl sc_map_int_disk_file (o := 0) rfl, file_look hF (h.here (i := 1) rfl)]
  refine h.allocAg (ds := (s.fs f).cs.toArray) z_disk_file rfl ag_disk_file rfl (fun v hv => Enc.one (s.fs f) v hv) fun x w2 h => ?_
  simp -zeta only [field_addr f_disk_file_0, Nat.add_zero, h.ld 4 rfl sc_string (o := 0) rfl]
  refine h.ask (fun B2 own base2 => put_g (s := (s.fs f).now) (t := t) (at_ := a) (by omega) (by omega) (by omega)) fun w3 h => ?_
  refine h.st 4 rfl sc_string (show 0 < 2 by omega) rfl fun w4 h => ?_
  have h := h.tick
  simp -zeta only [h.ld 0 rfl sc_map_int_disk_file (o := 0) rfl, h.ldAg 4 rfl ag_disk_file rfl]
  refine h.mapUpd 1 rfl U_map_int_disk_file kInt f (⟨putB (s.fs f).now a t, (s.fs f).last⟩ : FileV) fun w5 h => ?_
  have hq1 : IntKind.i64.wrap ((a : Int).tdiv 64) = ((a / 64 : Nat) : Int) := by
    rw [Int.tdiv_eq_ediv_of_nonneg (by omega), wrap_id (by omega) (by omega)]; omega
  simp -zeta only [bin_quo (show (64 : Int) ≠ 0 by decide), hq1]
  have h := h.take 4
  have hadd := hF.ok.add (f := f) (mayS_zero.1 e0).2 (at_ := a) (t := t) (by omega)
  have hA : addS s f a t = { s with fs := upd s.fs f ⟨putB (s.fs f).now a t, (s.fs f).last⟩, queue := addQ f s.queue (secs a t.size) } := by unfold addS; rw [if_neg e4]
  generalize hlf : setE f (⟨putB (s.fs f).now a t, (s.fs f).last⟩ : FileV) lf cf = lfc at h
  obtain ⟨lf', cf'⟩ := lfc
  have hwf' : WfE lf' cf' := by have := hF.wf.set f (⟨putB (s.fs f).now a t, (s.fs f).last⟩ : FileV); rw [hlf] at this; exact this
  have hfiles : ∀ g, (addS s f a t).fs g = (getE g lf').getD F0 := by
    intro g
    have e : lf' = (setE f (⟨putB (s.fs f).now a t, (s.fs f).last⟩ : FileV) lf cf).1 := by rw [hlf]
    rw [hA, e, setE_get hF.wf.keys]
    show upd s.fs f _ g = _
    unfold upd
    split
    · rfl
    · exact hF.files g
  have hsl := secs_len a t.size
  have hqn : ∀ j, (addQ f s.queue ((secs a t.size).take j)).length ≤ s.queue.length + j := by
    intro j
    have : ∀ (ns : List Nat) (q : List Sec), (addQ f q ns).length ≤ q.length + ns.length := by
      intro ns
      induction ns with
      | nil => intro q; exact Nat.le_refl _
      | cons n ns ih =>
        intro q
        unfold addQ at ih ⊢
        rw [List.foldl_cons]
        refine Nat.le_trans (ih _) ?_
        unfold addQ1
        split
        · simp only [List.length_cons]; omega
        · simp only [List.length_append, List.length_cons, List.length_nil]; omega
    refine Nat.le_trans (this _ _) ?_
    rw [List.length_take]
    omega
  have hql := hF.ok.qlen
  refine LOOP_intro (fun x w' => ∃ (j : Nat) (qv : Value) (ls : List (Ent Sec Bool)) (cs : Nat), j ≤ (secs a t.size).length ∧ x = (.int .i64 ((a / 64 + j : Nat) : Int), ()) ∧ WfE ls cs ∧ (∀ q, (getE q ls).getD false = decide (q ∈ addQ f s.queue ((secs a t.size).take j))) ∧
      Rel B' w' [cellD p T_disk_Disk (dcs m qv m2 s kv), mapE m lf' cf', rowD T_disk_sector qv (addQ f s.queue ((secs a t.size).take j)), mapE m2 ls cs]) (fun x _ => a / 64 + (secs a t.size).length - (match x.1 with | .int _ n => n.toNat | _ => 0))
    ⟨0, qv, ls, cs, Nat.zero_le _, rfl, hF.ws, hF.set_, h⟩ ?_
  clear h
  rintro x2 w6 ⟨j, qv, ls, cs, hj, rfl, hws, hset, h⟩ next hnext
  have hqj := hqn j
  have hw1 : IntKind.i64.wrap ((a : Int) + ((bl t).length : Int)) = ((a + (bl t).length : Nat) : Int) := by rw [wrap_id (by omega) (by omega)]; omega
  have hw2 : IntKind.i64.wrap (((a + (bl t).length : Nat) : Int) - 1) = ((a + (bl t).length - 1 : Nat) : Int) := by rw [wrap_id (by omega) (by omega)]; omega
  have hw3 : IntKind.i64.wrap (((a + (bl t).length - 1 : Nat) : Int).tdiv 64) = (((a + (bl t).length - 1) / 64 : Nat) : Int) := by
    rw [Int.tdiv_eq_ediv_of_nonneg (by omega), wrap_id (by omega) (by omega)]; omega
  simp -zeta only [bin_add, hw1, bin_sub, hw2, bin_quo (show (64 : Int) ≠ 0 by decide), hw3, bin_leq, ifB_dec]
  refine ⟨fun hle => ?_, fun hgt => ?_⟩
  · have hjl : j < (secs a t.size).length := by omega
    have hsg := secs_get hjl
    refine LETJ_intro fun J hJ => ?_
    replace hJ : ∀ (qv : Value) (ls : List (Ent Sec Bool)) (cs : Nat) w', WfE ls cs → (∀ q, (getE q ls).getD false = decide (q ∈ addQ f s.queue ((secs a t.size).take (j + 1)))) →
        Rel B' w' [cellD p T_disk_Disk (dcs m qv m2 s kv), mapE m lf' cf', rowD T_disk_sector qv (addQ f s.queue ((secs a t.size).take (j + 1))), mapE m2 ls cs] → J () w' := by
      intro qv ls cs w' h1 h2 h
      refine hJ _ _ ?_
      rw [wrap_id (by omega) (by omega)]
      exact hnext _ _ ⟨j + 1, qv, ls, cs, hjl, by rw [show ((a / 64 + j : Nat) : Int) + 1 = ((a / 64 + (j + 1) : Nat) : Int) by omega], h1, h2, h⟩ (by simp only; omega)
    clear hnext
    rw [bd_disk_sector_0_1]
    refine h.allocAg (ds := (⟨f, ((a / 64 + j : Nat) : Int)⟩ : Sec).cs.toArray) z_disk_sector rfl ag_disk_sector rfl (fun v hv => Enc.one (⟨f, ((a / 64 + j : Nat) : Int)⟩ : Sec) v hv) fun b w7 h => ?_
    have h := h.tick
    simp -zeta only [nil_ptr, field_addr f_disk_Disk_2, Nat.zero_add, h.ld 0 rfl sc_map_disk_sector_bool (o := 2) rfl, h.ldAg 4 rfl ag_disk_sector rfl,
      h.lookup 3 rfl U_map_disk_sector_bool kSec false z_bool (⟨f, ((a / 64 + j : Nat) : Int)⟩ : Sec) (xv := .agg (⟨f, ((a / 64 + j : Nat) : Int)⟩ : Sec).cs.toArray) (yv := .bool ((getE (⟨f, ((a / 64 + j : Nat) : Int)⟩ : Sec) ls).getD false)), hset, un_not, ifB_not, ifB_dec]
    have hs1 := addQ_succ (f := f) (q := s.queue) hjl
    rw [hsg] at hs1
    unfold addQ1 at hs1
    refine ⟨fun hin => ?_, fun hin => ?_⟩
    · rw [if_pos hin] at hs1
      rw [hs1] at hJ
      exact hJ qv ls cs _ hws hset (h.take 4)
    · rw [if_neg hin] at hs1
      have h := h.tick
      simp -zeta only [field_addr f_disk_Disk_1, Nat.zero_add, h.ld 0 rfl sc_map_disk_sector_bool (o := 2) rfl, h.ldAg 4 rfl ag_disk_sector rfl, h.ld 0 rfl sc_s_disk_sector (o := 1) rfl]
      refine h.build1 (⟨f, ((a / 64 + j : Nat) : Int)⟩ : Sec) sl_s_disk_sector (by decide) fun tv w8 h => ?_
      refine ⟨h.is 0 rfl sc_s_disk_sector (o := 1) rfl, h.isAg 4 rfl ag_disk_sector rfl, h.is 0 rfl sc_map_disk_sector_bool (o := 2) rfl, ?_⟩
      refine h.append 2 rfl sl_s_disk_sector (l2 := [(⟨f, ((a / 64 + j : Nat) : Int)⟩ : Sec)]) (Rd.at 5 (E := T_disk_sector) rfl) (by simp; omega) (by simp; omega) fun qv' w9 h => ?_
      refine ⟨h.isAg 4 rfl ag_disk_sector rfl, h.is 0 rfl sc_map_disk_sector_bool (o := 2) rfl, ?_⟩
      have h1 : qv'.oneCell' = true := h.oneCell (i := 2) rfl
      refine h.st 0 rfl sc_s_disk_sector (show 1 < 7 by omega) h1 fun w10 h => ?_
      refine ⟨h.isAg 4 rfl ag_disk_sector rfl, ?_⟩
      refine h.mapEntry 3 rfl U_map_disk_sector_bool kSec false z_bool (⟨f, ((a / 64 + j : Nat) : Int)⟩ : Sec) fun w11 h => ?_
      rw [ext_2_1]
      refine h.entryStore 3 rfl entry_there true fun w12 h => ?_
      obtain ⟨es1, es2⟩ := entry_store (x := (⟨f, ((a / 64 + j : Nat) : Int)⟩ : Sec)) (y := true) (z := false) hws
      rw [es1, es2] at h
      have h := h.take 4
      rw [hs1] at hJ
      refine hJ qv' _ _ _ (hws.set _ _) (fun q => ?_) h
      rw [setE_get hws.keys]
      by_cases e : q = ⟨f, ((a / 64 + j : Nat) : Int)⟩
      · rw [if_pos e]
        subst e
        simp
      · rw [if_neg e, hset q]
        exact decide_eq_decide.2 ⟨fun h => List.mem_append_left _ h, fun h => (List.mem_append.1 h).elim id fun h => absurd (List.mem_singleton.1 h) e⟩
  · have hjl : j = (secs a t.size).length := by omega
    subst hjl
    rw [List.take_length] at h hset
    refine k _ _ [] _ ⟨rfl, rfl, rfl⟩ ?_
    have hF' : DF (addS s f a t) lf' cf' ls cs := ⟨hwf', hfiles, hws, by rw [hA]; exact hset, hadd⟩
    refine diskD.close (m := m) (m2 := m2) (qv := qv) hF' hk ?_
    rw [hA]
    exact h

/-! ### Crash -/
def doneE (l : List (Ent Int FileV)) (seen : Array Nat) : List (Ent Int FileV) := l.map fun e => if seen.contains e.2.2 = true then (e.1, (⟨e.2.1.last, e.2.1.last⟩ : FileV), e.2.2) else e
theorem doneE_keys (l : List (Ent Int FileV)) (seen : Array Nat) : (doneE l seen).map (·.1) = l.map (·.1) := by
  unfold doneE
  rw [List.map_map]
  refine List.map_congr_left fun e _ => ?_
  simp only [Function.comp_apply]
  split <;> rfl
theorem doneE_stamps (l : List (Ent Int FileV)) (seen : Array Nat) : (doneE l seen).map (·.2.2) = l.map (·.2.2) := by
  unfold doneE
  rw [List.map_map]
  refine List.map_congr_left fun e _ => ?_
  simp only [Function.comp_apply]
  split <;> rfl
theorem doneE_wf {l : List (Ent Int FileV)} {c : Nat} (h : WfE l c) (seen : Array Nat) : WfE (doneE l seen) c := by
  refine ⟨by rw [doneE_keys]; exact h.keys, by rw [doneE_stamps]; exact h.stamps, fun e he => ?_⟩
  have hm : e.2.2 ∈ (doneE l seen).map (·.2.2) := List.mem_map_of_mem he
  rw [doneE_stamps] at hm
  obtain ⟨e', he', h1⟩ := List.mem_map.1 hm
  rw [← h1]
  exact h.below e' he'
theorem doneE_nil (l : List (Ent Int FileV)) : doneE l #[] = l := by
  unfold doneE
  have : (fun e : Ent Int FileV => if (#[] : Array Nat).contains e.2.2 = true then (e.1, (⟨e.2.1.last, e.2.1.last⟩ : FileV), e.2.2) else e) = id := by
    funext e
    simp
  rw [this, List.map_id]
theorem getE_mapv {l : List (Ent Int FileV)} (g : FileV → FileV) (x : Int) : getE x (l.map fun e => (e.1, g e.2.1, e.2.2)) = (getE x l).map g := by
  induction l with
  | nil => rfl
  | cons e l ih =>
    unfold getE at ih ⊢
    simp only [List.map_cons, findE]
    by_cases h : x = e.1
    · rw [if_pos h, if_pos h]; rfl
    · rw [if_neg h, if_neg h, findE_shift x (List.map _ l), findE_shift x l, Option.map_map, Option.map_map, Option.map_map]
      have := ih
      rw [Option.map_map] at this
      exact this
theorem and_bit (a : Int) : IntKind.wrap .i64 (BitVec.ofInt IntKind.i64.bits a &&& BitVec.ofInt IntKind.i64.bits 1).toNat = a % 2 := and_lo 1 (by omega) a 1 rfl

theorem crash_d {v : Value} {keep : List Int} (r : rowR v keep B) (hkl : keep.length ≤ 9223372036854775807) : Does Tryd.prog B (diskD p s kv) (sCall F_disk_Disk_Crash #[ptr p, v]) fun u e' τ => u = .tuple #[] ∧ e' = diskD p (crashS s keep) kv ∧ τ = [] := by
  refine Does.intro fun B' w K base h k => ?_
  replace r := base r
  obtain ⟨m, lf, cf, m2, ls, cs, qv, hF, hk, h⟩ := diskD.open_ h
  have hql := hF.ok.qlen
  refine disk_Disk_Crash.up (disk_Disk_Crash.call ?_)
  unfold disk_Disk_Crash.pt
  simp -zeta only [nil_ptr, field_addr f_disk_Disk_4, Nat.zero_add, h.ld 0 rfl sc_bool (o := 4) rfl]
  rw [ifB_bool]
  refine ⟨fun e => k _ _ [] _ ⟨rfl, rfl, rfl⟩ (by unfold crashS; rw [if_pos e]; exact diskD.close hF hk h), fun e => ?_⟩
  refine h.st 0 rfl sc_bool (show 4 < 7 by omega) rfl fun w1 h => ?_
  simp -zeta only [field_addr f_disk_Disk_5, field_addr f_disk_Disk_1, Nat.zero_add]
  refine h.st 0 rfl sc_int (show 5 < 7 by omega) rfl fun w2 h => ?_
  have hqr := rowD.read (h.here (i := 2) rfl)
  simp -zeta only [h.ld 0 rfl sc_s_disk_sector (o := 1) rfl, rowR.len hqr sl_s_disk_sector]
  clear hqr
  have h : Rel B' w2 [cellD p T_disk_Disk #[mapV m, qv, mapV m2, .int .i64 s.lost, .bool true, .int .i64 0, kv], mapE m lf cf, rowD T_disk_sector qv s.queue, mapE m2 ls cs] := h
  refine LOOP_intro (fun x w' => ∃ (i : Nat) (lf : List (Ent Int FileV)) (cf : Nat), i ≤ s.queue.length ∧ x = (.int .i64 i, ()) ∧ WfE lf cf ∧ (∀ f, survN keep s.queue s.fs i f = (getE f lf).getD F0) ∧
      Rel B' w' [cellD p T_disk_Disk #[mapV m, qv, mapV m2, .int .i64 s.lost, .bool true, .int .i64 0, kv], mapE m lf cf, rowD T_disk_sector qv s.queue, mapE m2 ls cs]) (fun x _ => s.queue.length - (match x.1 with | .int _ n => n.toNat | _ => 0))
    ⟨0, lf, cf, Nat.zero_le _, rfl, hF.wf, hF.files, h⟩ ?_
  clear h
  rintro x w3 ⟨i, lf, cf, hi, rfl, hwf, hfs, h⟩ next hnext
  obtain ⟨hsn, hsl⟩ := surv_keeps (keep := keep) (qs := s.queue) hF.ok.now hF.ok.last i
  simp -zeta only [bin_lss, ifB_dec]
  refine ⟨fun hlt => ?_, fun hge => ?_⟩
  · have hil : i < s.queue.length := by omega
    have hgd : s.queue.getD i ⟨0, 0⟩ = s.queue[i] := by rw [List.getD_eq_getElem?_getD, List.getElem?_eq_getElem hil]; rfl
    have hqi := hF.ok.q _ (List.getElem_mem hil)
    generalize hq : s.queue[i] = q at hqi hgd
    have hstep : survN keep s.queue s.fs (i + 1) = survS keep i q (survN keep s.queue s.fs i) := by
      show survS keep i (s.queue.getD i ⟨0, 0⟩) _ = _
      rw [hgd]
    refine LETJ_intro fun J hJ => ?_
    replace hJ : ∀ (lf : List (Ent Int FileV)) (cf : Nat) w', WfE lf cf → (∀ f, survN keep s.queue s.fs (i + 1) f = (getE f lf).getD F0) →
        Rel B' w' [cellD p T_disk_Disk #[mapV m, qv, mapV m2, .int .i64 s.lost, .bool true, .int .i64 0, kv], mapE m lf cf, rowD T_disk_sector qv s.queue, mapE m2 ls cs] → J () w' := by
      intro lf cf w' h1 h2 h
      refine hJ _ _ ?_
      rw [bin_add, wrap_id (by omega) (by omega)]
      exact hnext _ _ ⟨i + 1, lf, cf, hil, rfl, h1, h2, h⟩ (by simp only; omega)
    clear hnext
    have same : (survS keep i q (survN keep s.queue s.fs i) = survN keep s.queue s.fs i) → ∀ w' σ, Rel B' w' ([cellD p T_disk_Disk #[mapV m, qv, mapV m2, .int .i64 s.lost, .bool true, .int .i64 0, kv], mapE m lf cf, rowD T_disk_sector qv s.queue, mapE m2 ls cs] ++ σ) → J () w' := by
      intro e w' σ h
      exact hJ lf cf w' hwf (by rw [hstep, e]; exact hfs) h.drop
    obtain ⟨g, o, hx, hc⟩ := rowR.idx (P := Tryd.prog) (rowD.read (h.here (i := 2) rfl)) sl_s_disk_sector hil
    rw [hq] at hc
    simp -zeta only [hx, cellsR.ldAg hc ag_disk_sector rfl]
    refine h.allocAg (ds := q.cs.toArray) z_disk_sector rfl ag_disk_sector rfl (fun v hv => Enc.one q v hv) fun b w4 h => ?_
    have h := h.tick
    have hlook : ∀ {w : World} (hm : (mapE m lf cf).here w) {Kp : Value → Prop}, readK Tryd.prog (sLookup T_map_int_disk_file (mapV m) (.int .i64 q.file) false) w Kp = Kp (.agg #[.string (survN keep s.queue s.fs i q.file).now, .string (survN keep s.queue s.fs i q.file).last]) :=
      fun {w} hm {Kp} => mapE.look (x := q.file) hm U_map_int_disk_file kInt F0 z_disk_file rfl (by rw [← hfs]; rfl)
    have hw1 : IntKind.i64.wrap (q.number * 64) = q.number * 64 := wrap_id (by omega) (by omega)
    simp -zeta only [nil_ptr, field_addr f_disk_Disk_0, field_addr f_disk_sector_0, field_addr f_disk_sector_1, Nat.add_zero, Nat.zero_add, h.ld 0 rfl sc_map_int_disk_file (o := 0) rfl, h.ld 4 rfl sc_int (o := 0) rfl, h.ld 4 rfl sc_int (o := 1) rfl, hlook (h.here (i := 1) rfl), bin_mul, hw1]
    refine h.alloc z_disk_file fun fb w5 h => ?_
    refine ⟨h.is 4 rfl sc_int (o := 1) rfl, is_of (hlook (h.here (i := 1) rfl)), h.is 4 rfl sc_int (o := 0) rfl, h.is 0 rfl sc_map_int_disk_file (o := 0) rfl, ?_⟩
    generalize hfv : survN keep s.queue s.fs i q.file = fv at hlook
    have hfn := hsn q.file
    have hfl := hsl q.file
    rw [hfv] at hfn hfl
    have hnow := hF.ok.now q.file
    rw [← hfn] at hnow
    refine h.stAll 5 rfl ag_disk_file (ds := fv.cs.toArray) rfl rfl (fun v hv => Enc.one fv v hv) fun w6 h => ?_
    refine ⟨h.is 4 rfl sc_int (o := 1) rfl, ?_⟩
    simp -zeta only [rowR.len r sl_s_int, bin_eql, ifB_dec]
    refine ⟨fun e1 => same (by unfold survS; rw [if_pos (List.eq_nil_of_length_eq_zero (by omega))]) _ _ h, fun e1 => ?_⟩
    have hk0 : keep ≠ [] := fun e => e1 (by rw [e]; rfl)
    have hkp : 0 < keep.length := List.length_pos_iff.2 hk0
    have hmod : i % keep.length < keep.length := Nat.mod_lt _ hkp
    have hrem : (i : Int).tmod (keep.length : Int) = ((i % keep.length : Nat) : Int) := by
      rw [Int.tmod_eq_emod_of_nonneg (by omega)]
      exact (Int.natCast_emod _ _).symm
    obtain ⟨g2, o2, hx2, hc2⟩ := rowR.idx r sl_s_int (P := Tryd.prog) hmod
    have hkd : keep.getD (i % keep.length) 0 = keep[i % keep.length] := by rw [List.getD_eq_getElem?_getD, List.getElem?_eq_getElem hmod]; rfl
    simp -zeta only [bin_rem (show (keep.length : Int) ≠ 0 by omega), hrem, hx2, cellsR.ld0 (h.hereB hc2) sc_int rfl, bin_and, and_bit, bin_eql, ifB_dec]
    refine ⟨fun e2 => same (by unfold survS; rw [if_neg hk0, hkd, if_pos e2]) _ _ h, fun e2 => ?_⟩
    have hbn := bl_length fv.now
    simp -zeta only [field_addr f_disk_file_0, field_addr f_disk_file_1, Nat.add_zero, Nat.zero_add, h.ld 5 rfl sc_string (o := 0) rfl, str_len U_string, bin_geq, ifB_dec]
    refine ⟨fun e3 => same (by unfold survS; rw [if_neg hk0, hkd, if_neg e2, hfv, if_pos (by omega)]) _ _ h, fun e3 => ?_⟩
    clear same
    have hS : survS keep i q (survN keep s.queue s.fs i) = upd (survN keep s.queue s.fs i) q.file ⟨fv.now, putB fv.last (64 * q.number.toNat) (partB fv.now (64 * q.number.toNat))⟩ := by
      unfold survS; rw [if_neg hk0, hkd, if_neg e2, hfv, if_neg (by omega)]
    have h := h.tick
    have hw2 : IntKind.i64.wrap (q.number * 64 + 64) = q.number * 64 + 64 := wrap_id (by omega) (by omega)
    have hmin : min (q.number * 64 + 64) ((bl fv.now).length : Int) = ((min (64 * q.number.toNat + 64) fv.now.size : Nat) : Int) := by omega
    have hn64 : q.number * 64 = ((64 * q.number.toNat : Nat) : Int) := by omega
    simp -zeta only [h.ld 5 rfl sc_string (o := 0) rfl, h.ld 5 rfl sc_string (o := 1) rfl, str_len U_string, bin_add, hw2, blt_min, hmin]
    rw [hn64, str_cut U_string (lo := 64 * q.number.toNat) (hi := min (64 * q.number.toNat + 64) fv.now.size) Bnd.some Bnd.some (by omega) (by omega)]
    have hps := partB_size (now := fv.now) (n := 64 * q.number.toNat)
    refine h.ask (fun B2 own base2 => put_g (s := fv.last) (t := partB fv.now (64 * q.number.toNat)) (at_ := 64 * q.number.toNat) (by omega) (by omega) (by omega)) fun w7 h => ?_
    refine h.st 5 rfl sc_string (show 1 < 2 by omega) rfl fun w8 h => ?_
    have h := h.tick
    simp -zeta only [h.ld 0 rfl sc_map_int_disk_file (o := 0) rfl, h.ld 4 rfl sc_int (o := 0) rfl, h.ldAg 5 rfl ag_disk_file rfl]
    refine h.mapUpd 1 rfl U_map_int_disk_file kInt q.file (⟨fv.now, putB fv.last (64 * q.number.toNat) (partB fv.now (64 * q.number.toNat))⟩ : FileV) fun w9 h => ?_
    refine hJ _ _ _ (hwf.set _ _) (fun f => ?_) (h.take 4)
    rw [hstep, hS, setE_get hwf.keys]
    unfold upd
    split
    · rfl
    · exact hfs f
  · have hie : i = s.queue.length := by omega
    subst hie
    clear hnext
    simp -zeta only [nil_ptr, field_addr f_disk_Disk_0, Nat.add_zero, h.ld 0 rfl sc_map_int_disk_file (o := 0) rfl]
    refine h.range 1 rfl U_map_int_disk_file fun it w4 h => ?_
    refine LOOP_intro (fun _ w' => ∃ seen : Array Nat, Rel B' w' [cellD p T_disk_Disk #[mapV m, qv, mapV m2, .int .i64 s.lost, .bool true, .int .i64 0, kv], mapE m (doneE lf seen) cf, rowD T_disk_sector qv s.queue, mapE m2 ls cs, iterE it m cf seen cf]) (fun _ w' => unseenE lf (seenOf w' it))
      ⟨#[], by rw [doneE_nil]; exact h⟩ ?_
    clear h
    rintro x w5 ⟨seen, h⟩ next hnext
    have hms := seenOf_eq h (j := 4) rfl
    have hwd := doneE_wf hwf seen
    refine h.next 1 4 it rfl rfl hwd.below (fun w6 hall h => ?_) (fun e1 w6 he hns h => ?_)
    · rw [pureK_eq (v := .bool false) (fun w => rfl), ifB_false]
      refine h.mkMap Sec Bool fun m3 w7 h => ?_
      simp -zeta only [nil_ptr, field_addr f_disk_Disk_1, field_addr f_disk_Disk_2, Nat.zero_add]
      refine h.st 0 rfl sc_s_disk_sector (show 1 < 7 by omega) rfl fun w8 h => ?_
      refine h.st 0 rfl sc_map_disk_sector_bool (show 2 < 7 by omega) rfl fun w9 h => ?_
      have h := h.addNil Sec T_disk_sector
      have h := h.pick [0, 1, 6, 5] (by decide)
      have hC : crashS s keep = { s with fs := fun f => ⟨(survN keep s.queue s.fs s.queue.length f).last, (survN keep s.queue s.fs s.queue.length f).last⟩, queue := [], down := true, armed := 0 } := by
        unfold crashS; rw [if_neg (by rw [e]; decide)]
      have hall2 : doneE lf seen = lf.map fun e => (e.1, (⟨e.2.1.last, e.2.1.last⟩ : FileV), e.2.2) := by
        unfold doneE
        refine List.map_congr_left fun e he => ?_
        have hm : e.2.2 ∈ (doneE lf seen).map (·.2.2) := by rw [doneE_stamps]; exact List.mem_map_of_mem he
        obtain ⟨e', he', h1⟩ := List.mem_map.1 hm
        have := hall e' he'
        rw [h1] at this
        rw [if_pos this]
      have hF' : DF (crashS s keep) (doneE lf seen) cf [] 0 := by
        refine ⟨hwd, fun f => ?_, WfE.nil, fun q => ?_, hF.ok.crash keep⟩
        · rw [hC, hall2, getE_mapv (fun v => (⟨v.last, v.last⟩ : FileV))]
          show (⟨_, _⟩ : FileV) = _
          rw [hfs f]
          cases getE f lf <;> rfl
        · rw [hC]; simp [getE, findE]
      refine k _ _ [] _ ⟨rfl, rfl, rfl⟩ (diskD.close (m := m) (m2 := m3) (qv := .slice none 0 0) hF' hk ?_)
      rw [hC]
      exact h
    · rw [ext_3_0, ifB_true]
      refine h.entry 1 4 it rfl rfl he hwd.stamps fun w7 h => ?_
      rw [ext_2_0, ext_2_1]
      refine h.allocAg (ds := e1.2.1.cs.toArray) z_disk_file rfl ag_disk_file rfl (fun v hv => Enc.one e1.2.1 v hv) fun b w8 h => ?_
      have h := h.tick
      simp -zeta only [nil_ptr, field_addr f_disk_Disk_0, field_addr f_disk_file_1, Nat.add_zero, Nat.zero_add, h.ld 0 rfl sc_map_int_disk_file (o := 0) rfl, h.ld 5 rfl sc_string (o := 1) rfl, bd_disk_file_0_1]
      refine h.mapUpd 1 rfl U_map_int_disk_file kInt e1.1 (⟨e1.2.1.last, e1.2.1.last⟩ : FileV) fun w9 h => ?_
      obtain ⟨s1, s2⟩ := setE_map hwd he (⟨e1.2.1.last, e1.2.1.last⟩ : FileV)
      rw [s1, s2] at h
      -- the entry, as it was before
      obtain ⟨e0, he0, h0⟩ := List.mem_map.1 he
      have he0' : e1 = e0 := by
        rw [← h0]
        split
        · rename_i hc
          have : e1.2.2 = e0.2.2 := by rw [← h0, if_pos hc]
          rw [this, hc] at hns
          cases hns
        · rfl
      have hd : (doneE lf seen).map (fun e' => if e'.2.2 = e1.2.2 then (e'.1, (⟨e1.2.1.last, e1.2.1.last⟩ : FileV), e'.2.2) else e') = doneE lf (seen.push e1.2.2) := by
        unfold doneE
        rw [List.map_map]
        refine List.map_congr_left fun x hx => ?_
        simp only [Function.comp_apply, contains_push]
        by_cases hxe : x = e1
        · subst hxe
          rw [hns]
          simp
        · have hne : x.2.2 ≠ e1.2.2 := fun hh => hxe (by rw [he0'] at hh ⊢; exact hwf.eq_of_stamp hx he0 hh)
          cases hc : seen.contains x.2.2 <;> simp [hne]
      rw [hd] at h
      have h := h.take 5
      refine hnext _ _ ⟨_, h⟩ ?_
      show unseenE lf (seenOf w9 it) < unseenE lf (seenOf w5 it)
      rw [hms, seenOf_eq h (j := 4) rfl, he0']
      rw [he0'] at hns
      exact unseen_push he0 hns
end
end Go.Proofs.YtmkigdkhpdeaeaaDoor
