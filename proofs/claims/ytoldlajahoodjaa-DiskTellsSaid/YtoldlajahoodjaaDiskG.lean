/-
  DiskReads, DiskSynced. No condition.
-/
import Derived.Test.YtoldlajahoodjaaDiskF
namespace Go.Proofs.Ytoldlajahoodjaa
open Go.RowKit

theorem ends_unarmed {s : DS} (h : s.armed = 0) : endsB s = false ∧ endsS s = s := by
  unfold endsB endsS
  rw [h]
  simp
theorem come_unarmed {s : DS} (h : s.armed = 0) : comeS s = s := by
  obtain ⟨h1, h2⟩ := ends_unarmed h
  unfold comeS
  rw [if_neg (by rw [h1]; decide), h2]
theorem write_unarmed {s : DS} (h : s.armed = 0) (f a : Int) (t : ByteArray) : writeT s f a t = (writeW s f a t, writeE s f a t) := by
  obtain ⟨h1, h2⟩ := ends_unarmed h
  unfold writeT
  rw [if_neg (by rw [h1]; decide), h2]
theorem take_big {l : List UInt8} {n : Nat} (h : l.length ≤ n) : (l.drop 0).take n = l := by rw [List.drop_zero, List.take_of_length_le h]
theorem add_down (s : DS) (f : Int) (a : Nat) (t : ByteArray) : (addS s f a t).down = s.down := by unfold addS; split <;> rfl
theorem add_armed (s : DS) (f : Int) (a : Nat) (t : ByteArray) : (addS s f a t).armed = s.armed := by unfold addS; split <;> rfl
theorem may_eq {s t : DS} (h : s.down = t.down) (f : Int) : mayS s f = mayS t f := by unfold mayS; rw [h]
theorem readT_ok {s : DS} {f a n : Int} (h : mayS s f = 0) (ha : 0 ≤ a) (hn : 0 ≤ n) : readT s f a n = (ofL (((bl (s.fs f).now).drop a.toNat).take n.toNat), 0) := by
  unfold readT
  rw [if_neg (by simpa using h), if_neg (by omega), if_neg (by omega)]
theorem readT_all {s : DS} (hs : DOk s) {f : Int} (h : mayS s f = 0) : readT s f 0 16777216 = ((s.fs f).now, 0) := by
  rw [readT_ok h (by decide) (by decide)]
  have := hs.now f
  have e := take_big (l := bl (s.fs f).now) (n := (16777216 : Int).toNat) (by rw [bl_length]; exact this)
  rw [show (0 : Int).toNat = 0 from rfl, e, ofL_bl]
theorem put_read (s : List UInt8) (a : Nat) (t : List UInt8) : ((putL s a t).drop a).take t.length = t := by
  have hl := padL_length s a t.length
  unfold putL
  rw [List.append_assoc, List.drop_append_of_le_length (by rw [List.length_take]; omega), List.drop_of_length_le (by rw [List.length_take]; omega), List.nil_append, List.take_left]
theorem add_read (s : DS) (f : Int) (a : Nat) (t : ByteArray) : ((bl ((addS s f a t).fs f).now).drop a).take (bl t).length = bl t := by
  unfold addS
  split
  · rename_i h
    rw [empty_bl.1 h]
    simp
  · rename_i h
    show ((bl (upd s.fs f _ f).now).drop a).take _ = _
    rw [upd_same]
    show ((bl (putB _ _ _)).drop a).take _ = _
    unfold putB
    rw [if_neg h]
    exact put_read _ _ _
theorem part_eq (l : List UInt8) (a n : Nat) : (l.take (min a l.length + min n (l.length - min a l.length))).drop (min a l.length) = (l.drop a).take n := by
  rw [List.drop_take, Nat.add_sub_cancel_left]
  have e : l.drop (min a l.length) = l.drop a := by
    rcases Nat.le_total a l.length with h | h
    · rw [Nat.min_eq_left h]
    · rw [Nat.min_eq_right h, List.drop_length, List.drop_of_length_le h]
  rw [e]
  have hl : (l.drop a).length = l.length - min a l.length := by rw [List.length_drop]; omega
  rw [← hl]
  rcases Nat.le_total n (l.drop a).length with h | h
  · rw [Nat.min_eq_left h]
  · rw [Nat.min_eq_right h, List.take_length, List.take_of_length_le h]
theorem survN_nil (qs : List Sec) (fs : Int → FileV) (n : Nat) : survN [] qs fs n = fs := by
  induction n with
  | zero => rfl
  | succ n ih => show survS [] n _ (survN [] qs fs n) = fs; rw [ih]; rfl
theorem crash_fs {s : DS} (h : s.down = false) (keep : List Int) (f : Int) : ((crashS s keep).fs f) = ⟨(survN keep s.queue s.fs s.queue.length f).last, (survN keep s.queue s.fs s.queue.length f).last⟩ := by
  unfold crashS; rw [if_neg (by rw [h]; decide)]

set_option maxHeartbeats 1000000 in
theorem diskReads_pt {W : World} {v0 : Value} {l : List Act4} {f a size : Int} {t : ByteArray} (r0 : rowR v0 l (lawB W)) (hm : l.length ≤ maxLen) (hq : ∀ x ∈ l, okInt W x.do_ ∧ okInt W x.f ∧ okInt W x.n ∧ okStr W x.s ∧ (∃ k : List Int, rowR x.keep.1 k (lawB W) ∧ k.length ≤ maxLen ∧ ∀ y ∈ k, okInt W y)) (ht : t.size ≤ maxLen) {K : Value → World → Prop}
    (fin : ∀ w' σ, Rel (lawB W) w' σ → K (.bool true) w') : erratalaw04_DiskReads.pt v0 (.int .i64 f) (.int .i64 a) (.string t) (.int .i64 size) W K := by
  obtain ⟨L, rfl, qd⟩ := acts_of l fun x hx => (hq x hx).2.2.2.2.imp fun _ h => h.1
  have r := r0
  clear r0
  have hr : inRange L := fun x hx => by
    have := (hq x.1 (List.mem_map_of_mem hx)).2.2.1
    exact ⟨this.2, this.1⟩
  clear hq
  have hal : (acts L).length = L.length := List.length_map ..
  rw [hal] at hm
  unfold maxLen at hm ht
  have hbt := bl_length t
  unfold erratalaw04_DiskReads.pt
  refine small_r (lawB.start W) fun w1 h => ?_
  refine h.ask (fun B2 own base2 => few_g (base2 r) (base2 qd) (by omega)) fun w2 h => ?_
  rw [un_not, ifB_not, ifB_bool]
  refine ⟨fun hf => ?_, fun _ => fin _ _ h⟩
  have hf := fewS_true.1 hf
  simp -zeta only [str_len U_string, bin_gtr, bin_lss, ifB_dec]
  refine ⟨fun _ => fin _ _ h, fun c1 => ⟨fun _ => fin _ _ h, fun c2 => ⟨fun _ => fin _ _ h, fun c3 => ⟨fun _ => fin _ _ h, fun c4 => ?_⟩⟩⟩⟩
  refine h.make (fun B2 own base2 => played_m (base2 r) (base2 qd) hf hr) fun u τ w3 hp h => ?_
  obtain ⟨p, kv0, rfl, _, rfl⟩ := hp
  rw [nil_ne, ifB_false]
  refine h.act 0 rfl (fun B2 own base2 => Arm_d (nilrow _) (by decide) (by decide)) fun v e' τ w4 hp h => ?_
  obtain ⟨rfl, kv, rfl, rfl⟩ := hp
  have h := h.pick [0, 2] (by decide)
  generalize hs : ({ playS L with armed := max 0 0, keep := [] } : DS) = s at h
  have h : Rel (lawB W) w4 [diskD p s kv, rowD T_int kv ([] : List Int)] := h
  have ha : s.armed = 0 := by rw [← hs]; rfl
  have hk : s.keep = [] := by rw [← hs]
  clear hs
  obtain ⟨hok, _⟩ := diskD.ok (h.here (i := 0) rfl)
  refine h.ask (fun B2 own base2 => Down_g (own (i := 0) rfl)) fun w5 h => ?_
  have hwt := write_unarmed ha f a t
  have bad : mayS s f ≠ 0 → upK Try.prog (sCall F_disk_Disk_Write #[ptr p, .int .i64 f, .int .i64 a, .string t]) w5 fun t68 w6 => pureK Try.prog (sBin .neq T_api_Errno (.tmp 68) (.const (.int .i64 0)) t68 (.int .i64 0)) fun t69 => K t69 w6 := by
    intro hne
    refine h.act 0 rfl (fun B2 own base2 => Write_d (by rw [hk]; exact rowD.read (own (j := 1) (by decide) rfl)) (by rw [hk]; decide) f a (by omega)) fun v e' τ w6 hp h => ?_
    obtain ⟨rfl, rfl, rfl⟩ := hp
    rw [hwt, bin_neq, decide_eq_false (show ¬ writeE s f a t = 0 from fun e => hne (writeE_zero.1 e).1)]
    exact fin _ _ h
  rw [ifB_bool]
  refine ⟨fun hd => ?_, fun hd => ?_⟩
  · rw [ifB_true]
    exact bad fun e => by have := (mayS_zero.1 e).1; rw [hd] at this; cases this
  simp -zeta only [bin_lss, bin_gtr, ifB_dec, ifB_true]
  refine ⟨fun hf0 => bad fun e => absurd (mayS_zero.1 e).2.1 (by omega), fun hf0 => ⟨fun hf1 => bad fun e => absurd (mayS_zero.1 e).2.2 (by omega), fun hf1 => ?_⟩⟩
  clear bad
  have hmay : mayS s f = 0 := mayS_zero.2 ⟨hd, by omega, by omega⟩
  obtain ⟨n, rfl⟩ : ∃ n : Nat, a = n := ⟨a.toNat, by omega⟩
  obtain ⟨sz, rfl⟩ : ∃ n : Nat, size = n := ⟨size.toNat, by omega⟩
  have hE : writeE s f n t = 0 := writeE_zero.2 ⟨hmay, by omega, by omega⟩
  have hW : writeW s f n t = addS s f n t := by unfold writeW; rw [if_pos hE]; rfl
  rw [hE, hW] at hwt
  refine h.act 0 rfl (fun B2 own base2 => Write_d (by rw [hk]; exact rowD.read (own (j := 1) (by decide) rfl)) (by rw [hk]; decide) f n (by omega)) fun v e' τ w6 hp h => ?_
  obtain ⟨rfl, rfl, rfl⟩ := hp
  rw [hwt] at h ⊢
  have hread := add_read s f n t
  have hd2 : (addS s f n t).down = false := by rw [add_down]; exact hd
  have ha2 : (addS s f n t).armed = 0 := by rw [add_armed]; exact ha
  have hk2 : (addS s f n t).keep = [] := by rw [keep_add]; exact hk
  have hok2 := hok.add (f := f) ⟨by omega, by omega⟩ (at_ := n) (t := t) (by omega)
  generalize addS s f n t = s2 at h hread hd2 ha2 hk2 hok2 ⊢
  have h : Rel (lawB W) w6 [diskD p s2 kv, rowD T_int kv ([] : List Int)] := h
  have hmay2 : mayS s2 f = 0 := mayS_zero.2 ⟨hd2, by omega, by omega⟩
  generalize hX : (s2.fs f).now = X at hread
  have hXs : X.size ≤ 16777216 := by rw [← hX]; exact hok2.now f
  have hbX := bl_length X
  simp -zeta only [str_len U_string]
  refine h.ask (fun B2 own base2 => Read_g (own (i := 0) rfl) f n _) fun w7 h => ?_
  rw [readT_ok hmay2 (by omega) (by omega), hX, Int.toNat_natCast, Int.toNat_natCast, hread, ofL_bl]
  simp -zeta only [ext_2_0, ext_2_1]
  refine h.ask (fun B2 own base2 => Size_d (own (i := 0) rfl) f) fun w8 h => ?_
  rw [hX]
  refine h.ask (fun B2 own base2 => Read_g (own (i := 0) rfl) f 0 _) fun w9 h => ?_
  rw [readT_ok hmay2 (by decide) (by omega), hX, Int.toNat_natCast, show (0 : Int).toNat = 0 from rfl, take_big (by omega), ofL_bl]
  simp -zeta only [ext_2_0, ext_2_1]
  refine h.ask (fun B2 own base2 => Read_g (own (i := 0) rfl) f n sz) fun w10 h => ?_
  rw [readT_ok hmay2 (by omega) (by omega), hX, Int.toNat_natCast, Int.toNat_natCast]
  simp -zeta only [ext_2_0, ext_2_1, bin_neq, decide_true, Bool.not_true, ifB_false, neq_str, str_len U_string]
  refine h.ask (fun B2 own base2 => Size_d (own (i := 0) rfl) f) fun w11 h => ?_
  rw [hX, bin_neq, decide_eq_true (show ((bl X).length : Int) = X.size by omega), Bool.not_true, ifB_false]
  have hmin : min (n : Int) ((bl X).length : Int) = ((min n (bl X).length : Nat) : Int) := by omega
  simp -zeta only [str_len U_string, blt_min, hmin]
  have hw1 : IntKind.i64.wrap (((bl X).length : Int) - ((min n (bl X).length : Nat) : Int)) = (((bl X).length - min n (bl X).length : Nat) : Int) := by rw [wrap_id (by omega) (by omega)]; omega
  have hmin2 : min (sz : Int) (((bl X).length - min n (bl X).length : Nat) : Int) = ((min sz ((bl X).length - min n (bl X).length) : Nat) : Int) := by omega
  have hw2 : IntKind.i64.wrap (((min n (bl X).length : Nat) : Int) + ((min sz ((bl X).length - min n (bl X).length) : Nat) : Int)) = ((min n (bl X).length + min sz ((bl X).length - min n (bl X).length) : Nat) : Int) := by rw [wrap_id (by omega) (by omega)]; omega
  simp -zeta only [bin_sub, hw1, blt_min, hmin2, bin_add, hw2]
  rw [str_cut U_string (s := X) (lo := min n (bl X).length) (hi := min n (bl X).length + min sz ((bl X).length - min n (bl X).length)) Bnd.some Bnd.some (by omega) (by omega), part_eq, neq_str, decide_eq_true rfl, Bool.not_true, ifB_false]
  refine h.act 0 rfl (fun B2 own base2 => Truncate_d (by rw [hk2]; exact rowD.read (own (j := 1) (by decide) rfl)) (by rw [hk2]; decide) f _) fun v e' τ w12 hp h => ?_
  obtain ⟨rfl, rfl, rfl⟩ := hp
  have htr : truncT s2 f ((min n (bl X).length : Nat) : Int) = (settleS s2 f (ofL ((bl X).take (min n (bl X).length))), 0) := by
    unfold truncT
    rw [come_unarmed ha2, if_neg (by simpa using hmay2), if_neg (by omega), hX, if_neg (by omega), Int.toNat_natCast]
  rw [htr] at h ⊢
  refine h.act 0 rfl (fun B2 own base2 => crash_d (keep := []) (nilrow _) (by decide)) fun v e' τ w13 hp h => ?_
  obtain ⟨rfl, rfl, rfl⟩ := hp
  refine h.act 0 rfl (fun B2 own base2 => Start_d) fun v e' τ w14 hp h => ?_
  obtain ⟨rfl, rfl, rfl⟩ := hp
  refine h.ask (fun B2 own base2 => Read_g (own (i := 0) rfl) f 0 16777216) fun w15 h => ?_
  have hlast : readT { crashS (settleS s2 f (ofL ((bl X).take (min n (bl X).length)))) [] with down := false } f 0 16777216 = (ofL ((bl X).take (min n (bl X).length)), 0) := by
    have e1 : ({ crashS (settleS s2 f (ofL ((bl X).take (min n (bl X).length)))) [] with down := false } : DS).fs f = ⟨ofL ((bl X).take (min n (bl X).length)), ofL ((bl X).take (min n (bl X).length))⟩ := by
      show (crashS (settleS s2 f (ofL ((bl X).take (min n (bl X).length)))) []).fs f = _
      rw [crash_fs (show (settleS s2 f _).down = false from hd2), survN_nil]
      show (⟨(upd s2.fs f _ f).last, (upd s2.fs f _ f).last⟩ : FileV) = _
      rw [upd_same]
    rw [readT_ok (mayS_zero.2 ⟨rfl, by omega, by omega⟩) (by decide) (by decide), e1]
    show (ofL (((bl (ofL ((bl X).take (min n (bl X).length)))).drop (0 : Int).toNat).take (16777216 : Int).toNat), (0 : Int)) = _
    rw [show (0 : Int).toNat = 0 from rfl, take_big (by show ((bl X).take _).length ≤ _; rw [List.length_take]; show _ ≤ 16777216; omega)]
  rw [hlast]
  simp -zeta only [ext_2_0, ext_2_1, ifB_true, bin_eql, decide_true]
  rw [str_cut U_string (s := X) (lo := 0) (hi := min n (bl X).length) Bnd.none Bnd.some (Nat.zero_le _) (by omega), List.drop_zero, eql_str, decide_eq_true rfl]
  exact fin _ _ h

/-! ### Synced -/
structure QI (f : Int) (X : ByteArray) (s : DS) : Prop where
  fs : s.fs f = ⟨X, X⟩
  q : ∀ q ∈ s.queue, q.file ≠ f
theorem survN_other {f : Int} {keep : List Int} {qs : List Sec} {fs : Int → FileV} (hq : ∀ q ∈ qs, q.file ≠ f) : ∀ n, n ≤ qs.length → survN keep qs fs n f = fs f := by
  intro n
  induction n with
  | zero => intro _; rfl
  | succ n ih =>
    intro hn
    have hg : qs.getD n ⟨0, 0⟩ = qs[n]'(by omega) := by rw [List.getD_eq_getElem?_getD, List.getElem?_eq_getElem (by omega)]; rfl
    have hne := hq _ (List.getElem_mem (show n < qs.length by omega))
    show survS keep n (qs.getD n ⟨0, 0⟩) (survN keep qs fs n) f = _
    rw [hg]
    unfold survS
    split
    · exact ih (by omega)
    · split
      · exact ih (by omega)
      · split
        · exact ih (by omega)
        · rw [upd_ne (Ne.symm hne)]
          exact ih (by omega)
theorem QI.crash {f : Int} {X : ByteArray} {s : DS} (h : QI f X s) (keep : List Int) : QI f X (crashS s keep) := by
  unfold crashS
  split
  · exact h
  · refine ⟨?_, fun q hq => by cases hq⟩
    show (⟨(survN keep s.queue s.fs s.queue.length f).last, (survN keep s.queue s.fs s.queue.length f).last⟩ : FileV) = _
    rw [survN_other h.q _ (Nat.le_refl _), h.fs]
theorem QI.ends {f : Int} {X : ByteArray} {s : DS} (h : QI f X s) : QI f X (endsS s) := by unfold endsS; split; exact h; exact ⟨h.fs, h.q⟩
theorem QI.come {f : Int} {X : ByteArray} {s : DS} (h : QI f X s) : QI f X (comeS s) := by unfold comeS; split; exact h.ends.crash _; exact h.ends
theorem QI.write {f g : Int} {X : ByteArray} {s : DS} (h : QI f X s) (hg : g ≠ f) (a : Int) (t : ByteArray) : QI f X (writeW s g a t) := by
  unfold writeW addS
  split
  · split
    · exact h
    · refine ⟨?_, fun q hq => ?_⟩
      · show upd s.fs g _ f = _
        rw [upd_ne (Ne.symm hg)]; exact h.fs
      · rcases addQ_mem.1 hq with hq | ⟨n, _, rfl⟩
        · exact h.q q hq
        · exact hg
  · exact h
theorem QI.settle {f g : Int} {X Y : ByteArray} {s : DS} (h : QI f X s) (hg : g ≠ f) : QI f X (settleS s g Y) := by
  refine ⟨?_, fun q hq => h.q q (List.mem_filter.1 hq).1⟩
  show upd s.fs g _ f = _
  rw [upd_ne (Ne.symm hg)]; exact h.fs
theorem QI.act {f : Int} {X : ByteArray} {s : DS} (h : QI f X s) {a : Act4} {keep : List Int} (ha : a.do_ % 8 < 4 ∧ a.f ≠ f ∨ a.do_ % 8 = 4) : QI f X (actT s a keep).1 := by
  unfold actT
  have hp : 0 ≤ a.do_ % 8 ∧ a.do_ % 8 < 8 := by omega
  split
  · rename_i e
    have hg : a.f ≠ f := by rcases ha with ha | ha; exact ha.2; omega
    unfold syncT
    split
    · exact h.come
    · split
      · exact ⟨h.come.fs, h.come.q⟩
      · exact h.come.settle hg
  · split
    · rename_i e
      have hg : a.f ≠ f := by rcases ha with ha | ha; exact ha.2; omega
      unfold truncT
      split
      · exact h.come
      · split
        · exact h.come
        · split
          · exact h.come
          · exact h.come.settle hg
    · split
      · exact ⟨h.fs, h.q⟩
      · split
        · omega
        · split
          · omega
          · split
            · omega
            · have hg : a.f ≠ f := by rcases ha with ha | ha; exact ha.2; omega
              unfold writeT
              split
              · exact (h.ends.write hg _ _).crash _
              · exact h.ends.write hg _ _
theorem sync_ok {s : DS} {f : Int} (h : (syncT s f).2 = 0) : mayS s f = 0 ∧ (syncT s f).1 = settleS (endsS s) f (s.fs f).now ∧ (syncT s f).1.down = false := by
  have hc : mayS (comeS s) f = 0 ∧ (syncT s f).1 = settleS (comeS s) f ((comeS s).fs f).now := by
    unfold syncT at h ⊢
    split at h
    · rename_i e
      exact absurd h e
    · rename_i e
      split at h
      · cases h
      · rename_i e2
        rw [if_neg e, if_neg e2]
        exact ⟨by simpa using e, rfl⟩
  have hd := (mayS_zero.1 hc.1).1
  have he : endsB s = false := by
    cases hb : endsB s with
    | false => rfl
    | true =>
      unfold comeS at hd
      rw [if_pos hb] at hd
      unfold crashS at hd
      split at hd
      · rename_i e; rw [e] at hd; cases hd
      · cases hd
  have hce : comeS s = endsS s := by unfold comeS; rw [if_neg (by rw [he]; decide)]
  have hed : (endsS s).down = s.down := by unfold endsS; split <;> rfl
  have hef : (endsS s).fs = s.fs := by unfold endsS; split <;> rfl
  rw [hce] at hc hd
  refine ⟨by rw [may_eq hed.symm]; exact hc.1, by rw [hc.2, hef], by rw [hc.2]; exact hd⟩

set_option maxHeartbeats 1000000 in
theorem diskSynced_pt {W : World} {v0 v2 v3 : Value} {l l2 : List Act4} {keep : List Int} {f : Int} (r0 : rowR v0 l (lawB W)) (hm : l.length ≤ maxLen) (hq : ∀ x ∈ l, okInt W x.do_ ∧ okInt W x.f ∧ okInt W x.n ∧ okStr W x.s ∧ (∃ k : List Int, rowR x.keep.1 k (lawB W) ∧ k.length ≤ maxLen ∧ ∀ y ∈ k, okInt W y))
    (r02 : rowR v2 l2 (lawB W)) (hm2 : l2.length ≤ maxLen) (hq2 : ∀ x ∈ l2, okInt W x.do_ ∧ okInt W x.f ∧ okInt W x.n ∧ okStr W x.s ∧ (∃ k : List Int, rowR x.keep.1 k (lawB W) ∧ k.length ≤ maxLen ∧ ∀ y ∈ k, okInt W y)) (rk : rowR v3 keep (lawB W)) {K : Value → World → Prop}
    (fin : ∀ w' σ, Rel (lawB W) w' σ → K (.bool true) w') : erratalaw04_DiskSynced.pt v0 (.int .i64 f) v2 v3 W K := by
  obtain ⟨L, rfl, qd⟩ := acts_of l fun x hx => (hq x hx).2.2.2.2.imp fun _ h => h.1
  obtain ⟨M, rfl, qm⟩ := acts_of l2 fun x hx => (hq2 x hx).2.2.2.2.imp fun _ h => h.1
  have r := r0
  have rm := r02
  clear r0 r02
  have hr : inRange L := fun x hx => by
    have := (hq x.1 (List.mem_map_of_mem hx)).2.2.1
    exact ⟨this.2, this.1⟩
  have hrm : inRange M := fun x hx => by
    have := (hq2 x.1 (List.mem_map_of_mem hx)).2.2.1
    exact ⟨this.2, this.1⟩
  clear hq hq2
  have hal : (acts L).length = L.length := List.length_map ..
  have ham : (acts M).length = M.length := List.length_map ..
  rw [hal] at hm
  rw [ham] at hm2
  unfold maxLen at hm hm2
  unfold erratalaw04_DiskSynced.pt
  refine small_r (lawB.start W) fun w1 h => ?_
  refine h.ask (fun B2 own base2 => few_g (base2 r) (base2 qd) (by omega)) fun w2 h => ?_
  rw [un_not, ifB_not, ifB_bool]
  refine ⟨fun hf => ?_, fun _ => fin _ _ h⟩
  have hf := fewS_true.1 hf
  refine h.ask (fun B2 own base2 => few_g (base2 rm) (base2 qm) (by omega)) fun w3 h => ?_
  rw [un_not, ifB_not, ifB_bool]
  refine ⟨fun hfm => ?_, fun _ => fin _ _ h⟩
  have hfm := fewS_true.1 hfm
  have hml := hfm.len
  simp -zeta only [rowR.len rk sl_s_int, bin_gtr, ifB_dec]
  refine ⟨fun _ => fin _ _ h, fun hkl => ?_⟩
  refine h.make (fun B2 own base2 => played_m (base2 r) (base2 qd) hf hr) fun u τ w4 hp h => ?_
  obtain ⟨p, kv, rfl, hpk, rfl⟩ := hp
  rw [nil_ne, ifB_false]
  generalize playS L = s at h hpk
  have h : Rel (lawB W) w4 [diskD p s kv, rowR kv s.keep] := h
  obtain ⟨hok, _⟩ := diskD.ok (h.here (i := 0) rfl)
  refine h.ask (fun B2 own base2 => Read_g (own (i := 0) rfl) f 0 16777216) fun w5 h => ?_
  rw [ext_2_0, ext_2_1]
  refine h.act 0 rfl (fun B2 own base2 => Sync_d (own (j := 1) (by decide) rfl) (by omega) f) fun v e' τ w6 hp h => ?_
  obtain ⟨rfl, rfl, rfl⟩ := hp
  rw [bin_neq, ifB_not, ifB_dec]
  refine ⟨fun he => ?_, fun _ => fin _ _ h⟩
  obtain ⟨hmay, hset, hdn⟩ := sync_ok he
  have hok1 := hok.syncT f
  have hk1 := keep_syncT s f
  have hQ : QI f (s.fs f).now (syncT s f).1 := by
    rw [hset]
    refine ⟨?_, fun q hq => by simpa using (List.mem_filter.1 hq).2⟩
    show upd _ f _ f = _
    exact upd_same
  rw [readT_all hok hmay]
  generalize (s.fs f).now = X at hQ ⊢
  have h : Rel (lawB W) w6 [diskD p (syncT s f).1 kv, rowR kv s.keep] := h
  rw [← hk1] at h hpk
  have hfr := (mayS_zero.1 hmay).2
  clear hset he hmay
  generalize (syncT s f).1 = s1 at h hpk hQ hok1 hdn ⊢
  refine h.ask (fun B2 own base2 => Read_g (own (i := 0) rfl) f 0 16777216) fun w7 h => ?_
  rw [readT_all hok1 (mayS_zero.2 ⟨hdn, hfr⟩), hQ.fs, ext_2_0, ext_2_1]
  refine LOOP_intro (fun x w' => ∃ (i : Nat) (s : DS) (kv : Value), i ≤ M.length ∧ x = (.int .i64 i, ()) ∧ QI f X s ∧ s.keep.length ≤ 60 ∧ Rel (lawB W) w' [diskD p s kv, rowR kv s.keep]) (fun x _ => M.length - (match x.1 with | .int _ n => n.toNat | _ => 0))
    ⟨0, s1, kv, Nat.zero_le _, rfl, hQ, hpk, h⟩ ?_
  clear h hQ hpk hok1 hdn
  rintro x w8 ⟨i, s, kv, hil, rfl, hQ, hpk, h⟩ next hnext
  simp -zeta only [rowR.len rm sl_s_erratalaw04_Act, bin_lss, ifB_dec]
  rw [ham]
  refine ⟨fun hlt => ?_, fun hge => ?_⟩
  · have hi : i < M.length := by omega
    refine LETJ_intro fun J hJ => ?_
    replace hJ : ∀ (s : DS) (kv : Value) w', QI f X s → s.keep.length ≤ 60 → Rel (lawB W) w' [diskD p s kv, rowR kv s.keep] → J () w' := by
      intro s kv w' h1 h2 h
      refine hJ _ _ ?_
      rw [bin_add, wrap_id (by omega) (by omega)]
      exact hnext _ _ ⟨i + 1, s, kv, hi, rfl, h1, h2, h⟩ (by simp only; omega)
    clear hnext
    obtain ⟨g, o, hx, hc⟩ := rowR.idx rm sl_s_erratalaw04_Act (P := Try.prog) (i := i) (by omega)
    have e1 : (acts M)[i]'(by omega) = M[i].1 := by simp
    rw [e1] at hc
    have hc : cellsR g o M[i].1.cs (lawB W) := hc
    have hfi := hfm.each _ (List.getElem_mem hi)
    have go : (M[i].1.do_ % 8 < 4 ∧ M[i].1.f ≠ f ∨ M[i].1.do_ % 8 = 4) → upK Try.prog (sCall F_erratalaw04_do #[ptr p, .agg M[i].1.cs.toArray]) w8 fun _ w' => J () w' := by
      intro ha
      refine do2_r h hpk (qm M[i] (List.getElem_mem hi)) hfi.keep (by have := hfi.s; omega) (hrm _ (List.getElem_mem hi)).1 fun kv' w9 hk h => ?_
      exact hJ _ kv' w9 (hQ.act ha) hk h
    simp -zeta only [hx, field_addr f_erratalaw04_Act_0, field_addr f_erratalaw04_Act_1, Nat.add_zero, cellsR.ld0 (h.hereB hc) sc_int rfl, cellsR.ld (h.hereB hc) sc_int (j := 1) rfl, cellsR.ldAg (h.hereB hc) ag_erratalaw04_Act rfl, bin_and, and_7, bin_lss, bin_neq, bin_eql, ifB_not, ifB_dec]
    exact ⟨fun d1 => ⟨fun d2 => ⟨fun d3 => go (.inr d3), fun _ => hJ s kv _ hQ hpk h⟩, fun d2 => go (.inl ⟨d1, d2⟩)⟩, fun d1 => ⟨fun d3 => go (.inr d3), fun _ => hJ s kv _ hQ hpk h⟩⟩
  · clear hnext
    refine h.act 0 rfl (fun B2 own base2 => crash_d (base2 rk) (by omega)) fun v e' τ w9 hp h => ?_
    obtain ⟨rfl, rfl, rfl⟩ := hp
    refine h.act 0 rfl (fun B2 own base2 => Start_d) fun v e' τ w10 hp h => ?_
    obtain ⟨rfl, rfl, rfl⟩ := hp
    have hok2 := (diskD.ok (h.here (i := 0) rfl)).1
    refine h.ask (fun B2 own base2 => Read_g (own (i := 0) rfl) f 0 16777216) fun w11 h => ?_
    rw [readT_all hok2 (mayS_zero.2 ⟨rfl, hfr⟩)]
    have e : ({ crashS s keep with down := false } : DS).fs f = ⟨X, X⟩ := (hQ.crash keep).fs
    rw [e, ext_2_0, ext_2_1]
    simp -zeta only [ifB_true, bin_eql, eql_str, decide_true]
    exact fin _ _ h
end Go.Proofs.Ytoldlajahoodjaa
