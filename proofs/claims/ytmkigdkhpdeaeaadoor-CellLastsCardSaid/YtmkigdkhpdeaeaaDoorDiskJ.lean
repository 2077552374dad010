/-
  The reference's disk of chapter 4: it does the same in plain words. No condition.
-/
import Derived.Test.YtmkigdkhpdeaeaaDoorDiskG
namespace Go.Proofs.YtmkigdkhpdeaeaaDoor
open Go.RowKit
abbrev RFile := D_errataref04_File
abbrev RSec := D_errataref04_Sector
abbrev secR (q : Sec) : RSec := ⟨q.file, q.number⟩

section
variable {B : Base}
theorem RPut_g {s t : ByteArray} {at_ : Nat} (hs : s.size ≤ 1073741824) (ht : t.size ≤ 1073741824) (ha : at_ ≤ 1073741824) : Gives Tryd.prog B (sCall F_errataref04_Put #[.string s, .int .i64 at_, .string t]) (.string (putB s at_ t)) := by
  refine Gives.intro fun B' w K base h k => ?_
  refine errataref04_Put.up (errataref04_Put.call ?_)
  unfold errataref04_Put.pt
  have hbs := bl_length s
  have hbt := bl_length t
  rw [eql_str, ifB_dec]
  unfold putB at k
  refine ⟨fun e => by rw [if_pos e] at k; exact k _ _ h, fun e => ?_⟩
  rw [if_neg e] at k
  have hpl := padL_length (bl s) at_ (bl t).length
  refine h.fromStr U_string U_s_uint8 U_uint8 (by omega) fun v w1 h => ?_
  have h : Rel B' w1 [bytesZ T_uint8 v (bl s)] := h
  refine LETJ_intro fun J hJ => ?_
  replace hJ : ∀ v w', Rel B' w' [bytesZ T_uint8 v (padL (bl s) at_ (bl t).length)] → J (v, ()) w' := by
    intro v w2 h
    refine hJ _ _ ?_
    clear hJ
    generalize hp : padL (bl s) at_ (bl t).length = p at h hpl
    obtain ⟨g, cap, rfl⟩ := h.openZ (i := 0) rfl
    refine LOOP_intro (fun x w' => ∃ i : Nat, i ≤ (bl t).length ∧ x = (.int .i64 i, ()) ∧ Rel B' w' [bytesZ T_uint8 (.slice (some ⟨g, 0, none⟩) p.length cap) (p.take at_ ++ (bl t).take i ++ p.drop (at_ + i))]) (fun x _ => (bl t).length - (match x.1 with | .int _ n => n.toNat | _ => 0))
      ⟨0, Nat.zero_le _, rfl, by simpa using h⟩ ?_
    clear h
    rintro x w3 ⟨i, hi, rfl, h⟩ next hnext
    simp -zeta only [str_len U_string, bin_lss, ifB_dec]
    refine ⟨fun hlt => ?_, fun hge => ?_⟩
    · have hil : i < (bl t).length := by omega
      have hw : IntKind.i64.wrap ((at_ : Int) + (i : Int)) = ((at_ + i : Nat) : Int) := by rw [wrap_id (by omega) (by omega)]; omega
      have hlen : (p.take at_ ++ (bl t).take i ++ p.drop (at_ + i)).length = p.length := by
        rw [List.length_append, List.length_append, List.length_take, List.length_take, List.length_drop]
        omega
      simp -zeta only [bin_add, hw, str_idx U_string (show i < t.size by omega), idx_own (α := UInt8) (P := Tryd.prog) (g := g) (cap := cap) (n := p.length) (i := at_ + i) sl_s_uint8 (by omega)]
      have hm1 : (at_ + i) * Enc.sz UInt8 = at_ + i := Nat.mul_one _
      rw [hm1]
      refine h.setZ 0 (j := at_ + i) rfl ((bl t)[i]) (by rw [hlen]; omega) sc_uint8 fun w4 h => ?_
      have e : (p.take at_ ++ (bl t).take i ++ p.drop (at_ + i)).set (at_ + i) (bl t)[i] = p.take at_ ++ (bl t).take (i + 1) ++ p.drop (at_ + (i + 1)) := by
        have hl1 : (p.take at_ ++ (bl t).take i).length = at_ + i := by rw [List.length_append, List.length_take, List.length_take]; omega
        rw [List.set_append_right _ _ (by omega), hl1, Nat.sub_self, List.drop_eq_getElem_cons (show at_ + i < p.length by omega), List.set_cons_zero, List.take_succ_eq_append_getElem hil, ← List.append_assoc, List.append_assoc, List.append_assoc, List.append_assoc]
        rfl
      rw [e] at h
      rw [wrap_id (by omega) (by omega)]
      exact hnext _ _ ⟨i + 1, hil, rfl, h⟩ (by simp only; omega)
    · have hie : i = (bl t).length := by omega
      subst hie
      rw [List.take_length] at h
      have hr := bytesZ.read (h.here (i := 0) rfl)
      refine upK_of (conv_row hr U_s_uint8 U_uint8 U_string) ?_
      have e2 : ofL (p.take at_ ++ bl t ++ p.drop (at_ + (bl t).length)) = ofL (putL (bl s) at_ (bl t)) := by unfold putL; rw [hp]
      rw [e2]
      exact k _ _ h
  refine LOOP_intro (fun x w' => ∃ (j : Nat) (v : Value), j ≤ max (bl s).length (at_ + (bl t).length) - (bl s).length ∧ x = (v, ()) ∧ Rel B' w' [bytesZ T_uint8 v (bl s ++ List.replicate j 0)]) (fun x _ => max (bl s).length (at_ + (bl t).length) - (match x.1 with | .slice _ n _ => n | _ => 0))
    ⟨0, v, Nat.zero_le _, rfl, by simpa using h⟩ ?_
  clear h
  rintro x w2 ⟨j, v, hj, rfl, h⟩ next hnext
  have hlen : (bl s ++ List.replicate j (0 : UInt8)).length = (bl s).length + j := by rw [List.length_append, List.length_replicate]
  obtain ⟨g, cap, hv⟩ := h.openZ (i := 0) rfl
  have hw : IntKind.i64.wrap ((at_ : Int) + ((bl t).length : Int)) = ((at_ + (bl t).length : Nat) : Int) := by rw [wrap_id (by omega) (by omega)]; omega
  have hr := bytesZ.read (h.here (i := 0) rfl)
  simp -zeta only [rowR.len hr sl_s_uint8, str_len U_string, bin_add, hw, bin_lss, ifB_dec]
  clear hr
  rw [hlen]
  refine ⟨fun hlt => ?_, fun hge => ?_⟩
  · refine h.pushZ 0 rfl (0 : UInt8) sl_s_uint8 (by omega) fun v' w3 h => ?_
    have e : bl s ++ List.replicate j (0 : UInt8) ++ [0] = bl s ++ List.replicate (j + 1) 0 := by rw [List.append_assoc, ← List.replicate_succ']
    have h : Rel B' w3 [bytesZ T_uint8 v' (bl s ++ List.replicate j 0 ++ [0])] := h
    rw [e] at h
    obtain ⟨g', cap', hv'⟩ := h.openZ (i := 0) rfl
    refine hnext _ _ ⟨j + 1, v', by omega, rfl, h⟩ ?_
    rw [hv, hv']
    simp only [List.length_append, List.length_replicate]
    omega
  · have hje : j = max (bl s).length (at_ + (bl t).length) - (bl s).length := by omega
    subst hje
    exact hJ v _ h
end

/-! ### The reference's disk as a thing -/
def getF (Fl : List RFile) (f : Int) : FileV := match Fl.find? fun x => decide (x.number = f) with
  | some x => ⟨x.now, x.last⟩
  | none => F0
structure RX (s : DS) (Fl : List RFile) : Prop where
  files : ∀ f, s.fs f = getF Fl f
  nums : (Fl.map (·.number)).Nodup
  rng : ∀ x ∈ Fl, 0 ≤ x.number ∧ x.number < 16
  ok : DOk s
theorem RX.len {s : DS} {Fl : List RFile} (h : RX s Fl) : Fl.length ≤ 16 := by
  have : (Fl.map fun x : RFile => x.number.toNat).length ≤ 16 := by
    refine nodup_le _ _ ?_ fun x hx => ?_
    · rw [List.nodup_iff_pairwise_ne, List.pairwise_map]
      have hn := List.nodup_iff_pairwise_ne.1 h.nums
      rw [List.pairwise_map] at hn
      refine List.Pairwise.imp_of_mem ?_ hn
      intro a b ha hb hab e
      have := h.rng a ha
      have := h.rng b hb
      exact hab (by omega)
    · obtain ⟨y, hy, rfl⟩ := List.mem_map.1 hx
      have := h.rng y hy
      omega
  simpa using this
abbrev rcs (fv qv : Value) (s : DS) (kv : Value) : Array Value := #[fv, qv, .int .i64 s.lost, .bool s.down, .int .i64 s.armed, kv]
abbrev rparts (q : Nat) (s : DS) (kv : Value) (x : (Value × List RFile) × Value) : List Dat := [cellD q T_errataref04_Disk (rcs x.1.1 x.2 s kv), rowD T_errataref04_File x.1.1 x.1.2, rowD T_errataref04_Sector x.2 (s.queue.map secR)]
def refD (q : Nat) (s : DS) (kv : Value) : Dat := Dat.ex fun x : (Value × List RFile) × Value => (Dat.pure (RX s x.1.2 ∧ kv.oneCell' = true)).and (stars (rparts q s kv x))
section
variable {B : Base} {w : World} {q : Nat} {s : DS} {kv : Value}
theorem refD.open_ (h : Rel B w [refD q s kv]) : ∃ fv Fl qv, RX s Fl ∧ kv.oneCell' = true ∧ Rel B w [cellD q T_errataref04_Disk (rcs fv qv s kv), rowD T_errataref04_File fv Fl, rowD T_errataref04_Sector qv (s.queue.map secR)] := by
  obtain ⟨x, h⟩ := h.ex (i := 0) rfl
  obtain ⟨⟨h1, h2⟩, h⟩ := h.pureAnd (i := 0) rfl
  have h := Rel.unstars (σ := []) (L := rparts q s kv x) h
  exact ⟨_, _, _, h1, h2, h⟩
theorem refD.close {fv qv : Value} {Fl : List RFile} (hf : RX s Fl) (hk : kv.oneCell' = true) (h : Rel B w [cellD q T_errataref04_Disk (rcs fv qv s kv), rowD T_errataref04_File fv Fl, rowD T_errataref04_Sector qv (s.queue.map secR)]) : Rel B w [refD q s kv] := by
  have h := Rel.restars (σ := []) h
  exact h.imp (i := 0) (e := refD q s kv) rfl fun B hB => ⟨((fv, Fl), qv), ⟨hf, hk⟩, hB⟩
theorem refD.peek (h : refD q s kv B) : ∃ fv Fl qv, RX s Fl ∧ cellD q T_errataref04_Disk (rcs fv qv s kv) B ∧ rowD T_errataref04_File fv Fl B ∧ rowD T_errataref04_Sector qv (s.queue.map secR) B := by
  obtain ⟨x, ⟨h1, h2⟩, h3⟩ := h
  exact ⟨_, _, _, h1, Dat.star.left h3, Dat.star.left (Dat.star.right h3), Dat.star.left (Dat.star.right (Dat.star.right h3))⟩
theorem refD.ok (h : refD q s kv B) : DOk s ∧ kv.oneCell' = true := by
  obtain ⟨x, ⟨h1, h2⟩, h3⟩ := h
  exact ⟨h1.ok, h2⟩

theorem Rmay_g {fv qv : Value} (hc : cellD q T_errataref04_Disk (rcs fv qv s kv) B) (f : Int) : Gives Tryd.prog B (sCall F_errataref04_Disk_may #[ptr q, .int .i64 f]) (.int .i64 (mayS s f)) := by
  refine Gives.intro fun B' w K base h k => ?_
  replace hc := base hc
  refine errataref04_Disk_may.up (errataref04_Disk_may.call ?_)
  unfold errataref04_Disk_may.pt
  unfold mayS at k
  simp -zeta only [nil_ptr, field_addr f_errataref04_Disk_3, Nat.zero_add, cellD.ld (h.hereB hc) sc_bool (o := 3) rfl]
  rw [ifB_bool]
  refine ⟨fun e => by rw [if_pos e] at k; exact k _ _ h, fun e => ?_⟩
  rw [if_neg (by rw [e]; decide)] at k
  simp -zeta only [bin_lss, bin_gtr, ifB_dec]
  refine ⟨fun h1 => by rw [if_pos h1] at k; exact k _ _ h, fun h1 => ⟨fun h2 => ?_, fun h2 => ?_⟩⟩
  · rw [if_neg h1, if_pos (by omega)] at k; exact k _ _ h
  · rw [if_neg h1, if_neg (by omega)] at k; exact k _ _ h
theorem Rget_g {fv qv : Value} {Fl : List RFile} (hF : RX s Fl) (hc : cellD q T_errataref04_Disk (rcs fv qv s kv) B) (hf : rowD T_errataref04_File fv Fl B) (f : Int) : Gives Tryd.prog B (sCall F_errataref04_Disk_get #[ptr q, .int .i64 f]) (.agg #[.int .i64 f, .string (s.fs f).now, .string (s.fs f).last]) := by
  refine Gives.intro fun B' w K base h k => ?_
  replace hc := base hc
  have hfr := rowD.read (base hf)
  have hfv := hF.files f
  have hlen := hF.len
  refine errataref04_Disk_get.up (errataref04_Disk_get.call ?_)
  unfold errataref04_Disk_get.pt
  refine h.alloc z_errataref04_File fun b w1 h => ?_
  have h : Rel B' w1 [cellD b T_errataref04_File #[.int .i64 0, .string ⟨#[]⟩, .string ⟨#[]⟩]] := h
  refine LOOP_intro (fun x w' => ∃ i : Nat, i ≤ Fl.length ∧ x = (.int .i64 i, ()) ∧ (∀ x ∈ Fl.take i, x.number ≠ f) ∧ Rel B' w' [cellD b T_errataref04_File #[.int .i64 0, .string ⟨#[]⟩, .string ⟨#[]⟩]]) (fun x _ => Fl.length - (match x.1 with | .int _ n => n.toNat | _ => 0))
    ⟨0, Nat.zero_le _, rfl, (fun x hx => by simp at hx), h⟩ ?_
  clear h
  rintro x w2 ⟨i, hi, rfl, hno, h⟩ next hnext
  simp -zeta only [nil_ptr, field_addr f_errataref04_Disk_0, Nat.add_zero, cellD.ld (h.hereB hc) sc_s_errataref04_File (o := 0) rfl, rowR.len hfr sl_s_errataref04_File, bin_lss, ifB_dec]
  refine ⟨fun hlt => ?_, fun hge => ?_⟩
  · have hil : i < Fl.length := by omega
    obtain ⟨g, o, hx, hcl⟩ := rowR.idx hfr sl_s_errataref04_File (P := Tryd.prog) hil
    have hcl : cellsR g o Fl[i].cs B' := hcl
    simp -zeta only [hx, field_addr f_errataref04_File_0, Nat.add_zero, cellsR.ld0 (h.hereB hcl) sc_int rfl, cellsR.ldAg (h.hereB hcl) ag_errataref04_File rfl, bin_eql, ifB_dec]
    refine ⟨fun e => ?_, fun e => ?_⟩
    · refine h.stAll 0 (ds := Fl[i].cs.toArray) rfl ag_errataref04_File rfl rfl (fun v hv => Enc.one Fl[i] v hv) fun w3 h => ?_
      rw [rv_ag h 0 rfl ag_errataref04_File rfl]
      have hg : getF Fl f = ⟨Fl[i].now, Fl[i].last⟩ := by
        unfold getF
        have : Fl.find? (fun x => decide (x.number = f)) = some Fl[i] := by
          rw [List.find?_eq_some_iff_getElem]
          refine ⟨decide_eq_true e, i, hil, rfl, fun j hj => ?_⟩
          have := hno Fl[j] (List.mem_take_iff_getElem.2 ⟨j, by omega, rfl⟩)
          simp [this]
        rw [this]
      have e2 : (Value.agg #[.int .i64 f, .string (s.fs f).now, .string (s.fs f).last]) = .agg Fl[i].cs.toArray := by
        rw [hfv, hg, ← e]
      rw [← e2]
      exact k _ _ h
    · rw [bin_add, wrap_id (by omega) (by omega)]
      refine hnext _ _ ⟨i + 1, hil, rfl, fun x hx => ?_, h⟩ (by simp only; omega)
      rw [List.take_succ_eq_append_getElem hil] at hx
      rcases List.mem_append.1 hx with hx | hx
      · exact hno x hx
      · simp at hx; subst hx; exact e
  · rw [bd_errataref04_File_0]
    refine h.stAll 0 (ds := (⟨f, ⟨#[]⟩, ⟨#[]⟩⟩ : RFile).cs.toArray) rfl ag_errataref04_File rfl rfl (fun v hv => Enc.one (⟨f, ⟨#[]⟩, ⟨#[]⟩⟩ : RFile) v hv) fun w3 h => ?_
    rw [rv_ag h 0 rfl ag_errataref04_File rfl]
    have hg : getF Fl f = F0 := by
      unfold getF
      have : Fl.find? (fun x => decide (x.number = f)) = none := by
        rw [List.find?_eq_none]
        intro x hx
        rw [List.take_of_length_le (by omega)] at hno
        simp [hno x hx]
      rw [this]
    rw [hfv, hg] at k
    exact k _ _ h
theorem RSize_g (hd : refD q s kv B) (f : Int) : Gives Tryd.prog B (sCall F_errataref04_Disk_Size #[ptr q, .int .i64 f]) (.int .i64 (s.fs f).now.size) := by
  refine Gives.intro fun B' w K base h k => ?_
  obtain ⟨fv, Fl, qv, hF, hc, hf, hq⟩ := refD.peek (base hd)
  refine errataref04_Disk_Size.up (errataref04_Disk_Size.call ?_)
  unfold errataref04_Disk_Size.pt
  refine h.ask (fun B2 own base2 => Rget_g hF (base2 hc) (base2 hf) f) fun w1 h => ?_
  rw [field_sc (cs := #[.int .i64 f, .string (s.fs f).now, .string (s.fs f).last]) (v := .string (s.fs f).now) g_errataref04_File_1 rfl, len_string U_string]
  exact k _ _ h
theorem RRead_g (hd : refD q s kv B) (f at_ size : Int) : Gives Tryd.prog B (sCall F_errataref04_Disk_Read #[ptr q, .int .i64 f, .int .i64 at_, .int .i64 size]) (.tuple #[.string (readT s f at_ size).1, .int .i64 (readT s f at_ size).2]) := by
  refine Gives.intro fun B' w K base h k => ?_
  obtain ⟨fv, Fl, qv, hF, hc, hf, hq⟩ := refD.peek (base hd)
  refine errataref04_Disk_Read.up (errataref04_Disk_Read.call ?_)
  unfold errataref04_Disk_Read.pt
  unfold readT at k
  refine h.ask (fun B2 own base2 => Rmay_g (base2 hc) f) fun w1 h => ?_
  simp -zeta only [bin_neq, ifB_not, ifB_dec]
  refine ⟨fun e0 => ?_, fun e0 => by rw [if_pos e0] at k; exact k _ _ h⟩
  rw [if_neg (by simpa using e0)] at k
  simp -zeta only [bin_lss, ifB_dec]
  refine ⟨fun e1 => by rw [if_pos e1] at k; exact k _ _ h, fun e1 => ⟨fun e2 => by rw [if_neg e1, if_pos e2] at k; exact k _ _ h, fun e2 => ?_⟩⟩
  rw [if_neg e1, if_neg e2] at k
  have hsz := hF.ok.now f
  have hb := bl_length (s.fs f).now
  refine h.ask (fun B2 own base2 => Rget_g hF (base2 hc) (base2 hf) f) fun w2 h => ?_
  rw [field_sc (cs := #[.int .i64 f, .string (s.fs f).now, .string (s.fs f).last]) (v := .string (s.fs f).now) g_errataref04_File_1 rfl]
  generalize (s.fs f).now = X at *
  simp -zeta only [str_len U_string, bin_geq, ifB_dec]
  refine ⟨fun e3 => ?_, fun e3 => ?_⟩
  · rw [List.drop_of_length_le (by omega), List.take_nil] at k
    exact k _ _ h
  · have hw : IntKind.i64.wrap (((bl X).length : Int) - at_) = ((bl X).length : Int) - at_ := wrap_id (by omega) (by omega)
    have hw2 : IntKind.i64.wrap (at_ + min size (((bl X).length : Int) - at_)) = ((at_.toNat + min size.toNat ((bl X).length - at_.toNat) : Nat) : Int) := by rw [wrap_id (by omega) (by omega)]; omega
    simp -zeta only [bin_sub, hw, blt_min, bin_add, hw2]
    obtain ⟨a, rfl⟩ : ∃ a : Nat, at_ = a := ⟨at_.toNat, by omega⟩
    have ha : min a (bl X).length = a := by omega
    rw [Int.toNat_natCast] at k ⊢
    rw [str_cut U_string (s := X) (lo := a) (hi := a + min size.toNat ((bl X).length - a)) Bnd.some Bnd.some (by omega) (by omega)]
    have := part_eq (bl X) a size.toNat
    rw [ha] at this
    rw [this]
    exact k _ _ h

theorem getF_set {Fl : List RFile} {x : RFile} (f : Int) : getF (Fl.filter (fun y => !decide (y.number = x.number)) ++ [x]) f = if f = x.number then ⟨x.now, x.last⟩ else getF Fl f := by
  unfold getF
  by_cases e : f = x.number
  · rw [if_pos e]
    have : (Fl.filter (fun y => !decide (y.number = x.number)) ++ [x]).find? (fun y => decide (y.number = f)) = some x := by
      rw [List.find?_append]
      have h0 : (Fl.filter fun y => !decide (y.number = x.number)).find? (fun y => decide (y.number = f)) = none := by
        rw [List.find?_eq_none]
        intro y hy
        have := (List.mem_filter.1 hy).2
        simp at this
        simp [e, this]
      rw [h0]
      simp [e]
    rw [this]
  · rw [if_neg e]
    have : (Fl.filter (fun y => !decide (y.number = x.number)) ++ [x]).find? (fun y => decide (y.number = f)) = Fl.find? fun y => decide (y.number = f) := by
      rw [List.find?_append]
      have h1 : [x].find? (fun y => decide (y.number = f)) = none := by simp [Ne.symm e]
      rw [h1, Option.or_none, List.find?_filter]
      congr 1
      funext y
      by_cases h : y.number = f
      · subst h; simp [e]
      · simp [h]
    rw [this]
theorem Rset_d {x : RFile} (hr : 0 ≤ x.number ∧ x.number < 16) (hx : x.now.size ≤ 16777216 ∧ x.last.size ≤ 16777216) : Does Tryd.prog B (refD q s kv) (sCall F_errataref04_Disk_set #[ptr q, x.v]) fun v e' τ => v = .tuple #[] ∧ e' = refD q { s with fs := upd s.fs x.number ⟨x.now, x.last⟩ } kv ∧ τ = [] := by
  refine Does.intro fun B' w K base h k => ?_
  obtain ⟨fv, Fl, qv, hF, hk, h⟩ := refD.open_ h
  have hlen := hF.len
  refine errataref04_Disk_set.up (errataref04_Disk_set.call ?_)
  unfold errataref04_Disk_set.pt
  refine h.box fun b w1 h => ?_
  have h : Rel B' w1 [cellD q T_errataref04_Disk (rcs fv qv s kv), rowD T_errataref04_File fv Fl, rowD T_errataref04_Sector qv (s.queue.map secR), cellD b T_errataref04_File x.cs.toArray] := h
  refine LOOP_intro (fun y w' => ∃ (i : Nat) (u : Value), i ≤ Fl.length ∧ y = (u, .int .i64 i, ()) ∧ Rel B' w' [cellD q T_errataref04_Disk (rcs fv qv s kv), rowD T_errataref04_File fv Fl, rowD T_errataref04_Sector qv (s.queue.map secR), cellD b T_errataref04_File x.cs.toArray, rowD T_errataref04_File u ((Fl.take i).filter fun y => !decide (y.number = x.number))]) (fun y _ => Fl.length - (match y.2.1 with | .int _ n => n.toNat | _ => 0))
    ⟨0, _, Nat.zero_le _, rfl, h.addNil RFile T_errataref04_File⟩ ?_
  clear h
  rintro y w2 ⟨i, u, hi, rfl, h⟩ next hnext
  have hfl : ((Fl.take i).filter fun y => !decide (y.number = x.number)).length ≤ i := Nat.le_trans (List.length_filter_le _ _) (by rw [List.length_take]; omega)
  have hfr := rowD.read (h.here (i := 1) rfl)
  simp -zeta only [nil_ptr, field_addr f_errataref04_Disk_0, Nat.add_zero, h.ld 0 rfl sc_s_errataref04_File (o := 0) rfl, rowR.len hfr sl_s_errataref04_File, bin_lss, ifB_dec]
  refine ⟨fun hlt => ?_, fun hge => ?_⟩
  · have hil : i < Fl.length := by omega
    have et : (Fl.take (i + 1)).filter (fun y => !decide (y.number = x.number)) = (Fl.take i).filter (fun y => !decide (y.number = x.number)) ++ if Fl[i].number = x.number then [] else [Fl[i]] := by
      rw [List.take_succ_eq_append_getElem hil, List.filter_append, List.filter_cons]
      by_cases e : Fl[i].number = x.number
      · rw [if_pos e, if_neg (by simp [e])]; rfl
      · rw [if_neg e, if_pos (by simp [e])]; rfl
    refine LETJ_intro fun J hJ => ?_
    replace hJ : ∀ u w', Rel B' w' [cellD q T_errataref04_Disk (rcs fv qv s kv), rowD T_errataref04_File fv Fl, rowD T_errataref04_Sector qv (s.queue.map secR), cellD b T_errataref04_File x.cs.toArray, rowD T_errataref04_File u ((Fl.take (i + 1)).filter fun y => !decide (y.number = x.number))] → J (u, ()) w' := by
      intro u w' h
      refine hJ _ _ ?_
      rw [bin_add, wrap_id (by omega) (by omega)]
      exact hnext _ _ ⟨i + 1, u, hil, rfl, h⟩ (by simp only; omega)
    clear hnext
    have h := h.tick
    obtain ⟨g, o, hx1, hcl⟩ := rowR.idx hfr sl_s_errataref04_File (P := Tryd.prog) hil
    have hcl : (cellsR g o Fl[i].cs).here (tick w2) := hcl
    simp -zeta only [h.ld 0 rfl sc_s_errataref04_File (o := 0) rfl, hx1, field_addr f_errataref04_File_0, Nat.add_zero, cellsR.ld0 hcl sc_int rfl, h.ld 3 rfl sc_int (o := 0) rfl, cellsR.ldAg hcl ag_errataref04_File rfl, bin_neq, ifB_not, ifB_dec]
    refine ⟨fun e => hJ u _ (by rw [et, if_pos e, List.append_nil]; exact h), fun e => ?_⟩
    refine h.push1 (α := RFile) 4 rfl Fl[i] sl_s_errataref04_File (by decide) (by omega) (by omega) fun v2 w3 h => hJ v2 w3 ?_
    rw [et, if_neg e]
    exact h
  · rw [List.take_of_length_le (by omega)] at h hfl
    simp -zeta only [h.ldAg 3 rfl ag_errataref04_File rfl]
    refine h.push1 (α := RFile) 4 rfl x sl_s_errataref04_File (by decide) (by omega) (by omega) fun v2 w3 h => ?_
    have h1 : v2.oneCell' = true := h.oneCell (i := 4) rfl
    refine h.st 0 rfl sc_s_errataref04_File (show 0 < 6 by omega) h1 fun w4 h => ?_
    have h := h.pick [0, 4, 2] (by decide)
    have hF' : RX { s with fs := upd s.fs x.number ⟨x.now, x.last⟩ } (Fl.filter (fun y => !decide (y.number = x.number)) ++ [x]) := by
      refine ⟨fun f => ?_, ?_, fun y hy => ?_, ⟨fun f => ?_, fun f => ?_, hF.ok.q, hF.ok.nd, hF.ok.lost, hF.ok.armed⟩⟩
      · rw [getF_set]
        show upd s.fs _ _ f = _
        unfold upd
        split
        · rfl
        · exact hF.files f
      · rw [List.map_append, List.nodup_append]
        refine ⟨hF.nums.sublist (List.filter_sublist.map _), by simp, fun a ha b hb => ?_⟩
        obtain ⟨y, hy, rfl⟩ := List.mem_map.1 ha
        simp at hb
        subst hb
        have := (List.mem_filter.1 hy).2
        simpa using this
      · rcases List.mem_append.1 hy with hy | hy
        · exact hF.rng y (List.mem_filter.1 hy).1
        · simp at hy; subst hy; exact hr
      · show (upd s.fs _ _ f).now.size ≤ _
        unfold upd
        split
        · exact hx.1
        · exact hF.ok.now f
      · show (upd s.fs _ _ f).last.size ≤ _
        unfold upd
        split
        · exact hx.2
        · exact hF.ok.last f
    exact k _ _ [] _ ⟨rfl, rfl, rfl⟩ (refD.close hF' hk h)

theorem Rpending_g {fv qv : Value} (hc : cellD q T_errataref04_Disk (rcs fv qv s kv) B) (hq : rowD T_errataref04_Sector qv (s.queue.map secR) B) (hl : s.queue.length ≤ 1000000000) (f n : Int) : Gives Tryd.prog B (sCall F_errataref04_Disk_pending #[ptr q, .int .i64 f, .int .i64 n]) (.bool (decide ((⟨f, n⟩ : Sec) ∈ s.queue))) := by
  refine Gives.intro fun B' w K base h k => ?_
  replace hc := base hc
  have hqr := rowD.read (base hq)
  refine errataref04_Disk_pending.up (errataref04_Disk_pending.call ?_)
  unfold errataref04_Disk_pending.pt
  have hql : (s.queue.map secR).length = s.queue.length := List.length_map ..
  refine LOOP_intro (fun x w' => ∃ i : Nat, i ≤ s.queue.length ∧ x = (.int .i64 i, ()) ∧ (∀ j (hj : j < s.queue.length), j < i → s.queue[j] ≠ ⟨f, n⟩) ∧ Rel B' w' []) (fun x _ => s.queue.length - (match x.1 with | .int _ n => n.toNat | _ => 0))
    ⟨0, Nat.zero_le _, rfl, fun j _ hj => absurd hj (Nat.not_lt_zero j), h⟩ ?_
  clear h
  rintro x w1 ⟨i, hi, rfl, hno, h⟩ next hnext
  simp -zeta only [nil_ptr, field_addr f_errataref04_Disk_1, Nat.zero_add, cellD.ld (h.hereB hc) sc_s_errataref04_Sector (o := 1) rfl, rowR.len hqr sl_s_errataref04_Sector, bin_lss, ifB_dec]
  rw [hql]
  refine ⟨fun hlt => ?_, fun hge => ?_⟩
  · have hil : i < s.queue.length := by omega
    refine LETJ_intro fun J hJ => ?_
    replace hJ : s.queue[i] ≠ ⟨f, n⟩ → J () w1 := by
      intro hne
      refine hJ _ _ ?_
      rw [bin_add, wrap_id (by omega) (by omega)]
      refine hnext _ _ ⟨i + 1, hil, rfl, fun j hj hji => ?_, h⟩ (by simp only; omega)
      by_cases e : j = i
      · subst e; exact hne
      · exact hno j hj (by omega)
    clear hnext
    obtain ⟨g, o, hx, hcl⟩ := rowR.idx hqr sl_s_errataref04_Sector (P := Tryd.prog) (i := i) (by omega)
    have e1 : (s.queue.map secR)[i]'(by omega) = secR s.queue[i] := by simp
    rw [e1] at hcl
    have hcl : cellsR g o [.int .i64 s.queue[i].file, .int .i64 s.queue[i].number] B' := hcl
    simp -zeta only [hx, field_addr f_errataref04_Sector_0, field_addr f_errataref04_Sector_1, Nat.add_zero, cellsR.ld0 (h.hereB hcl) sc_int rfl, cellsR.ld (h.hereB hcl) sc_int (j := 1) rfl, bin_eql, ifB_dec]
    refine ⟨fun c1 => ⟨fun c2 => ?_, fun c2 => hJ fun e => c2 (by rw [e])⟩, fun c1 => hJ fun e => c1 (by rw [e])⟩
    have : (⟨f, n⟩ : Sec) ∈ s.queue := by
      have e : s.queue[i] = ⟨f, n⟩ := by
        generalize s.queue[i] = y at c1 c2
        obtain ⟨y1, y2⟩ := y
        simp only at c1 c2
        rw [c1, c2]
      rw [← e]
      exact List.getElem_mem hil
    rw [decide_eq_true this] at k
    exact k _ _ h
  · have : (⟨f, n⟩ : Sec) ∉ s.queue := fun hm => by
      obtain ⟨j, hj, e⟩ := List.getElem_of_mem hm
      exact hno j hj (by omega) e
    rw [decide_eq_false this] at k
    exact k _ _ h

theorem Rfits_g (a : Int) (t : ByteArray) (ht : t.size ≤ 1000000000) : Gives Tryd.prog B (sCall F_errataref04_fits #[.int .i64 a, .string t]) (.bool (decide (0 ≤ a ∧ a + t.size ≤ 16777216))) := by
  refine Gives.intro fun B' w K base h k => ?_
  refine errataref04_fits.up (errataref04_fits.call ?_)
  unfold errataref04_fits.pt
  have hb := bl_length t
  have no : ¬ (0 ≤ a ∧ a + t.size ≤ 16777216) → K (.bool false) w := fun hn => by rw [decide_eq_false hn] at k; exact k _ _ h
  simp -zeta only [bin_geq, bin_leq, ifB_dec]
  refine ⟨fun h1 => ⟨fun h2 => ?_, fun h2 => no (by omega)⟩, fun h1 => no (by omega)⟩
  have hw : IntKind.i64.wrap (a + ((bl t).length : Int)) = a + ((bl t).length : Int) := wrap_id (by omega) (by omega)
  simp -zeta only [str_len U_string, bin_add, hw, bin_leq]
  have e : decide (a + ((bl t).length : Int) ≤ 16777216) = decide (0 ≤ a ∧ a + t.size ≤ 16777216) := decide_eq_decide.2 (by rw [hb]; exact ⟨fun h => ⟨h1, h⟩, fun h => h.2⟩)
  rw [e]
  exact k _ _ h

theorem Radd_d {f : Int} (hf : 0 ≤ f ∧ f < 16) {a : Nat} {t : ByteArray} (hfit : a + t.size ≤ 16777216) : Does Tryd.prog B (refD q s kv) (sCall F_errataref04_Disk_add #[ptr q, .int .i64 f, .int .i64 a, .string t]) fun v e' τ => v = .tuple #[] ∧ e' = refD q (addS s f a t) kv ∧ τ = [] := by
  refine Does.intro fun B' w K base h k => ?_
  have hok := (refD.ok (h.here (i := 0) rfl)).1
  refine errataref04_Disk_add.up (errataref04_Disk_add.call ?_)
  unfold errataref04_Disk_add.pt
  have hbt := bl_length t
  rw [eql_str, ifB_dec]
  refine ⟨fun e => k _ _ [] _ ⟨rfl, rfl, rfl⟩ (by unfold addS; rw [if_pos e]; exact h), fun e => ?_⟩
  have hpos := size_pos e
  have hnow := hok.now f
  have hlast := hok.last f
  have hA : addS s f a t = { s with fs := upd s.fs f ⟨putB (s.fs f).now a t, (s.fs f).last⟩, queue := addQ f s.queue (secs a t.size) } := by unfold addS; rw [if_neg e]
  have hadd := hok.add hf hfit
  obtain ⟨fv, Fl, qv, hF, hk, h⟩ := refD.open_ h
  refine h.ask (fun B2 own base2 => Rget_g hF (own (i := 0) rfl) (own (i := 1) rfl) f) fun w1 h => ?_
  refine h.allocAg (ds := (⟨f, (s.fs f).now, (s.fs f).last⟩ : RFile).cs.toArray) z_errataref04_File rfl ag_errataref04_File rfl (fun v hv => Enc.one (⟨f, (s.fs f).now, (s.fs f).last⟩ : RFile) v hv) fun b w2 h => ?_
  simp -zeta only [field_addr f_errataref04_File_1, Nat.zero_add, h.ld 3 rfl sc_string (o := 1) rfl]
  refine h.ask (fun B2 own base2 => RPut_g (s := (s.fs f).now) (t := t) (at_ := a) (by omega) (by omega) (by omega)) fun w3 h => ?_
  refine h.st 3 rfl sc_string (show 1 < 3 by omega) rfl fun w4 h => ?_
  simp -zeta only [h.ldAg 3 rfl ag_errataref04_File rfl]
  have hps := putB_size (s := (s.fs f).now) (t := t) (at_ := a)
  rw [if_neg e] at hps
  have h := refD.close hF hk (h.take 3)
  refine h.act 0 rfl (fun B2 own base2 => Rset_d (x := (⟨f, putB (s.fs f).now a t, (s.fs f).last⟩ : RFile)) hf ⟨by show (putB _ _ _).size ≤ _; omega, hlast⟩) fun v e' τ w5 hp h => ?_
  obtain ⟨rfl, rfl, rfl⟩ := hp
  have h : Rel B' w5 [refD q { s with fs := upd s.fs f ⟨putB (s.fs f).now a t, (s.fs f).last⟩ } kv] := h
  obtain ⟨fv', Fl', qv', hF', _, h⟩ := refD.open_ h
  have hq1 : IntKind.i64.wrap ((a : Int).tdiv 64) = ((a / 64 : Nat) : Int) := by
    rw [Int.tdiv_eq_ediv_of_nonneg (by omega), wrap_id (by omega) (by omega)]; omega
  simp -zeta only [bin_quo (show (64 : Int) ≠ 0 by decide), hq1]
  have hsl := secs_len a t.size
  have hql := hok.qlen
  have hqn : ∀ j, (addQ f s.queue ((secs a t.size).take j)).length ≤ s.queue.length + j := by
    intro j
    have : ∀ (ns : List Nat) (q : List Sec), (addQ f q ns).length ≤ q.length + ns.length := by
      intro ns
      induction ns with
      | nil => intro q; exact Nat.le_refl _
      | cons n ns ih =>
        intro q
        unfold addQ at ih ⊢
        rw [List.foldl_cons]
        refine Nat.le_trans (ih _) ?_
        unfold addQ1
        split
        · simp only [List.length_cons]; omega
        · simp only [List.length_append, List.length_cons, List.length_nil]; omega
    refine Nat.le_trans (this _ _) ?_
    rw [List.length_take]
    omega
  generalize hS : ({ s with fs := upd s.fs f ⟨putB (s.fs f).now a t, (s.fs f).last⟩ } : DS) = s1 at h hF'
  have hq0 : s1.queue = s.queue := by rw [← hS]
  rw [hq0] at h
  refine LOOP_intro (fun x w' => ∃ (j : Nat) (qv : Value), j ≤ (secs a t.size).length ∧ x = (.int .i64 ((a / 64 + j : Nat) : Int), ()) ∧
      Rel B' w' [cellD q T_errataref04_Disk (rcs fv' qv { s1 with queue := addQ f s.queue ((secs a t.size).take j) } kv), rowD T_errataref04_File fv' Fl', rowD T_errataref04_Sector qv ((addQ f s.queue ((secs a t.size).take j)).map secR)]) (fun x _ => a / 64 + (secs a t.size).length - (match x.1 with | .int _ n => n.toNat | _ => 0))
    ⟨0, qv', Nat.zero_le _, rfl, h⟩ ?_
  clear h
  rintro x2 w6 ⟨j, qv, hj, rfl, h⟩ next hnext
  have hqj := hqn j
  have hw1 : IntKind.i64.wrap ((a : Int) + ((bl t).length : Int)) = ((a + (bl t).length : Nat) : Int) := by rw [wrap_id (by omega) (by omega)]; omega
  have hw2 : IntKind.i64.wrap (((a + (bl t).length : Nat) : Int) - 1) = ((a + (bl t).length - 1 : Nat) : Int) := by rw [wrap_id (by omega) (by omega)]; omega
  have hw3 : IntKind.i64.wrap (((a + (bl t).length - 1 : Nat) : Int).tdiv 64) = (((a + (bl t).length - 1) / 64 : Nat) : Int) := by
    rw [Int.tdiv_eq_ediv_of_nonneg (by omega), wrap_id (by omega) (by omega)]; omega
  simp -zeta only [str_len U_string, bin_add, hw1, bin_sub, hw2, bin_quo (show (64 : Int) ≠ 0 by decide), hw3, bin_leq, ifB_dec]
  refine ⟨fun hle => ?_, fun hgt => ?_⟩
  · have hjl : j < (secs a t.size).length := by omega
    have hsg := secs_get hjl
    refine LETJ_intro fun J hJ => ?_
    replace hJ : ∀ (qv : Value) w', Rel B' w' [cellD q T_errataref04_Disk (rcs fv' qv { s1 with queue := addQ f s.queue ((secs a t.size).take (j + 1)) } kv), rowD T_errataref04_File fv' Fl', rowD T_errataref04_Sector qv ((addQ f s.queue ((secs a t.size).take (j + 1))).map secR)] → J () w' := by
      intro qv w' h
      refine hJ _ _ ?_
      rw [wrap_id (by omega) (by omega)]
      exact hnext _ _ ⟨j + 1, qv, hjl, by rw [show ((a / 64 + j : Nat) : Int) + 1 = ((a / 64 + (j + 1) : Nat) : Int) by omega], h⟩ (by simp only; omega)
    clear hnext
    have hs1 := addQ_succ (f := f) (q := s.queue) hjl
    rw [hsg] at hs1
    unfold addQ1 at hs1
    refine h.ask (fun B2 own base2 => Rpending_g (s := { s1 with queue := addQ f s.queue ((secs a t.size).take j) }) (own (i := 0) rfl) (own (i := 2) rfl) (by show (addQ _ _ _).length ≤ _; omega) f ((a / 64 + j : Nat) : Int)) fun w7 h => ?_
    rw [un_not, ifB_not, ifB_dec]
    refine ⟨fun hin => ?_, fun hin => ?_⟩
    · have hin : (⟨f, ((a / 64 + j : Nat) : Int)⟩ : Sec) ∈ addQ f s.queue ((secs a t.size).take j) := hin
      rw [if_pos hin] at hs1
      rw [hs1] at hJ
      exact hJ qv _ h
    · have hin : ¬ (⟨f, ((a / 64 + j : Nat) : Int)⟩ : Sec) ∈ addQ f s.queue ((secs a t.size).take j) := hin
      rw [if_neg hin] at hs1
      simp -zeta only [nil_ptr, field_addr f_errataref04_Disk_1, Nat.zero_add, h.ld 0 rfl sc_s_errataref04_Sector (o := 1) rfl, bd_errataref04_Sector_0_1]
      refine h.push1 (α := RSec) 2 rfl (⟨f, ((a / 64 + j : Nat) : Int)⟩ : RSec) sl_s_errataref04_Sector (by decide) (by rw [List.length_map]; omega) (by rw [List.length_map]; omega) fun qv2 w8 h => ?_
      have h1 : qv2.oneCell' = true := h.oneCell (i := 2) rfl
      refine h.st 0 rfl sc_s_errataref04_Sector (show 1 < 6 by omega) h1 fun w9 h => ?_
      refine hJ qv2 w9 ?_
      rw [hs1, List.map_append]
      exact h
  · have hjl : j = (secs a t.size).length := by omega
    subst hjl
    rw [List.take_length] at h
    have hF2 : RX (addS s f a t) Fl' := ⟨fun g => by rw [hA]; have := hF'.files g; rw [← hS] at this; exact this, hF'.nums, hF'.rng, hadd⟩
    refine k _ _ [] _ ⟨rfl, rfl, rfl⟩ (refD.close (fv := fv') (qv := qv) hF2 hk ?_)
    rw [hA]
    rw [← hS] at h
    exact h

theorem Rsettle_d {f : Int} (hf : 0 ≤ f ∧ f < 16) {x : ByteArray} (hx : x.size ≤ 16777216) : Does Tryd.prog B (refD q s kv) (sCall F_errataref04_Disk_settle #[ptr q, .int .i64 f, .string x]) fun v e' τ => v = .tuple #[] ∧ e' = refD q (settleS s f x) kv ∧ τ = [] := by
  refine Does.intro fun B' w K base h k => ?_
  have hok := (refD.ok (h.here (i := 0) rfl)).1
  have hql := hok.qlen
  refine errataref04_Disk_settle.up (errataref04_Disk_settle.call ?_)
  unfold errataref04_Disk_settle.pt
  rw [bd_errataref04_File_0_1_2]
  refine h.act 0 rfl (fun B2 own base2 => Rset_d (x := (⟨f, x, x⟩ : RFile)) hf ⟨hx, hx⟩) fun v e' τ w1 hp h => ?_
  obtain ⟨rfl, rfl, rfl⟩ := hp
  have h : Rel B' w1 [refD q { s with fs := upd s.fs f ⟨x, x⟩ } kv] := h
  obtain ⟨fv, Fl, qv, hF, hk, h⟩ := refD.open_ h
  have h : Rel B' w1 [cellD q T_errataref04_Disk (rcs fv qv s kv), rowD T_errataref04_File fv Fl, rowD T_errataref04_Sector qv (s.queue.map secR)] := h
  have hqm : (s.queue.map secR).length = s.queue.length := List.length_map ..
  refine LOOP_intro (fun y w' => ∃ (i : Nat) (u : Value), i ≤ s.queue.length ∧ y = (u, .int .i64 i, ()) ∧ Rel B' w' [cellD q T_errataref04_Disk (rcs fv qv s kv), rowD T_errataref04_File fv Fl, rowD T_errataref04_Sector qv (s.queue.map secR), rowD T_errataref04_Sector u (((s.queue.take i).filter fun y => !decide (y.file = f)).map secR)]) (fun y _ => s.queue.length - (match y.2.1 with | .int _ n => n.toNat | _ => 0))
    ⟨0, _, Nat.zero_le _, rfl, h.addNil RSec T_errataref04_Sector⟩ ?_
  clear h
  rintro y w2 ⟨i, u, hi, rfl, h⟩ next hnext
  have hfl : (((s.queue.take i).filter fun y => !decide (y.file = f)).map secR).length ≤ i := by rw [List.length_map]; exact Nat.le_trans (List.length_filter_le _ _) (by rw [List.length_take]; omega)
  have hqr := rowD.read (h.here (i := 2) rfl)
  simp -zeta only [nil_ptr, field_addr f_errataref04_Disk_1, Nat.zero_add, h.ld 0 rfl sc_s_errataref04_Sector (o := 1) rfl, rowR.len hqr sl_s_errataref04_Sector, bin_lss, ifB_dec]
  rw [hqm]
  refine ⟨fun hlt => ?_, fun hge => ?_⟩
  · have hil : i < s.queue.length := by omega
    have et : ((s.queue.take (i + 1)).filter fun y => !decide (y.file = f)).map secR = ((s.queue.take i).filter fun y => !decide (y.file = f)).map secR ++ if s.queue[i].file = f then [] else [secR s.queue[i]] := by
      rw [List.take_succ_eq_append_getElem hil, List.filter_append, List.filter_cons, List.map_append]
      by_cases e : s.queue[i].file = f
      · rw [if_pos e, if_neg (by simp [e])]; rfl
      · rw [if_neg e, if_pos (by simp [e])]; rfl
    refine LETJ_intro fun J hJ => ?_
    replace hJ : ∀ u w', Rel B' w' [cellD q T_errataref04_Disk (rcs fv qv s kv), rowD T_errataref04_File fv Fl, rowD T_errataref04_Sector qv (s.queue.map secR), rowD T_errataref04_Sector u (((s.queue.take (i + 1)).filter fun y => !decide (y.file = f)).map secR)] → J (u, ()) w' := by
      intro u w' h
      refine hJ _ _ ?_
      rw [bin_add, wrap_id (by omega) (by omega)]
      exact hnext _ _ ⟨i + 1, u, hil, rfl, h⟩ (by simp only; omega)
    clear hnext
    obtain ⟨g, o, hx1, hcl⟩ := rowR.idx hqr sl_s_errataref04_Sector (P := Tryd.prog) (i := i) (by omega)
    have e1 : (s.queue.map secR)[i]'(by omega) = secR s.queue[i] := by simp
    rw [e1] at hcl
    have hcl : (cellsR g o (secR s.queue[i]).cs).here w2 := hcl
    simp -zeta only [hx1, field_addr f_errataref04_Sector_0, Nat.add_zero, cellsR.ld0 hcl sc_int rfl, cellsR.ldAg hcl ag_errataref04_Sector rfl, bin_neq, ifB_not, ifB_dec]
    refine ⟨fun e => hJ u _ (by rw [et, if_pos e, List.append_nil]; exact h), fun e => ?_⟩
    refine h.push1 (α := RSec) 3 rfl (secR s.queue[i]) sl_s_errataref04_Sector (by decide) (by omega) (by omega) fun v2 w3 h => hJ v2 w3 ?_
    rw [et, if_neg e]
    exact h
  · rw [List.take_of_length_le (by omega)] at h
    have h1 : u.oneCell' = true := h.oneCell (i := 3) rfl
    refine h.st 0 rfl sc_s_errataref04_Sector (show 1 < 6 by omega) h1 fun w4 h => ?_
    have h := h.pick [0, 1, 3] (by decide)
    have hF' : RX (settleS s f x) Fl := ⟨hF.files, hF.nums, hF.rng, hok.settle f hx⟩
    exact k _ _ [] _ ⟨rfl, rfl, rfl⟩ (refD.close (fv := fv) (qv := u) hF' hk h)

theorem upd_id (fs : Int → FileV) (f : Int) : upd fs f (fs f) = fs := by
  funext g
  unfold upd
  split
  · rename_i e; rw [e]
  · rfl
theorem Rsurvive_d {x : Sec} (hx : (0 ≤ x.file ∧ x.file < 16) ∧ 0 ≤ x.number ∧ x.number < 262144) : Does Tryd.prog B (refD q s kv) (sCall F_errataref04_Disk_survive #[ptr q, (secR x).v])
    fun v e' τ => v = .tuple #[] ∧ e' = refD q { s with fs := if (s.fs x.file).now.size ≤ 64 * x.number.toNat then s.fs else upd s.fs x.file ⟨(s.fs x.file).now, putB (s.fs x.file).last (64 * x.number.toNat) (partB (s.fs x.file).now (64 * x.number.toNat))⟩ } kv ∧ τ = [] := by
  refine Does.intro fun B' w K base h k => ?_
  have hok := (refD.ok (h.here (i := 0) rfl)).1
  have hnow := hok.now x.file
  have hlast := hok.last x.file
  obtain ⟨fv, Fl, qv, hF, hk, h⟩ := refD.open_ h
  refine errataref04_Disk_survive.up (errataref04_Disk_survive.call ?_)
  unfold errataref04_Disk_survive.pt
  refine h.box fun b w1 h => ?_
  have h : Rel B' w1 [cellD q T_errataref04_Disk (rcs fv qv s kv), rowD T_errataref04_File fv Fl, rowD T_errataref04_Sector qv (s.queue.map secR), cellD b T_errataref04_Sector (secR x).cs.toArray] := h
  simp -zeta only [field_addr f_errataref04_Sector_0, field_addr f_errataref04_Sector_1, Nat.add_zero, Nat.zero_add, h.ld 3 rfl sc_int (o := 0) rfl]
  refine h.ask (fun B2 own base2 => Rget_g hF (own (i := 0) rfl) (own (i := 1) rfl) x.file) fun w2 h => ?_
  refine h.allocAg (ds := (⟨x.file, (s.fs x.file).now, (s.fs x.file).last⟩ : RFile).cs.toArray) z_errataref04_File rfl ag_errataref04_File rfl (fun v hv => Enc.one (⟨x.file, (s.fs x.file).now, (s.fs x.file).last⟩ : RFile) v hv) fun b2 w3 h => ?_
  generalize hnv : (s.fs x.file).now = N at *
  generalize hlv : (s.fs x.file).last = O at *
  refine LETJ_intro fun J hJ => ?_
  replace hJ : ∀ (Z : ByteArray) w', Z.size ≤ 16777216 → (if N.size ≤ 64 * x.number.toNat then s.fs else upd s.fs x.file ⟨N, putB O (64 * x.number.toNat) (partB N (64 * x.number.toNat))⟩) = upd s.fs x.file ⟨N, Z⟩ →
      Rel B' w' [cellD q T_errataref04_Disk (rcs fv qv s kv), rowD T_errataref04_File fv Fl, rowD T_errataref04_Sector qv (s.queue.map secR), cellD b T_errataref04_Sector (secR x).cs.toArray, cellD b2 T_errataref04_File (⟨x.file, N, Z⟩ : RFile).cs.toArray] → J () w' := by
    intro Z w4 hz he h
    refine hJ _ _ ?_
    rw [he] at k
    simp -zeta only [h.ldAg 4 rfl ag_errataref04_File rfl]
    have h := refD.close hF hk (h.take 3)
    refine h.act 0 rfl (fun B2 own base2 => Rset_d (x := (⟨x.file, N, Z⟩ : RFile)) hx.1 ⟨hnow, hz⟩) fun v e' τ w5 hp h => ?_
    obtain ⟨rfl, rfl, rfl⟩ := hp
    exact k _ _ [] _ ⟨rfl, rfl, rfl⟩ h
  have hbN := bl_length N
  obtain ⟨n, hn⟩ : ∃ n : Nat, x.number = n := ⟨x.number.toNat, by omega⟩
  have hnn : x.number.toNat = n := by omega
  have hw1 : IntKind.i64.wrap (64 * x.number) = ((64 * n : Nat) : Int) := by rw [wrap_id (by omega) (by omega)]; omega
  simp -zeta only [field_addr f_errataref04_File_1, field_addr f_errataref04_File_2, Nat.zero_add, h.ld 3 rfl sc_int (o := 1) rfl, h.ld 4 rfl sc_string (o := 1) rfl, bin_mul, hw1, str_len U_string, bin_lss, ifB_dec]
  refine ⟨fun hlt => ?_, fun hge => hJ O _ hlast (by rw [if_pos (by omega), ← hnv, ← hlv, upd_id]) h⟩
  have h := h.tick
  have hw2 : IntKind.i64.wrap (((64 * n : Nat) : Int) + 64) = ((64 * n + 64 : Nat) : Int) := by rw [wrap_id (by omega) (by omega)]; omega
  have hmin : min ((64 * n + 64 : Nat) : Int) ((bl N).length : Int) = ((min (64 * n + 64) N.size : Nat) : Int) := by omega
  simp -zeta only [h.ld 3 rfl sc_int (o := 1) rfl, h.ld 4 rfl sc_string (o := 1) rfl, h.ld 4 rfl sc_string (o := 2) rfl, bin_mul, hw1, bin_add, hw2, str_len U_string, blt_min, hmin]
  rw [str_cut U_string (s := N) (lo := 64 * n) (hi := min (64 * n + 64) N.size) Bnd.some Bnd.some (by omega) (by omega)]
  have hps := partB_size (now := N) (n := 64 * n)
  refine h.ask (fun B2 own base2 => RPut_g (s := O) (t := partB N (64 * n)) (at_ := 64 * n) (by omega) (by omega) (by omega)) fun w4 h => ?_
  refine h.st 4 rfl sc_string (show 2 < 3 by omega) rfl fun w5 h => ?_
  have hpz := putB_size (s := O) (t := partB N (64 * n)) (at_ := 64 * n)
  refine hJ (putB O (64 * n) (partB N (64 * n))) w5 ?_ (by rw [hnn, if_neg (by omega)]) h
  rw [hpz]
  split
  · exact hlast
  · omega

theorem RCrash_d {v : Value} {keep : List Int} (r : rowR v keep B) (hkl : keep.length ≤ 9223372036854775807) : Does Tryd.prog B (refD q s kv) (sCall F_errataref04_Disk_Crash #[ptr q, v]) fun u e' τ => u = .tuple #[] ∧ e' = refD q (crashS s keep) kv ∧ τ = [] := by
  refine Does.intro fun B' w K base h k => ?_
  replace r := base r
  have hok := (refD.ok (h.here (i := 0) rfl)).1
  have hql := hok.qlen
  obtain ⟨fv, Fl, qv, hF, hk, h⟩ := refD.open_ h
  refine errataref04_Disk_Crash.up (errataref04_Disk_Crash.call ?_)
  unfold errataref04_Disk_Crash.pt
  simp -zeta only [nil_ptr, field_addr f_errataref04_Disk_3, Nat.zero_add, h.ld 0 rfl sc_bool (o := 3) rfl]
  rw [ifB_bool]
  refine ⟨fun e => k _ _ [] _ ⟨rfl, rfl, rfl⟩ (by unfold crashS; rw [if_pos e]; exact refD.close hF hk h), fun e => ?_⟩
  have hC : crashS s keep = { s with fs := fun f => ⟨(survN keep s.queue s.fs s.queue.length f).last, (survN keep s.queue s.fs s.queue.length f).last⟩, queue := [], down := true, armed := 0 } := by
    unfold crashS; rw [if_neg (by rw [e]; decide)]
  refine h.st 0 rfl sc_bool (show 3 < 6 by omega) rfl fun w1 h => ?_
  simp -zeta only [field_addr f_errataref04_Disk_4, Nat.zero_add]
  refine h.st 0 rfl sc_int (show 4 < 6 by omega) rfl fun w2 h => ?_
  have okN : ∀ i, DOk { s with fs := survN keep s.queue s.fs i, down := true, armed := 0 } := fun i => by
    obtain ⟨a1, a2⟩ := surv_keeps (keep := keep) (qs := s.queue) hok.now hok.last i
    exact ⟨fun f => by show (survN keep s.queue s.fs i f).now.size ≤ _; rw [a1]; exact hok.now f, a2, hok.q, hok.nd, hok.lost, (by show (0 : Int) ≤ 0 ∧ (0 : Int) ≤ 9223372036854775807; decide)⟩
  have h : Rel B' w2 [refD q { s with fs := survN keep s.queue s.fs 0, down := true, armed := 0 } kv] := refD.close (fv := fv) (qv := qv) ⟨hF.files, hF.nums, hF.rng, okN 0⟩ hk h
  refine LETJ_intro fun J hJ => ?_
  replace hJ : ∀ w', Rel B' w' [refD q { s with fs := survN keep s.queue s.fs s.queue.length, down := true, armed := 0 } kv] → J () w' := by
    intro w3 h
    refine hJ _ _ ?_
    clear hJ
    obtain ⟨fv, Fl, qv, hF, _, h⟩ := refD.open_ h
    have hlen := hF.len
    refine LOOP_intro (fun y w' => ∃ (i : Nat) (u : Value), i ≤ Fl.length ∧ y = (u, .int .i64 i, ()) ∧ Rel B' w' [cellD q T_errataref04_Disk (rcs fv qv { s with fs := survN keep s.queue s.fs s.queue.length, down := true, armed := 0 } kv), rowD T_errataref04_File fv Fl, rowD T_errataref04_Sector qv (s.queue.map secR), rowD T_errataref04_File u ((Fl.take i).map fun x => (⟨x.number, x.last, x.last⟩ : RFile))]) (fun y _ => Fl.length - (match y.2.1 with | .int _ n => n.toNat | _ => 0))
      ⟨0, _, Nat.zero_le _, rfl, h.addNil RFile T_errataref04_File⟩ ?_
    clear h
    rintro y w4 ⟨i, u, hi, rfl, h⟩ next hnext
    have hml : ((Fl.take i).map fun x => (⟨x.number, x.last, x.last⟩ : RFile)).length ≤ i := by rw [List.length_map, List.length_take]; omega
    have hfr := rowD.read (h.here (i := 1) rfl)
    simp -zeta only [nil_ptr, field_addr f_errataref04_Disk_0, Nat.add_zero, h.ld 0 rfl sc_s_errataref04_File (o := 0) rfl, rowR.len hfr sl_s_errataref04_File, bin_lss, ifB_dec]
    refine ⟨fun hlt => ?_, fun hge => ?_⟩
    · have hil : i < Fl.length := by omega
      have h := h.tick
      obtain ⟨g, o, hx1, hcl⟩ := rowR.idx hfr sl_s_errataref04_File (P := Tryd.prog) hil
      have hcl : (cellsR g o Fl[i].cs).here (tick w4) := hcl
      simp -zeta only [h.ld 0 rfl sc_s_errataref04_File (o := 0) rfl, hx1, field_addr f_errataref04_File_0, field_addr f_errataref04_File_2, Nat.add_zero, cellsR.ld0 hcl sc_int rfl, cellsR.ld hcl sc_string (j := 2) rfl, bd_errataref04_File_0_1_2]
      refine h.push1 (α := RFile) 3 rfl (⟨Fl[i].number, Fl[i].last, Fl[i].last⟩ : RFile) sl_s_errataref04_File (by decide) (by omega) (by omega) fun v2 w5 h => ?_
      rw [bin_add, wrap_id (by omega) (by omega)]
      refine hnext _ _ ⟨i + 1, v2, hil, rfl, ?_⟩ (by simp only; omega)
      rw [List.take_succ_eq_append_getElem hil, List.map_append]
      exact h
    · rw [List.take_of_length_le (by omega)] at h
      simp -zeta only [nil_ptr, field_addr f_errataref04_Disk_0, field_addr f_errataref04_Disk_1, Nat.add_zero, Nat.zero_add]
      have h1 : u.oneCell' = true := h.oneCell (i := 3) rfl
      refine h.st 0 rfl sc_s_errataref04_File (show 0 < 6 by omega) h1 fun w5 h => ?_
      refine h.st 0 rfl sc_s_errataref04_Sector (show 1 < 6 by omega) rfl fun w6 h => ?_
      have h := (h.addNil RSec T_errataref04_Sector).pick [0, 3, 4] (by decide)
      have hF' : RX (crashS s keep) (Fl.map fun x => (⟨x.number, x.last, x.last⟩ : RFile)) := by
        refine ⟨fun f => ?_, ?_, fun x hx => ?_, hok.crash keep⟩
        · rw [hC]
          show (⟨(survN keep s.queue s.fs s.queue.length f).last, _⟩ : FileV) = _
          have := hF.files f
          have this : survN keep s.queue s.fs s.queue.length f = getF Fl f := this
          rw [this]
          unfold getF
          rw [List.find?_map]
          have hcomp : ((fun x : RFile => decide (x.number = f)) ∘ fun x : RFile => (⟨x.number, x.last, x.last⟩ : RFile)) = fun x => decide (x.number = f) := rfl
          rw [hcomp]
          cases Fl.find? fun x => decide (x.number = f) <;> rfl
        · rw [List.map_map]; exact hF.nums
        · obtain ⟨y, hy, rfl⟩ := List.mem_map.1 hx
          exact hF.rng y hy
      refine k _ _ [] _ ⟨rfl, rfl, rfl⟩ (refD.close (fv := u) (qv := .slice none 0 0) hF' hk ?_)
      rw [hC]
      exact h
  refine LOOP_intro (fun x w' => ∃ i : Nat, i ≤ s.queue.length ∧ x = (.int .i64 i, ()) ∧ Rel B' w' [refD q { s with fs := survN keep s.queue s.fs i, down := true, armed := 0 } kv]) (fun x _ => s.queue.length - (match x.1 with | .int _ n => n.toNat | _ => 0))
    ⟨0, Nat.zero_le _, rfl, h⟩ ?_
  clear h
  rintro x w3 ⟨i, hi, rfl, h⟩ next hnext
  obtain ⟨fv, Fl, qv, hF, hc, hf, hq⟩ := refD.peek (h.here (i := 0) rfl)
  have hqr := rowD.read hq
  have hqm : (s.queue.map secR).length = s.queue.length := List.length_map ..
  have hc : (cellD q T_errataref04_Disk (rcs fv qv { s with fs := survN keep s.queue s.fs i, down := true, armed := 0 } kv)).here w3 := hc
  have hqr : rowR qv (s.queue.map secR) ⟨w3, fun _ => True⟩ := hqr
  simp -zeta only [nil_ptr, field_addr f_errataref04_Disk_1, Nat.zero_add, cellD.ld hc sc_s_errataref04_Sector (o := 1) rfl, rowR.len hqr sl_s_errataref04_Sector, bin_lss, ifB_dec]
  rw [hqm]
  refine ⟨fun hlt => ?_, fun hge => ?_⟩
  · have hil : i < s.queue.length := by omega
    simp -zeta only [rowR.len r sl_s_int, bin_gtr, ifB_dec]
    refine ⟨fun hk1 => ?_, fun hk1 => ?_⟩
    · have hgd : s.queue.getD i ⟨0, 0⟩ = s.queue[i] := by rw [List.getD_eq_getElem?_getD, List.getElem?_eq_getElem hil]; rfl
      have hqi := hok.q _ (List.getElem_mem hil)
      have hstep : survN keep s.queue s.fs (i + 1) = survS keep i s.queue[i] (survN keep s.queue s.fs i) := by
        show survS keep i (s.queue.getD i ⟨0, 0⟩) _ = _
        rw [hgd]
      have hk0 : keep ≠ [] := fun e => by rw [e] at hk1; simp at hk1
      have hkp : 0 < keep.length := List.length_pos_iff.2 hk0
      have hmod : i % keep.length < keep.length := Nat.mod_lt _ hkp
      have hrem : (i : Int).tmod (keep.length : Int) = ((i % keep.length : Nat) : Int) := by
        rw [Int.tmod_eq_emod_of_nonneg (by omega)]
        exact (Int.natCast_emod _ _).symm
      have hkd : keep.getD (i % keep.length) 0 = keep[i % keep.length] := by rw [List.getD_eq_getElem?_getD, List.getElem?_eq_getElem hmod]; rfl
      refine LETJ_intro fun J2 hJ2 => ?_
      replace hJ2 : ∀ w', Rel B' w' [refD q { s with fs := survN keep s.queue s.fs (i + 1), down := true, armed := 0 } kv] → J2 () w' := by
        intro w' h
        refine hJ2 _ _ ?_
        rw [bin_add, wrap_id (by omega) (by omega)]
        exact hnext _ _ ⟨i + 1, hil, rfl, h⟩ (by simp only; omega)
      clear hnext
      obtain ⟨g2, o2, hx2, hc2⟩ := rowR.idx r sl_s_int (P := Tryd.prog) hmod
      obtain ⟨g, o, hx1, hcl⟩ := rowR.idx hqr sl_s_errataref04_Sector (P := Tryd.prog) (i := i) (by omega)
      have e1 : (s.queue.map secR)[i]'(by omega) = secR s.queue[i] := by simp
      rw [e1] at hcl
      have hcl : (cellsR g o (secR s.queue[i]).cs).here w3 := hcl
      simp -zeta only [bin_rem (show (keep.length : Int) ≠ 0 by omega), hrem, hx2, cellsR.ld0 (h.hereB hc2) sc_int rfl, bin_and, and_bit, bin_eql, ifB_dec]
      refine ⟨fun c1 => ?_, fun c1 => hJ2 _ ?_⟩
      · simp -zeta only [hx1, cellsR.ldAg hcl ag_errataref04_Sector rfl]
        refine h.act 0 rfl (fun B2 own base2 => Rsurvive_d (x := s.queue[i]) hqi) fun v e' τ w5 hp h => ?_
        obtain ⟨rfl, rfl, rfl⟩ := hp
        refine hJ2 _ ?_
        rw [hstep]
        unfold survS
        rw [if_neg hk0, hkd, if_neg (by omega)]
        exact h
      · rw [hstep]
        unfold survS
        rw [if_neg hk0, hkd, if_pos (by omega)]
        exact h
    · have hk0 : keep = [] := List.eq_nil_of_length_eq_zero (by omega)
      subst hk0
      refine hJ _ ?_
      rw [survN_nil] at h ⊢
      exact h
  · have : i = s.queue.length := by omega
    subst this
    exact hJ _ h

def comesS (s : DS) (f a : Int) (t : ByteArray) : DS := if endsB s = true then crashS (if (0 ≤ f ∧ f < 16) ∧ 0 ≤ a ∧ a + t.size ≤ 16777216 then addS (endsS s) f a.toNat t else endsS s) s.keep else endsS s
theorem Rcomes_d (r : rowR kv s.keep B) (hkl : s.keep.length ≤ 1000000) (f a : Int) (t : ByteArray) (ht : t.size ≤ 1000000000) : Does Tryd.prog B (refD q s kv) (sCall F_errataref04_Disk_comes #[ptr q, .int .i64 f, .int .i64 a, .string t]) fun v e' τ => v = .tuple #[] ∧ e' = refD q (comesS s f a t) kv ∧ τ = [] := by
  refine Does.intro fun B' w K base h k => ?_
  replace r := base r
  obtain ⟨fv, Fl, qv, hF, hk, h⟩ := refD.open_ h
  have hok := hF.ok.armed
  refine errataref04_Disk_comes.up (errataref04_Disk_comes.call ?_)
  unfold errataref04_Disk_comes.pt
  have same : endsB s = false → endsS s = s → K (.tuple #[]) w := fun e1 e2 => by
    refine k _ _ [] _ ⟨rfl, rfl, rfl⟩ ?_
    unfold comesS
    rw [if_neg (by rw [e1]; decide), e2]
    exact refD.close hF hk h
  simp -zeta only [nil_ptr, field_addr f_errataref04_Disk_3, field_addr f_errataref04_Disk_4, field_addr f_errataref04_Disk_5, Nat.zero_add, h.ld 0 rfl sc_bool (o := 3) rfl, h.ld 0 rfl sc_int (o := 4) rfl]
  rw [ifB_bool]
  refine ⟨fun e => same (by unfold endsB; rw [e]; rfl) (by unfold endsS; rw [if_pos (.inl e)]), fun e => ?_⟩
  simp -zeta only [bin_eql, ifB_dec]
  refine ⟨fun e1 => same (by unfold endsB; rw [decide_eq_true e1]; simp) (by unfold endsS; rw [if_pos (.inr e1)]), fun e1 => ?_⟩
  clear same
  have e2 : endsS s = { s with armed := s.armed - 1 } := by unfold endsS; rw [if_neg (by rw [e]; simpa using e1)]
  have e3 : endsB s = decide (s.armed - 1 = 0) := by unfold endsB; rw [e, decide_eq_false e1]; rfl
  have hF' : RX (endsS s) Fl := ⟨by rw [e2]; exact hF.files, hF.nums, hF.rng, hF.ok.ends⟩
  rw [bin_sub, wrap_id (by omega) (by omega)]
  refine h.st 0 rfl sc_int (show 4 < 6 by omega) rfl fun w1 h => ?_
  have h : Rel B' w1 [cellD q T_errataref04_Disk (rcs fv qv (endsS s) kv), rowD T_errataref04_File fv Fl, rowD T_errataref04_Sector qv ((endsS s).queue.map secR)] := by rw [e2]; exact h
  have ha : (endsS s).armed = s.armed - 1 := by rw [e2]
  have hk2 : (endsS s).keep = s.keep := keep_ends s
  simp -zeta only [h.ld 0 rfl sc_int (o := 4) rfl, bin_gtr, ifB_dec]
  have h := refD.close hF' hk h
  refine ⟨fun c1 => ?_, fun c1 => ?_⟩
  · refine k _ _ [] _ ⟨rfl, rfl, rfl⟩ ?_
    unfold comesS
    rw [if_neg (by rw [e3]; simp; omega)]
    exact h
  · have hb : endsB s = true := by rw [e3]; simp; omega
    unfold comesS at k
    rw [if_pos hb] at k
    refine LETJ_intro fun J hJ => ?_
    replace hJ : ∀ w', Rel B' w' [refD q (if (0 ≤ f ∧ f < 16) ∧ 0 ≤ a ∧ a + t.size ≤ 16777216 then addS (endsS s) f a.toNat t else endsS s) kv] → J () w' := by
      intro w2 h
      refine hJ _ _ ?_
      obtain ⟨fv, Fl, qv, hF, hc, hf, hq⟩ := refD.peek (h.here (i := 0) rfl)
      simp -zeta only [nil_ptr, field_addr f_errataref04_Disk_5, Nat.zero_add, cellD.ld hc sc_s_int (o := 5) rfl]
      refine h.act 0 rfl (fun B2 own base2 => RCrash_d (base2 r) (by omega)) fun v e' τ w3 hp h => ?_
      obtain ⟨rfl, rfl, rfl⟩ := hp
      exact k _ _ [] _ ⟨rfl, rfl, rfl⟩ h
    have no : ¬ ((0 ≤ f ∧ f < 16) ∧ 0 ≤ a ∧ a + t.size ≤ 16777216) → ∀ w', Rel B' w' [refD q (endsS s) kv] → J () w' := fun hn w' h => hJ w' (by rw [if_neg hn]; exact h)
    simp -zeta only [bin_geq, bin_leq, ifB_dec]
    refine ⟨fun d1 => ⟨fun d2 => ?_, fun d2 => no (by omega) _ h⟩, fun d1 => no (by omega) _ h⟩
    refine h.ask (fun B2 own base2 => Rfits_g a t ht) fun w2 h => ?_
    rw [ifB_dec]
    refine ⟨fun d3 => ?_, fun d3 => no (fun hh => d3 hh.2) _ h⟩
    obtain ⟨n, rfl⟩ : ∃ n : Nat, a = n := ⟨a.toNat, by omega⟩
    refine h.act 0 rfl (fun B2 own base2 => Radd_d (f := f) (a := n) (t := t) ⟨by omega, by omega⟩ (by omega)) fun v e' τ w3 hp h => ?_
    obtain ⟨rfl, rfl, rfl⟩ := hp
    refine hJ _ ?_
    rw [if_pos ⟨⟨by omega, by omega⟩, d3⟩, Int.toNat_natCast]
    exact h
end
end Go.Proofs.YtmkigdkhpdeaeaaDoor
