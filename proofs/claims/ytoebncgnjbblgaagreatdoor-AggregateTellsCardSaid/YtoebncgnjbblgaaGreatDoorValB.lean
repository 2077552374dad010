/-
  Values and rows: their encodings. No condition.
-/
import Derived.Test.YtoebncgnjbblgaaGreatDoorValA
import Derived.Test.YtoebncgnjbblgaaGreatDoorWiA
--@auto
namespace Go.Proofs.YtoebncgnjbblgaaGreatDoor
open Go.RowKit
set_option maxRecDepth 100000

theorem Rd2.map {α β : Type} {enc : α → Bs} {good : α → Prop} {one : RS → α × RS} (h : Rd2 enc good one) (f : α → β) (g : β → α) (hfg : ∀ b, f (g b) = b) (hgf : ∀ a, g (f a) = a) : Rd2 (fun b => enc (g b)) (fun b => good (g b)) (fun s => (f (one s).1, (one s).2)) := by
  refine ⟨fun s hb => ?_, fun x r hx => ?_⟩
  · obtain ⟨h1, h2, h3⟩ := h.back s hb
    exact ⟨h1, by simp only [hgf]; exact h2, by simp only [hgf]; exact h3⟩
  · show (f (one ⟨enc (g x) ++ r, false⟩).1, (one ⟨enc (g x) ++ r, false⟩).2) = _
    rw [h.fore _ _ hx, hfg]
def vOf (x : (Int × Int) × Bs) : ValD := ⟨x.1.1, x.1.2, ofL x.2⟩
def vTo (v : ValD) : (Int × Int) × Bs := ((v.kind, v.n), bl v.s)
theorem vOf_vTo (v : ValD) : vOf (vTo v) = v := by
  obtain ⟨k, n, s⟩ := v
  show (⟨k, n, ofL (bl s)⟩ : ValD) = _
  rw [ofL_bl]
def encV1 (v : ValD) : Bs := encI v.kind ++ encI v.n ++ encT (bl v.s)
structure GoodVal (v : ValD) : Prop where
  kind : inI v.kind
  n : inI v.n
  s : (bl v.s).length ≤ 9223372036854775807
noncomputable def valR (s : RS) : ValD × RS := (vOf (thenR (thenR intR intR) textR s).1, (thenR (thenR intR intR) textR s).2)
theorem valR_rd : Rd2 encV1 GoodVal valR := by
  have h := ((intR_rd.seq intR_rd).seq textR_rd).map vOf vTo vOf_vTo fun x => rfl
  exact ⟨fun s hb => by
    obtain ⟨h1, h2, h3⟩ := h.back s hb
    exact ⟨h1, h2, ⟨h3.1.1, h3.1.2, h3.2⟩⟩, fun x r hx => h.fore x r ⟨⟨hx.kind, hx.n⟩, hx.s⟩⟩
def encRow (l : List ValD) : Bs := encI l.length ++ l.flatMap encV1
theorem encV1_pos (v : ValD) : 0 < (encV1 v).length := by
  unfold encV1
  have := encI_pos v.kind
  simp only [List.length_append]
  omega
noncomputable def readRow (t : Bs) : Option (List ValD) :=
  let n := natR ⟨t, false⟩
  let p := timesR valR n.1.toNat [] n.2
  if doneR p.2 = true then some p.1 else none
theorem readRow_enc {l : List ValD} (hl : l.length ≤ 9223372036854775807) (hg : ∀ v ∈ l, GoodVal v) : readRow (encRow l) = some l := by
  unfold readRow encRow
  rw [natR_enc (by omega) ⟨by omega, by omega⟩]
  have h := valR_rd.timesFore l [] [] hg
  rw [List.append_nil, List.nil_append] at h
  simp only [Int.toNat_natCast, h]
  rfl
theorem readRow_back {t : Bs} {l : List ValD} (h : readRow t = some l) : encRow l = t ∧ ∀ v ∈ l, GoodVal v := by
  unfold readRow at h
  simp only at h
  split at h
  · rename_i hd
    injection h with h
    obtain ⟨d1, d2⟩ := done_end hd
    obtain ⟨b1, l2, l1, l2', l3, l4⟩ := valR_rd.times _ _ _ d1
    obtain ⟨_, c2, c3⟩ := natR_rd.back _ b1
    rw [List.nil_append] at l2'
    rw [l2'] at h
    subst h
    refine ⟨?_, l4⟩
    unfold encRow
    have hn : (l2.length : Int) = (natR ⟨t, false⟩).1 := by omega
    have e : t = encI (natR ⟨t, false⟩).1 ++ (natR ⟨t, false⟩).2.rest := c2
    rw [l3, d2, List.append_nil] at e
    rw [hn]
    exact e.symm
  · cases h
theorem times_empty {k : Nat} (hk : 0 < k) {acc : List ValD} {s : RS} (hs : s.rest = []) : doneR (timesR valR k acc s).2 = false := by
  cases hd : doneR (timesR valR k acc s).2
  · rfl
  · obtain ⟨d1, d2⟩ := done_end hd
    obtain ⟨_, l, l1, _, l3, _⟩ := valR_rd.times _ _ _ d1
    rw [hs, d2, List.append_nil] at l3
    cases l with
    | nil => rw [List.length_nil] at l1; omega
    | cons v l =>
      have h1 := encV1_pos v
      have := congrArg List.length l3
      rw [List.flatMap_cons, List.length_append, List.length_nil] at this
      omega
theorem valR_le (s : RS) : (valR s).2.rest.length ≤ s.rest.length ∧ (bl (valR s).1.s).length ≤ s.rest.length ∧ inI (valR s).1.kind ∧ inI (valR s).1.n := by
  have a1 := (numR_le (.inl rfl : isEnd 59) (-9223372036854775808) s).1
  have a2 := (numR_le (.inl rfl : isEnd 59) (-9223372036854775808) (intR s).2).1
  have b1 := (numR_le (.inl rfl : isEnd 59) (-9223372036854775808) s).2.1
  have b2 := (numR_le (.inl rfl : isEnd 59) (-9223372036854775808) (intR s).2).2.1
  obtain ⟨c1, c2⟩ := textR_le (intR (intR s).2).2
  exact ⟨Nat.le_trans c2 (Nat.le_trans a2 a1), Nat.le_trans c1 (Nat.le_trans a2 a1), b1, b2⟩
theorem valR_sane {s : RS} (h : Sane s) : Sane (valR s).2 := textR_sane (intR_sane (intR_sane h))
theorem valR_shrink {s : RS} (hs : Sane s) (hr : s.rest ≠ []) : (valR s).2.rest.length + 1 ≤ s.rest.length := by
  have hlen : 0 < s.rest.length := List.length_pos_iff.2 hr
  cases hb : (valR s).2.bad
  · obtain ⟨_, h2, _⟩ := valR_rd.back s hb
    have := encV1_pos (valR s).1
    rw [h2, List.length_append]
    omega
  · rw [valR_sane hs hb, List.length_nil]
    omega
theorem encV1_len {v : ValD} (h : GoodVal v) {N : Nat} (hN : (bl v.s).length ≤ N) : (encV1 v).length ≤ 64 + N := by
  unfold encV1
  have h1 := encI_len h.kind
  have h2 := encI_len h.n
  have h3 := encT_len (bl v.s) h.s
  simp only [List.length_append]
  omega
section
variable {B : Base} {w : World} {σ : List Dat} {p : Nat} {s : RS}
theorem vBytes_g (hB : powD B) {v : ValD} (hg : GoodVal v) (hs : (bl v.s).length ≤ 1099511627776) : Gives Tryz.prog B (sCall F_value_Bytes #[.agg v.cs.toArray]) (.string (ofL (encV1 v))) := by
  refine Gives.intro fun B' w K base h k => ?_
  replace hB := base hB
  refine value_Bytes.up (value_Bytes.call ?_)
  unfold value_Bytes.pt
  refine h.box fun o w1 h => ?_
  have h : Rel B' w1 [cellD o T_api_Value v.cs.toArray] := h
  have h := h.tick
  have h1 := encI_len hg.kind
  have h2 := encI_len hg.n
  have h3 := encT_len (bl v.s) hg.s
  have es : v.s = ofL (bl v.s) := (ofL_bl v.s).symm
  simp -zeta only [field_addr f_api_Value_0, field_addr f_api_Value_1, field_addr f_api_Value_2, Nat.add_zero, Nat.zero_add, h.ld 0 rfl sc_int (o := 0) rfl, h.ld 0 rfl sc_int (o := 1) rfl, h.ld 0 rfl sc_string (o := 2) rfl]
  refine h.ask (fun B2 own base2 => wInt_g (base2 hB) hg.kind) fun w2 h => ?_
  refine ⟨h.is 0 rfl sc_string (o := 2) rfl, h.is 0 rfl sc_int (o := 1) rfl, ?_⟩
  refine h.ask (fun B2 own base2 => wInt_g (base2 hB) hg.n) fun w3 h => ?_
  refine ⟨h.is 0 rfl sc_string (o := 2) rfl, ?_⟩
  rw [strL_add (by omega)]
  refine h.ask (v := .string (ofL (encT (bl v.s)))) (fun B2 own base2 => by have := wText_g (B := B2) (base2 hB) (s := bl v.s) (by omega); rw [← es] at this; exact this) fun w4 h => ?_
  rw [strL_add (by rw [List.length_append]; omega)]
  exact k _ _ h
theorem take_d (hB : wireD B) (hs : s.rest.length ≤ 140737488355328) : Does Tryz.prog B (rdD p s) (sCall F_value_take #[ptr1 p]) (rdPost p (.agg (valR s).1.cs.toArray) (valR s).2) := by
  refine Does.rd fun B' w K base h k => ?_
  replace hB := base hB
  refine value_take.up (value_take.call ?_)
  unfold value_take.pt
  have a1 : (intR s).2.rest.length ≤ s.rest.length := (numR_le (.inl rfl) _ s).1
  have a2 : (intR (intR s).2).2.rest.length ≤ (intR s).2.rest.length := (numR_le (.inl rfl) _ (intR s).2).1
  refine h.alloc z_api_Value fun o w1 h => ?_
  refine h.rd_ 0 rfl (fun B2 own base2 => rInt_d (base2 hB) (by omega)) fun w2 h => ?_
  refine h.rd_ 0 rfl (fun B2 own base2 => rInt_d (base2 hB) (by omega)) fun w3 h => ?_
  rw [bd_api_Value_0_1]
  refine h.allocAg (ds := (⟨(intR s).1, (intR (intR s).2).1, ⟨#[]⟩⟩ : ValD).cs.toArray) z_api_Value rfl ag_api_Value rfl (fun v hv => Enc.one (⟨(intR s).1, (intR (intR s).2).1, ⟨#[]⟩⟩ : ValD) v hv) fun o2 w5 h => ?_
  refine h.rd_ 0 rfl (fun B2 own base2 => rText_d (base2 hB) (by omega)) fun w6 h => ?_
  simp -zeta only [field_addr f_api_Value_2, Nat.zero_add]
  refine h.st 2 rfl sc_string (show 2 < 3 by omega) rfl fun w7 h => ?_
  have h : Rel B' w7 [rdD p (valR s).2, cellD o T_api_Value (Value.cells (.agg #[(.int .i64 0), (.int .i64 0), (.string ⟨#[]⟩)])), cellD o2 T_api_Value (valR s).1.cs.toArray] := h
  rw [h.ldAg 2 rfl ag_api_Value rfl]
  refine h.stAll 1 (ds := (valR s).1.cs.toArray) rfl ag_api_Value rfl rfl (fun v hv => Enc.one (valR s).1 v hv) fun w8 h => ?_
  rw [rv_ag h 1 rfl ag_api_Value rfl]
  exact k _ _ h
end
end Go.Proofs.YtoebncgnjbblgaaGreatDoor
