/-
  value.Read, Zero; encodings tell values apart. No condition.
-/
import Derived.Test.YtoebncgnjbblgaaGreatDoorValB
--@auto
namespace Go.Proofs.YtoebncgnjbblgaaGreatDoor
open Go.RowKit
set_option maxRecDepth 100000

noncomputable def readV1 (t : Bs) : Option ValD := if doneR (valR ⟨t, false⟩).2 = true then some (valR ⟨t, false⟩).1 else none
theorem readV1_enc {v : ValD} (h : GoodVal v) : readV1 (encV1 v) = some v := by
  have e := valR_rd.fore v [] h
  rw [List.append_nil] at e
  unfold readV1
  rw [e]; rfl
theorem readV1_back {t : Bs} {v : ValD} (h : readV1 t = some v) : encV1 v = t ∧ GoodVal v := by
  unfold readV1 at h
  split at h
  · rename_i hd
    injection h with h
    obtain ⟨d1, d2⟩ := done_end hd
    obtain ⟨_, b2, b3⟩ := valR_rd.back _ d1
    rw [h] at b2 b3
    rw [d2, List.append_nil] at b2
    exact ⟨b2.symm, b3⟩
  · cases h
theorem encV1_inj {v u : ValD} (hv : GoodVal v) (hu : GoodVal u) (h : encV1 v = encV1 u) : v = u := by
  have h1 := readV1_enc hv
  rw [h, readV1_enc hu] at h1
  injection h1 with h1; exact h1.symm
theorem encRow_inj {l m : List ValD} (hl : l.length ≤ 9223372036854775807) (hm : m.length ≤ 9223372036854775807) (gl : ∀ v ∈ l, GoodVal v) (gm : ∀ v ∈ m, GoodVal v) (h : encRow l = encRow m) : l = m := by
  have h1 := readRow_enc hl gl
  rw [h, readRow_enc hm gm] at h1
  injection h1 with h1; exact h1.symm
theorem readRow_len {t : Bs} {l : List ValD} (h : readRow t = some l) : ((natR ⟨t, false⟩).1 = l.length) ∧ l.length ≤ t.length := by
  obtain ⟨e1, e2⟩ := readRow_back h
  have h2 : l.length ≤ t.length := by
    rw [← e1]
    unfold encRow
    rw [List.length_append]
    have : ∀ m : List ValD, m.length ≤ (m.flatMap encV1).length := by
      intro m
      induction m with
      | nil => exact Nat.zero_le _
      | cons y m ih =>
        have h1 := encV1_pos y
        rw [List.flatMap_cons, List.length_append, List.length_cons]; omega
    have := this l; omega
  refine ⟨?_, h2⟩
  unfold readRow at h
  simp only at h
  split at h
  · injection h with h
    rw [← h, timesR_len]
    have := (numR_le (.inl rfl : isEnd 59) 0 ⟨t, false⟩).2.2 (Int.le_refl 0)
    have e : (natR ⟨t, false⟩).1 = (numR 59 0 ⟨t, false⟩).1 := rfl
    rw [List.length_nil, Nat.zero_add]
    omega
  · cases h
section
variable {B : Base} {w : World} {σ : List Dat}
theorem read_g (hB : wireD B) {t : Bs} (ht : t.length ≤ 1099511627776) : Gives Tryz.prog B (sCall F_value_Read #[.string (ofL t)]) (.tuple #[((readV1 t).getD vZero).v, .bool (readV1 t).isSome]) := by
  refine Gives.intro fun B' w K base h k => ?_
  replace hB := base hB
  refine value_Read.up (value_Read.call ?_)
  unfold value_Read.pt
  unfold readV1 at k
  refine h.alloc z_api_Value fun o w1 h => ?_
  refine h.make (fun B2 own base2 => open_m) fun u τ w2 hp h => ?_
  obtain ⟨p, rfl, rfl⟩ := hp
  have h : Rel B' w2 [cellD o T_api_Value (Value.cells (.agg #[(.int .i64 0), (.int .i64 0), (.string ⟨#[]⟩)])), rdD p ⟨t, false⟩] := h
  refine h.rd_ 1 rfl (fun B2 own base2 => take_d (base2 hB) (by show t.length ≤ _; omega)) fun w3 h => ?_
  generalize valR ⟨t, false⟩ = y at *
  obtain ⟨x, s2⟩ := y
  simp only at k h ⊢
  refine h.allocAg (ds := x.cs.toArray) z_api_Value rfl ag_api_Value rfl (fun v hv => Enc.one x v hv) fun a w5 h => ?_
  have h : Rel B' w5 [cellD o T_api_Value (Value.cells (.agg #[(.int .i64 0), (.int .i64 0), (.string ⟨#[]⟩)])), rdD p s2, cellD a T_api_Value x.cs.toArray] := h
  refine h.ask (fun B2 own base2 => rDone_g (own (i := 1) rfl)) fun w6 h => ?_
  rw [un_not, ifB_not, ifB_bool]
  refine ⟨fun cd => ?_, fun cd => ?_⟩
  · rw [if_pos cd] at k
    rw [h.ldAg 2 rfl ag_api_Value rfl]
    refine h.stAll 0 (ds := x.cs.toArray) rfl ag_api_Value rfl rfl (fun v hv => Enc.one x v hv) fun w8 h => ?_
    rw [rv_ag h 0 rfl ag_api_Value rfl]
    exact k _ _ h
  · rw [if_neg (by rw [cd]; decide)] at k
    rw [bd_api_Value_]
    refine h.stAll 0 (ds := vZero.cs.toArray) rfl ag_api_Value rfl rfl (fun v hv => Enc.one vZero v hv) fun w8 h => ?_
    rw [rv_ag h 0 rfl ag_api_Value rfl]
    exact k _ _ h
end
end Go.Proofs.YtoebncgnjbblgaaGreatDoor
