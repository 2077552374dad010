/-
  value.Read, Zero; encodings tell values apart. No condition.
-/
import Derived.Test.YtmllhipiahlihaaGreatDoorValB
--@auto
namespace Go.Proofs.YtmllhipiahlihaaGreatDoor
open Go.RowKit
set_option maxRecDepth 100000

noncomputable def readV1 (t : Bs) : Option ValD := if doneR (valR ⟨t, false⟩).2 = true then some (valR ⟨t, false⟩).1 else none
theorem readV1_enc {v : ValD} (h : GoodVal v) : readV1 (encV1 v) = some v := by
  have e := valR_rd.fore v [] h
  rw [List.append_nil] at e
  unfold readV1
  rw [e]; rfl
theorem readV1_back {t : Bs} {v : ValD} (h : readV1 t = some v) : encV1 v = t ∧ GoodVal v := by
  unfold readV1 at h
  split at h
  · rename_i hd
    injection h with h
    obtain ⟨d1, d2⟩ := done_end hd
    obtain ⟨_, b2, b3⟩ := valR_rd.back _ d1
    rw [h] at b2 b3
    rw [d2, List.append_nil] at b2
    exact ⟨b2.symm, b3⟩
  · cases h
theorem encV1_inj {v u : ValD} (hv : GoodVal v) (hu : GoodVal u) (h : encV1 v = encV1 u) : v = u := by
  have h1 := readV1_enc hv
  rw [h, readV1_enc hu] at h1
  injection h1 with h1; exact h1.symm
theorem encRow_inj {l m : List ValD} (hl : l.length ≤ 9223372036854775807) (hm : m.length ≤ 9223372036854775807) (gl : ∀ v ∈ l, GoodVal v) (gm : ∀ v ∈ m, GoodVal v) (h : encRow l = encRow m) : l = m := by
  have h1 := readRow_enc hl gl
  rw [h, readRow_enc hm gm] at h1
  injection h1 with h1; exact h1.symm
theorem readRow_len {t : Bs} {l : List ValD} (h : readRow t = some l) : ((natR ⟨t, false⟩).1 = l.length) ∧ l.length ≤ t.length := by
  obtain ⟨e1, e2⟩ := readRow_back h
  have h2 : l.length ≤ t.length := by
    rw [← e1]
    unfold encRow
    rw [List.length_append]
    have : ∀ m : List ValD, m.length ≤ (m.flatMap encV1).length := by
      intro m
      induction m with
      | nil => exact Nat.zero_le _
      | cons y m ih =>
        have h1 := encV1_pos y
        rw [List.flatMap_cons, List.length_append, List.length_cons]; omega
    have := this l; omega
  refine ⟨?_, h2⟩
  unfold readRow at h
  simp only at h
  split at h
  · injection h with h
    rw [← h, timesR_len]
    have := (numR_le (.inl rfl : isEnd 59) 0 ⟨t, false⟩).2.2 (Int.le_refl 0)
    have e : (natR ⟨t, false⟩).1 = (numR 59 0 ⟨t, false⟩).1 := rfl
    rw [List.length_nil, Nat.zero_add]
    omega
  · cases h
section
variable {B : Base} {w : World} {σ : List Dat}
end
end Go.Proofs.YtmllhipiahlihaaGreatDoor
