/-
  clone. No condition.
-/
import Derived.Test.YtppnebcpalialaaDoorProdB
import Derived.Test.YtppnebcpalialaaDoorMk
namespace Go.Proofs.YtppnebcpalialaaDoor
open Go.RowKit
set_option maxRecDepth 100000

theorem rowR.cells {α : Type} [Enc α] {B : Base} {l : List α} {g n cap : Nat} (h : rowR (.slice (some ⟨g, 0, none⟩) n cap) l B) {i : Nat} (hi : i < l.length) : cellsR g (i * Enc.sz α) (Enc.cells l[i]) B := by
  obtain ⟨a, cap', e, hc, h⟩ := h
  rcases h with rfl | ⟨g', o', ha, h1, h2, h3⟩
  · simp at hi
  · subst ha
    injection e with e1 e2 e3
    injection e1 with e1
    injection e1 with e1 e4 e5
    subst e1 e4
    refine ⟨h1, h2, fun j u hj => ?_⟩
    have := h3 _ _ (flat_get hi hj)
    rw [Nat.zero_add] at this
    exact this
def prEnt (p : Pr × SV) : Dat := rowD T_int p.2.1 p.1.last

section
variable {B : Base} {w : World}
theorem clone_m {v : Value} {L : PrL} (r : rowR v (praws L) B) (q : prows L B) (hl : L.length ≤ 1000000) (hq : ∀ p ∈ L, p.1.last.length ≤ 1000000) :
    Makes Tryd.prog B (sCall F_producer_clone #[v]) fun u τ => ∃ (g : Nat) (L' : PrL), prs L' = prs L ∧ u = .slice (some ⟨g, 0, none⟩) L'.length L'.length ∧ τ = [rowD T_api_Producer u (praws L'), prows L'] := by
  refine Makes.intro fun B' w K base h k => ?_
  replace r := base r
  replace q := base q
  have hal : ∀ L : PrL, (praws L).length = L.length := fun L => List.length_map ..
  refine producer_clone.up (producer_clone.call ?_)
  unfold producer_clone.pt
  simp -zeta only [rowR.len r sl_s_api_Producer]
  rw [hal]
  refine h.mkSliceV (⟨0, 0, 0, nilSV⟩ : PrD) sl_s_api_Producer (by kernel_rfl) (by omega) (by omega) fun g w1 h => ?_
  refine h.copyPart 0 (l2 := praws L) (n := L.length) (lo := 0) rfl sl_s_api_Producer (Rd.base r) (Nat.zero_le _) (.inl (by rw [Nat.zero_mul])) fun w2 h => ?_
  have e0 : (List.replicate L.length (⟨0, 0, 0, nilSV⟩ : PrD)).take 0 ++ (praws L).take ((List.replicate L.length (⟨0, 0, 0, nilSV⟩ : PrD)).length - 0) ++ (List.replicate L.length (⟨0, 0, 0, nilSV⟩ : PrD)).drop (0 + ((praws L).take ((List.replicate L.length (⟨0, 0, 0, nilSV⟩ : PrD)).length - 0)).length) = praws L := by
    have e1 : (praws L).take ((List.replicate L.length (⟨0, 0, 0, nilSV⟩ : PrD)).length - 0) = praws L := List.take_of_length_le (by rw [hal]; simp)
    rw [e1, List.take_zero, List.nil_append, List.drop_of_length_le (by rw [hal]; simp), List.append_nil]
  have h : Rel B' w2 [rowD T_api_Producer (.slice (some ⟨g, 0, none⟩) L.length L.length) ((List.replicate L.length (⟨0, 0, 0, nilSV⟩ : PrD)).take 0 ++ (praws L).take ((List.replicate L.length (⟨0, 0, 0, nilSV⟩ : PrD)).length - 0) ++ (List.replicate L.length (⟨0, 0, 0, nilSV⟩ : PrD)).drop (0 + ((praws L).take ((List.replicate L.length (⟨0, 0, 0, nilSV⟩ : PrD)).length - 0)).length))] := h
  rw [e0] at h
  have hr := rowD.read (h.here (i := 0) rfl)
  simp -zeta only [rowR.len hr sl_s_api_Producer]
  rw [hal]
  clear hr e0
  refine LOOP_intro (fun x w' => ∃ (i : Nat) (L' : PrL), i ≤ L.length ∧ L'.length = i ∧ prs L' = (prs L).take i ∧ x = (.int .i64 i, ()) ∧ Rel B' w' (rowD T_api_Producer (.slice (some ⟨g, 0, none⟩) L.length L.length) (praws (L' ++ L.drop i)) :: L'.map prEnt)) (fun x _ => L.length - (match x.1 with | .int _ n => n.toNat | _ => 0))
    ⟨0, [], Nat.zero_le _, rfl, rfl, rfl, h⟩ ?_
  clear h
  rintro x w3 ⟨i, L', hi, hl', hp, rfl, h⟩ next hnext
  simp -zeta only [bin_lss, ifB_dec]
  have hlen : (L' ++ L.drop i).length = L.length := by rw [List.length_append, List.length_drop]; omega
  refine ⟨fun hlt => ?_, fun hge => ?_⟩
  · have hil : i < L.length := by omega
    have hr := rowD.read (h.here (i := 0) rfl)
    have hel : (praws (L' ++ L.drop i))[i]'(by rw [hal, hlen]; exact hil) = L[i].1.raw L[i].2 := by
      simp [praws, List.getElem_append_right (show L'.length ≤ i by omega), hl']
    have hc := rowR.cells hr (i := i) (by rw [hal, hlen]; exact hil)
    rw [hel] at hc
    have hc : (cellsR g (i * Enc.sz PrD) (L[i].1.raw L[i].2).cs).here w3 := hc
    have hrow := q L[i] (List.getElem_mem hil)
    have hql := hq L[i] (List.getElem_mem hil)
    simp -zeta only [idx_own (α := PrD) (P := Tryd.prog) (g := g) (cap := L.length) (n := L.length) (i := i) sl_s_api_Producer hil, field_addr f_api_Producer_3, cellsR.ld hc sc_s_int (j := 3) rfl]
    refine h.make (fun B2 own base2 => gslices_Clone_s_int_int (base2 hrow) (by omega) (by omega)) fun v' τ w4 hp2 h => ?_
    subst hp2
    have h1 : v'.oneCell' = true := h.oneCell (i := (rowD T_api_Producer (.slice (some ⟨g, 0, none⟩) L.length L.length) (praws (L' ++ L.drop i)) :: L'.map prEnt).length) get_last
    refine h.set_sc 0 (j := i) (f := 3) rfl (L[i].1.raw ⟨v', h1⟩) (by rw [hal, hlen]; exact hil) rfl (by decide) (by rw [hel]; rfl) sc_s_int h1 fun w5 h => ?_
    rw [bin_add, wrap_id (by omega) (by omega)]
    refine hnext _ _ ⟨i + 1, L' ++ [(L[i].1, ⟨v', h1⟩)], by omega, by simp [hl'], ?_, rfl, ?_⟩ (by simp only; omega)
    · have : (prs L).take (i + 1) = (prs L).take i ++ [L[i].1] := by
        rw [List.take_succ_eq_append_getElem (by simpa using hil)]
        simp
      rw [this, ← hp]
      simp
    · have e : (praws (L' ++ L.drop i)).set i (L[i].1.raw ⟨v', h1⟩) = praws (L' ++ [(L[i].1, ⟨v', h1⟩)] ++ L.drop (i + 1)) := by
        have hd : L.drop i = L[i] :: L.drop (i + 1) := List.drop_eq_getElem_cons hil
        have hl2 : (praws L').length = i := by rw [hal, hl']
        unfold praws at hl2 ⊢
        rw [hd, List.map_append, List.set_append_right _ _ (by omega), hl2, Nat.sub_self, List.map_cons, List.set_cons_zero]
        simp
      have h : Rel B' w5 (rowD T_api_Producer (.slice (some ⟨g, 0, none⟩) L.length L.length) ((praws (L' ++ L.drop i)).set i (L[i].1.raw ⟨v', h1⟩)) :: L'.map prEnt ++ [rowD T_int v' L[i].1.last]) := h
      rw [e] at h
      simpa [prEnt] using h
  · have hie : i = L.length := by omega
    subst hie
    rw [List.drop_length, List.append_nil] at h
    rw [List.take_of_length_le (by simp)] at hp
    have h := Rel.gather (σ := [rowD T_api_Producer (.slice (some ⟨g, 0, none⟩) L.length L.length) (praws L')]) (g := fun p : Pr × SV => rowR p.2.1 p.1.last) h fun x _ B hx => rowD.read hx
    exact k _ _ _ ⟨g, L', hp, by rw [hl'], rfl⟩ h
end
end Go.Proofs.YtppnebcpalialaaDoor
