/-
  with, Put, Fence. No condition.
-/
import Derived.Test.YtppnebcpalialaaDoorProdD
namespace Go.Proofs.YtppnebcpalialaaDoor
open Go.RowKit
set_option maxRecDepth 100000

def cntLt (s : List Pr) (id : Int) : Nat := (s.takeWhile fun p => decide (p.id < id)).length
theorem cnt_le (s : List Pr) (id : Int) : cntLt s id ≤ s.length := (List.takeWhile_prefix _).length_le
theorem cnt_cons (a : Pr) (s : List Pr) (id : Int) : cntLt (a :: s) id = if a.id < id then cntLt s id + 1 else 0 := by
  unfold cntLt
  by_cases h : a.id < id
  · rw [List.takeWhile_cons_of_pos (by simpa using h), if_pos h]; rfl
  · rw [List.takeWhile_cons_of_neg (by simpa using h), if_neg h]; rfl
theorem cnt_lt {s : List Pr} {id : Int} {i : Nat} (hi : i < cntLt s id) (h : i < s.length) : s[i].id < id := by
  induction s generalizing i with
  | nil => cases h
  | cons a s ih =>
    rw [cnt_cons] at hi
    split at hi
    · rename_i ha
      cases i with
      | zero => exact ha
      | succ i => exact ih (by omega) (by simpa using h)
    · omega
theorem cnt_stop {s : List Pr} {id : Int} (h : cntLt s id < s.length) : ¬ s[cntLt s id].id < id := by
  induction s with
  | nil => cases h
  | cons a s ih =>
    by_cases ha : a.id < id
    · have e : cntLt (a :: s) id = cntLt s id + 1 := by rw [cnt_cons, if_pos ha]
      have h' : cntLt s id < s.length := by rw [e] at h; simpa using h
      have := ih h'
      simp only [e, List.getElem_cons_succ]
      exact this
    · have e : cntLt (a :: s) id = 0 := by rw [cnt_cons, if_neg ha]
      simp only [e, List.getElem_cons_zero]
      exact ha
theorem asc_lt {s : List Pr} (hs : ∀ i (h : i < s.length), 0 < i → s[i - 1].id < s[i].id) {i j : Nat} (hij : i < j) (hj : j < s.length) : s[i].id < s[j].id := by
  induction j with
  | zero => omega
  | succ j ih =>
    have h1 := hs (j + 1) hj (by omega)
    have h1 : s[j].id < s[j + 1].id := h1
    by_cases e : i = j
    · subst e; exact h1
    · exact Int.lt_trans (ih (by omega) (by omega)) h1
theorem cnt_ge {s : List Pr} (hs : ∀ i (h : i < s.length), 0 < i → s[i - 1].id < s[i].id) {id : Int} {i : Nat} (hi : cntLt s id ≤ i) (h : i < s.length) : id ≤ s[i].id := by
  have hlt : cntLt s id < s.length := by omega
  have h0 : ¬ s[cntLt s id].id < id := cnt_stop hlt
  by_cases e : i = cntLt s id
  · subst e; omega
  · have := asc_lt hs (i := cntLt s id) (j := i) (by omega) h
    omega
def withS (s : List Pr) (p : Pr) : List Pr := if hasP s p.id = true then s.set (cntLt s p.id) p else s.take (cntLt s p.id) ++ p :: s.drop (cntLt s p.id)
theorem has_iff {s : List Pr} (hs : ∀ i (h : i < s.length), 0 < i → s[i - 1].id < s[i].id) {id : Int} : hasP s id = true ↔ ∃ h : cntLt s id < s.length, s[cntLt s id].id = id := by
  constructor
  · intro h
    obtain ⟨h1, h2⟩ := getP_mem h
    obtain ⟨j, hj, e⟩ := List.getElem_of_mem h1
    have hej : s[j].id = id := by rw [e]; exact h2
    have hle : cntLt s id ≤ j := Nat.le_of_not_lt fun hlt => by have := cnt_lt hlt hj; omega
    have hlt : cntLt s id < s.length := by omega
    refine ⟨hlt, ?_⟩
    have h3 := cnt_ge hs (Nat.le_refl _) hlt
    by_cases ej : cntLt s id = j
    · simp only [ej]; exact hej
    · have := asc_lt hs (i := cntLt s id) (j := j) (by omega) hj
      omega
  · rintro ⟨h, e⟩
    unfold hasP
    rw [List.find?_isSome]
    exact ⟨_, List.getElem_mem h, decide_eq_true e⟩

/-- A table that can be read. -/
def tabD (u : Value) (s : List Pr) : Dat := ⟨fun B => ∃ L : PrL, prs L = s ∧ rowR u (praws L) B ∧ prows L B, fun hl ⟨L, h1, h2, h3⟩ => ⟨L, h1, Dat.mono _ hl h2, Dat.mono _ hl h3⟩⟩
/-- What was made is a table of one's own. -/
def OwnTab (u : Value) (s : List Pr) (τ : List Dat) : Prop := ∀ (B : Base) (w : World) (σ : List Dat), Rel B w (σ ++ τ) → Rel B w (σ ++ [tabD u s])
theorem own_stars {u : Value} {s : List Pr} {τ : List Dat} (h : ∀ B, (stars τ) B → tabD u s B) : OwnTab u s τ := fun B w σ hr => by
  have h1 := (Rel.restars hr).imp (i := σ.length) (e := tabD u s) get_last h
  rw [List.set_append_right _ _ (Nat.le_refl _), Nat.sub_self, List.set_cons_zero] at h1
  exact h1
theorem Makes.imp {P : Program} {B : Base} {s : Sem Next} {post post' : Value → List Dat → Prop} (h : Makes P B s post) (hi : ∀ v τ, post v τ → post' v τ) : Makes P B s post' := fun w σ K hr k => h w σ K hr fun v τ w' hp h2 => k v τ w' (hi v τ hp) h2
def NewTab (u : Value) (s : List Pr) (τ : List Dat) : Prop := ∀ (B : Base) (w : World) (σ : List Dat), Rel B w (σ ++ τ) → ∃ (B' : Base) (L' : PrL), B.ext B' ∧ Rel B' w σ ∧ prs L' = s ∧ rowR u (praws L') B' ∧ prows L' B'

theorem OwnTab.new {u : Value} {s : List Pr} {τ : List Dat} (h : OwnTab u s τ) : NewTab u s τ := fun B w σ hr => by
  obtain ⟨B', e, h2, L, h3, h4, h5⟩ := (h B w σ hr).frz1
  exact ⟨B', L, e, h2, h3, h4, h5⟩
section
variable {B : Base} {w : World}
theorem with_m {v : Value} {L : PrL} (r : rowR v (praws L) B) (q : prows L B) (hR : RightT (prs L)) {p : Pr} {sv : SV} (hid : inP p.id) :
    Makes Tryd.prog B (sCall F_producer_with #[v, (p.raw sv).v]) fun u τ => ∃ Lc L' : PrL, prs L' = withS (prs L) p ∧ (∀ x ∈ L', x ∈ Lc ∨ x = (p, sv)) ∧ τ = [rowD T_api_Producer u (praws L'), prows Lc] := by
  refine Makes.intro fun B' w K base h k => ?_
  replace r := base r
  replace q := base q
  have hpl : ∀ L : PrL, (prs L).length = L.length := fun L => List.length_map ..
  have hal : ∀ L : PrL, (praws L).length = L.length := fun L => List.length_map ..
  have hlen := hR.len
  rw [hpl] at hlen
  refine producer_with.up (producer_with.call ?_)
  unfold producer_with.pt
  refine h.box fun b w1 h => ?_
  have h : Rel B' w1 [cellD b T_api_Producer (p.raw sv).cs.toArray] := h
  refine h.make (fun B2 own base2 => clone_m (base2 r) (base2 q) (by omega) fun x hx => by have := (hR.fine x.1 (List.mem_map_of_mem hx)).len; omega) fun u τ w2 hp h => ?_
  obtain ⟨g, Lc, hpc, rfl, rfl⟩ := hp
  have hlc : Lc.length = L.length := by rw [← hpl Lc, hpc, hpl]
  have h : Rel B' w2 [cellD b T_api_Producer (p.raw sv).cs.toArray, rowD T_api_Producer (.slice (some ⟨g, 0, none⟩) Lc.length Lc.length) (praws Lc), prows Lc] := h
  simp -zeta only [field_addr f_api_Producer_0, Nat.add_zero, h.ld 0 rfl sc_int (o := 0) rfl]
  have hget : ∀ i (h : i < Lc.length), Lc[i].1 = (prs L)[i]'(by rw [hpl]; omega) := fun i h => by
    have : (prs Lc)[i]'(by rw [hpl]; exact h) = Lc[i].1 := by simp
    rw [← this]
    simp only [hpc]
  have hcl := cnt_le (prs L) p.id
  rw [hpl] at hcl
  refine h.ask (fun B2 own base2 => bs_g (L := Lc) (id := p.id) (r := cntLt (prs L) p.id) (f := hasP (prs L) p.id) (rowD.read (own (i := 1) rfl)) (by omega)
    (fun x hx => by
      have hm : x.1 ∈ prs L := by rw [← hpc]; exact List.mem_map_of_mem hx
      exact (hR.fine _ hm).id) hid (by omega) (fun i hi hlt => by rw [hget i hi]; exact cnt_lt hlt _) (fun i hi hge => by rw [hget i hi]; exact cnt_ge hR.asc hge _) (by
        rw [has_iff hR.asc]
        constructor
        · rintro ⟨h1, h2⟩
          have h1' : cntLt (prs L) p.id < Lc.length := by rw [hpl] at h1; omega
          exact ⟨h1', by rw [hget _ h1']; exact h2⟩
        · rintro ⟨h1, h2⟩
          exact ⟨by rw [hpl]; omega, by rw [← hget _ h1]; exact h2⟩)) fun w3 h => ?_
  simp -zeta only [ext_2_0, ext_2_1]
  rw [ifB_bool]
  generalize hc : cntLt (prs L) p.id = c at hcl ⊢
  refine ⟨fun e => ?_, fun e => ?_⟩
  · have hcl2 : c < Lc.length := by
      obtain ⟨h1, _⟩ := (has_iff hR.asc).1 e
      rw [hc, hpl] at h1
      omega
    simp -zeta only [h.ldAg 0 rfl ag_api_Producer rfl, idx_own (α := PrD) (P := Tryd.prog) (g := g) (cap := Lc.length) (n := Lc.length) (i := c) sl_s_api_Producer hcl2]
    refine h.set_ag 1 (j := c) rfl (p.raw sv) (by rw [hal]; exact hcl2) ag_api_Producer rfl rfl fun w4 h => ?_
    have h := h.pick [1, 2] (by decide)
    refine k _ _ _ ⟨Lc, Lc.set c (p, sv), ?_, fun x hx => List.mem_or_eq_of_mem_set hx, rfl⟩ ?_
    · unfold withS
      rw [if_pos e, hc, ← hpc]
      exact List.map_set
    · have e2 : praws (Lc.set c (p, sv)) = (praws Lc).set c (p.raw sv) := List.map_set
      rw [e2]
      exact h
  · simp -zeta only [h.ldAg 0 rfl ag_api_Producer rfl]
    refine h.build1 (α := PrD) (p.raw sv) sl_s_api_Producer (by decide) fun v2 w4 h => ?_
    have h : Rel B' w4 [cellD b T_api_Producer (p.raw sv).cs.toArray, rowD T_api_Producer (.slice (some ⟨g, 0, none⟩) Lc.length Lc.length) (praws Lc), prows Lc, rowD T_api_Producer v2 [p.raw sv]] := h
    rw [← hal Lc] at h ⊢
    refine h.make (fun B2 own base2 => insert_m (l := praws Lc) (x := p.raw sv) (r := c) (rowD.read (own (i := 1) rfl)) (rowD.read (own (i := 3) rfl)) (by rw [hal]; omega) (by rw [hal]; omega)) fun u τ w5 hp h => ?_
    subst hp
    have h := h.pick [4, 2] (by decide)
    refine k _ _ _ ⟨Lc, Lc.take c ++ (p, sv) :: Lc.drop c, ?_, fun x hx => ?_, rfl⟩ ?_
    · unfold withS
      rw [if_neg (by rw [e]; decide), hc, ← hpc]
      simp
    · rcases List.mem_append.1 hx with hx | hx
      · exact .inl (List.mem_of_mem_take hx)
      · rcases List.mem_cons.1 hx with hx | hx
        · exact .inr hx
        · exact .inl (List.mem_of_mem_drop hx)
    · have e2 : praws (Lc.take c ++ (p, sv) :: Lc.drop c) = (praws Lc).take c ++ p.raw sv :: (praws Lc).drop c := by simp [praws]
      rw [e2]
      exact h

def fenceS (s : List Pr) (id : Int) : List Pr × Int × Int :=
  if ¬ okN id ∨ (getP s id).epoch = 1099511627776 then ([], 0, 1) else if hasP s id = false ∧ 50 ≤ s.length then ([], 0, 6) else (withS s ⟨id, (getP s id).epoch + 1, 0, []⟩, (getP s id).epoch + 1, 0)
theorem nilTab (τ : List Dat) : OwnTab (.slice none 0 0) [] τ := own_stars fun B _ => ⟨[], rfl, ⟨none, 0, rfl, Nat.le_refl _, .inl rfl⟩, fun x hx => by cases hx⟩
theorem Fence_o {v : Value} {L : PrL} (r : rowR v (praws L) B) (q : prows L B) (hR : RightT (prs L)) (id : Int) :
    Makes Tryd.prog B (sCall F_producer_Fence #[v, .int .i64 id]) fun u τ => ∃ tv, u = .tuple #[tv, .int .i64 (fenceS (prs L) id).2.1, .int .i64 (fenceS (prs L) id).2.2] ∧ OwnTab tv (fenceS (prs L) id).1 τ := by
  refine Makes.intro fun B' w K base h k => ?_
  replace r := base r
  replace q := base q
  have hpl : ∀ L : PrL, (prs L).length = L.length := fun L => List.length_map ..
  have hal : ∀ L : PrL, (praws L).length = L.length := fun L => List.length_map ..
  have hlen := hR.len
  rw [hpl] at hlen
  refine producer_Fence.up (producer_Fence.call ?_)
  unfold producer_Fence.pt
  have fin : ∀ (x : List Pr × Int × Int) tv τ w', fenceS (prs L) id = x → OwnTab tv x.1 τ → Rel B' w' τ → K (.tuple #[tv, .int .i64 x.2.1, .int .i64 x.2.2]) w' := fun x tv τ w' e hn h => k _ τ w' ⟨tv, by rw [e], by rw [e]; exact hn⟩ h
  clear k
  unfold fenceS at fin
  obtain ⟨sv, hsv, hfind⟩ := find_g r q (by omega) id
  refine hfind _ _ _ h fun w1 h => ?_
  simp -zeta only [ext_2_0, ext_2_1]
  have hsm := getP_small hR (id := id)
  generalize getP (prs L) id = p at *
  refine h.allocAg (ds := (p.raw sv).cs.toArray) z_api_Producer rfl ag_api_Producer rfl (fun v hv => Enc.one (p.raw sv) v hv) fun o w3 h => ?_
  have h : Rel B' w3 [cellD o T_api_Producer (p.raw sv).cs.toArray] := h
  refine LETJ_intro fun J hJ => ?_
  replace hJ : okN id → ¬ p.epoch = 1099511627776 → ¬ (hasP (prs L) id = false ∧ 50 ≤ (prs L).length) → ∀ w', Rel B' w' [cellD o T_api_Producer (p.raw sv).cs.toArray] → J () w' := by
    intro c1 c2 c3 w4 h
    refine hJ _ _ ?_
    clear hJ
    rw [if_neg (fun hh => hh.elim (fun a => a c1) c2), if_neg c3] at fin
    simp -zeta only [field_addr f_api_Producer_1, Nat.zero_add, h.ld 0 rfl sc_int (o := 1) rfl, bin_add]
    rw [wrap_id (by omega) (by omega), bd_api_Producer_0_1]
    refine h.stAll 0 (ds := (⟨id, p.epoch + 1, 0, nilSV⟩ : PrD).cs.toArray) rfl ag_api_Producer rfl rfl (fun v hv => Enc.one (⟨id, p.epoch + 1, 0, nilSV⟩ : PrD) v hv) fun w5 h => ?_
    have h := h.tick
    have h : Rel B' (tick w5) [cellD o T_api_Producer (⟨id, p.epoch + 1, 0, nilSV⟩ : PrD).cs.toArray] := h
    simp -zeta only [h.ldAg 0 rfl ag_api_Producer rfl, h.ld 0 rfl sc_int (o := 1) rfl]
    refine h.make (fun B2 own base2 => with_m (p := ⟨id, p.epoch + 1, 0, []⟩) (sv := nilSV) (base2 r) (base2 q) hR ⟨c1.1, by have := c1.2; show id ≤ _; omega⟩) fun u τ w6 hp h => ?_
    obtain ⟨Lc, L', hp, hm, rfl⟩ := hp
    refine ⟨h.is 0 rfl sc_int (o := 1) rfl, ?_⟩
    refine fin (withS (prs L) ⟨id, p.epoch + 1, 0, []⟩, p.epoch + 1, 0) u [rowD T_api_Producer u (praws L'), prows Lc] _ rfl ?_ (h.pick [1, 2] (by decide))
    refine own_stars fun B3 hB3 => ⟨L', hp, rowD.read (Dat.star.left hB3), fun x hx => ?_⟩
    rcases hm x hx with hx | rfl
    · exact (Dat.star.left (Dat.star.right hB3) : prows Lc B3) x hx
    · exact ⟨none, 0, rfl, Nat.le_refl _, .inl rfl⟩
  refine h.ask (fun B2 own base2 => in_g id) fun w4 h => ?_
  rw [un_not, ifB_not, ifB_dec]
  refine ⟨fun c1 => ?_, fun c1 => fin ([], 0, 1) _ _ _ (by rw [if_pos (.inl fun hh => c1 ⟨hh.1, by have := hh.2; omega⟩)]) (nilTab []) h.nil⟩
  simp -zeta only [bin_eql, ifB_dec]
  refine ⟨fun c2 => fin ([], 0, 1) _ _ _ (by rw [if_pos (.inl fun hh => by have := hh.2; omega)]) (nilTab []) h.nil, fun c2 => ?_⟩
  have c1 : okN id := ⟨c1.1, by have := c1.2; omega⟩
  simp -zeta only [field_addr f_api_Producer_1, Nat.zero_add, h.ld 0 rfl sc_int (o := 1) rfl, bin_eql, ifB_dec]
  refine ⟨fun c3 => fin ([], 0, 1) _ _ _ (by rw [if_pos (.inr c3)]) (nilTab []) h.nil, fun c3 => ?_⟩
  rw [un_not, ifB_not, ifB_bool]
  refine ⟨fun c4 => hJ c1 c3 (fun hh => by rw [c4] at hh; cases hh.1) _ h, fun c4 => ?_⟩
  simp -zeta only [rowR.len r sl_s_api_Producer, bin_geq, ifB_dec]
  rw [hal]
  exact ⟨fun c5 => fin ([], 0, 6) _ _ _ (by rw [if_neg (fun hh => hh.elim (fun a => a c1) c3), if_pos ⟨c4, by rw [hpl]; omega⟩]) (nilTab []) h.nil, fun c5 => hJ c1 c3 (fun hh => c5 (by have := hh.2; rw [hpl] at this; omega)) _ h⟩
theorem Fence_m {v : Value} {L : PrL} (r : rowR v (praws L) B) (q : prows L B) (hR : RightT (prs L)) (id : Int) :
    Makes Tryd.prog B (sCall F_producer_Fence #[v, .int .i64 id]) fun u τ => ∃ tv, u = .tuple #[tv, .int .i64 (fenceS (prs L) id).2.1, .int .i64 (fenceS (prs L) id).2.2] ∧ NewTab tv (fenceS (prs L) id).1 τ :=
  (Fence_o r q hR id).imp fun _ _ ⟨tv, h1, h2⟩ => ⟨tv, h1, h2.new⟩
end
end Go.Proofs.YtppnebcpalialaaDoor
