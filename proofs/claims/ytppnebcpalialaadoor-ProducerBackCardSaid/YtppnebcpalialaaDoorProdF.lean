/-
  Put. No condition.
-/
import Derived.Test.YtppnebcpalialaaDoorProdE
namespace Go.Proofs.YtppnebcpalialaaDoor
open Go.RowKit
set_option maxRecDepth 100000

def putP (p : Pr) (pos : Int) : Pr := ⟨p.id, p.epoch, p.next + 1, (p.last ++ [pos]).drop ((p.last ++ [pos]).length - 20)⟩
def putS (s : List Pr) (id e q pos : Int) : List Pr :=
  if (lookS s id e q).2 ≠ 0 then s else if ¬ inP pos then s else if 0 < (getP s id).last.length ∧ pos ≤ (getP s id).last.getD ((getP s id).last.length - 1) 0 then s else withS s (putP (getP s id) pos)
theorem getP_id (s : List Pr) (id : Int) : (getP s id).id = id := by
  cases e : hasP s id
  · rw [(getP_none e).1]
  · exact (getP_mem e).2
theorem look_ok {s : List Pr} {id e q : Int} (h : (lookS s id e q).2 = 0) : (okN id ∧ okN e ∧ okN q) ∧ e = (getP s id).epoch ∧ q = (getP s id).next ∧ ¬ (hasP s id = false ∧ 50 ≤ s.length) := by
  unfold lookS at h
  by_cases c0 : okN id ∧ okN e ∧ okN q
  · rw [if_neg (fun hh => hh c0)] at h
    by_cases c1 : e < (getP s id).epoch
    · rw [if_pos c1] at h; cases h
    rw [if_neg c1] at h
    by_cases c2 : (getP s id).epoch < e
    · rw [if_pos c2] at h; cases h
    rw [if_neg c2] at h
    by_cases c3 : (getP s id).next < q
    · rw [if_pos c3] at h; cases h
    rw [if_neg c3] at h
    by_cases c4 : hasP s id = false ∧ 50 ≤ s.length
    · rw [if_pos c4] at h; cases h
    rw [if_neg c4] at h
    by_cases c5 : q = (getP s id).next
    · exact ⟨c0, by omega, c5, c4⟩
    rw [if_neg c5] at h
    split at h <;> cases h
  · rw [if_pos c0] at h; cases h

section
variable {B : Base} {w : World}
theorem Put_o {v : Value} {L : PrL} (r : rowR v (praws L) B) (q : prows L B) (hR : RightT (prs L)) (en : D_api_Entry) (pos : Int) :
    Makes Tryd.prog B (sCall F_producer_Put #[v, en.v, .int .i64 pos]) fun u τ => OwnTab u (putS (prs L) en.producer en.epoch en.seq pos) τ := by
  refine Makes.intro fun B' w K base h k => ?_
  replace r := base r
  replace q := base q
  have hpl : ∀ L : PrL, (prs L).length = L.length := fun L => List.length_map ..
  have hal : ∀ L : PrL, (praws L).length = L.length := fun L => List.length_map ..
  have hlen := hR.len
  rw [hpl] at hlen
  refine producer_Put.up (producer_Put.call ?_)
  unfold producer_Put.pt
  have fin : ∀ s u τ w', putS (prs L) en.producer en.epoch en.seq pos = s → OwnTab u s τ → Rel B' w' τ → K u w' := fun s u τ w' e hn h => k _ τ w' (by rw [e]; exact hn) h
  clear k
  unfold putS at fin
  refine h.box fun b w1 h => ?_
  have h : Rel B' w1 [cellD b T_api_Entry en.cs.toArray] := h
  simp -zeta only [field_addr f_api_Entry_1, Nat.zero_add, h.ld 0 rfl sc_int (o := 1) rfl]
  obtain ⟨sv, hsv, hfind⟩ := find_g r q (by omega) en.producer
  refine hfind _ _ _ h fun w2 h => ?_
  simp -zeta only [ext_2_0, ext_2_1]
  have hsm := getP_small hR (id := en.producer)
  have hid := getP_id (prs L) en.producer
  have hlk : (lookS (prs L) en.producer en.epoch en.seq).2 = 0 → okN en.producer := fun hh => (look_ok hh).1.1
  generalize getP (prs L) en.producer = p at *
  refine h.allocAg (ds := (p.raw sv).cs.toArray) z_api_Producer rfl ag_api_Producer rfl (fun v hv => Enc.one (p.raw sv) v hv) fun o w3 h => ?_
  have h : Rel B' w3 [cellD b T_api_Entry en.cs.toArray, cellD o T_api_Producer (p.raw sv).cs.toArray] := h
  have cl : ∀ w', (if (lookS (prs L) en.producer en.epoch en.seq).2 ≠ 0 then prs L else if ¬ inP pos then prs L else if 0 < p.last.length ∧ pos ≤ p.last.getD (p.last.length - 1) 0 then prs L else withS (prs L) (putP p pos)) = prs L →
      Rel B' w' [cellD b T_api_Entry en.cs.toArray, cellD o T_api_Producer (p.raw sv).cs.toArray] → upK Tryd.prog (sCall F_producer_clone #[v]) w' fun t w => K t w := by
    intro w' e h
    refine h.make (fun B2 own base2 => clone_m (base2 r) (base2 q) (by omega) fun x hx => by have := (hR.fine x.1 (List.mem_map_of_mem hx)).len; omega) fun u τ w5 hp h => ?_
    obtain ⟨g, Lc, hpc, rfl, rfl⟩ := hp
    refine fin (prs L) _ [rowD T_api_Producer (.slice (some ⟨g, 0, none⟩) Lc.length Lc.length) (praws Lc), prows Lc] _ e ?_ (h.pick [2, 3] (by decide))
    exact own_stars fun B3 hB3 => ⟨Lc, hpc, rowD.read (Dat.star.left hB3), Dat.star.left (Dat.star.right hB3)⟩
  refine LETJ_intro fun J hJ => ?_
  replace hJ : (lookS (prs L) en.producer en.epoch en.seq).2 = 0 → inP pos → ¬ (0 < p.last.length ∧ pos ≤ p.last.getD (p.last.length - 1) 0) → ∀ w', Rel B' w' [cellD b T_api_Entry en.cs.toArray, cellD o T_api_Producer (p.raw sv).cs.toArray] → J () w' := by
    intro c1 c2 c3 w5 h
    refine hJ _ _ ?_
    clear hJ cl
    rw [if_neg (fun hh => hh c1), if_neg (fun hh => hh c2), if_neg c3] at fin
    have hin := hlk c1
    simp -zeta only [field_addr f_api_Producer_2, field_addr f_api_Producer_3, Nat.zero_add, h.ld 1 rfl sc_int (o := 2) rfl, bin_add]
    rw [wrap_id (by omega) (by omega)]
    refine h.st 1 rfl sc_int (show 2 < 4 by omega) rfl fun w6 h => ?_
    simp -zeta only [h.ld 1 rfl sc_s_int (o := 3) rfl]
    refine h.make (fun B2 own base2 => gslices_Clone_s_int_int (base2 hsv) (by omega) (by omega)) fun v' τ w7 hp h => ?_
    subst hp
    refine h.push1 (α := Int) 2 rfl pos sl_s_int (by decide) (by omega) (by omega) fun v2 w9 h => ?_
    have h1 : v2.oneCell' = true := h.oneCell (i := 2) rfl
    refine h.st 1 rfl sc_s_int (show 3 < 4 by omega) h1 fun w10 h => ?_
    have hr2 : rowR v2 (p.last ++ [pos]) ⟨w10, fun _ => True⟩ := rowD.read (h.here (i := 2) rfl)
    have hl2 : (p.last ++ [pos]).length = p.last.length + 1 := by simp
    have hw : IntKind.i64.wrap (((p.last ++ [pos]).length : Int) - 20) = ((p.last ++ [pos]).length : Int) - 20 := wrap_id (by omega) (by omega)
    have hmx : max (((p.last ++ [pos]).length : Int) - 20) 0 = (((p.last ++ [pos]).length - 20 : Nat) : Int) := by omega
    simp -zeta only [h.ld 1 rfl sc_s_int (o := 3) rfl, rowR.len hr2 sl_s_int, bin_sub, hw, blt_max, hmx]
    rw [rowR.cutE hr2 sl_s_int (lo := (p.last ++ [pos]).length - 20) (hi := (p.last ++ [pos]).length) Bnd.some Bnd.none (by omega) (Nat.le_refl _)]
    have hc1 : (cutV (Enc.sz Int) v2 ((p.last ++ [pos]).length - 20) (p.last ++ [pos]).length).oneCell' = true := rowR.oneCell (rowR.cutR hr2 (by omega) (Nat.le_refl _))
    refine h.st 1 rfl sc_s_int (show 3 < 4 by omega) hc1 fun w11 h => ?_
    have h : Rel B' w11 [cellD b T_api_Entry en.cs.toArray, cellD o T_api_Producer ((putP p pos).raw ⟨_, hc1⟩).cs.toArray, rowD T_int v2 (p.last ++ [pos])] := h
    rw [h.ldAg 1 rfl ag_api_Producer rfl]
    refine h.make (fun B2 own base2 => with_m (p := putP p pos) (sv := ⟨_, hc1⟩) (base2 r) (base2 q) hR (by show inP p.id; rw [hid]; exact ⟨hin.1, by have := hin.2; omega⟩)) fun u τ w12 hp h => ?_
    obtain ⟨Lc, L', hp, hm, rfl⟩ := hp
    refine fin (withS (prs L) (putP p pos)) u [rowD T_int v2 (p.last ++ [pos]), rowD T_api_Producer u (praws L'), prows Lc] _ rfl ?_ (h.pick [2, 3, 4] (by decide))
    refine own_stars fun B3 hB3 => ⟨L', hp, rowD.read (Dat.star.left (Dat.star.right hB3)), fun x hx => ?_⟩
    rcases hm x hx with hx | rfl
    · exact (Dat.star.left (Dat.star.right (Dat.star.right hB3)) : prows Lc B3) x hx
    · have := rowR.cutR (rowD.read (Dat.star.left hB3)) (lo := (p.last ++ [pos]).length - 20) (hi := (p.last ++ [pos]).length) (by omega) (Nat.le_refl _)
      rw [List.take_length] at this
      exact this
  rw [h.ldAg 0 rfl ag_api_Entry rfl]
  refine h.ask (fun B2 own base2 => Look_g (base2 r) (base2 q) hR en) fun w4 h => ?_
  simp -zeta only [ext_2_0, ext_2_1, bin_neq, ifB_not, ifB_dec]
  refine ⟨fun c1 => ?_, fun c1 => cl _ (by rw [if_pos c1]) h⟩
  have c1 : (lookS (prs L) en.producer en.epoch en.seq).2 = 0 := c1
  refine h.ask (fun B2 own base2 => in_g pos) fun w5 h => ?_
  rw [un_not, ifB_not, ifB_dec]
  refine ⟨fun c2 => ?_, fun c2 => cl _ (by rw [if_neg (fun hh => hh c1), if_pos c2]) h⟩
  simp -zeta only [field_addr f_api_Producer_3, Nat.zero_add, h.ld 1 rfl sc_s_int (o := 3) rfl, rowR.len hsv sl_s_int, bin_gtr, ifB_dec]
  refine ⟨fun c3 => ?_, fun c3 => hJ c1 c2 (fun hh => c3 (by omega)) _ h⟩
  have hw : IntKind.i64.wrap ((p.last.length : Int) - 1) = ((p.last.length - 1 : Nat) : Int) := by rw [wrap_id (by omega) (by omega)]; omega
  have hml : p.last.length - 1 < p.last.length := by omega
  obtain ⟨a, q1, q2⟩ := rowR.at_sc hsv h sl_s_int hml sc_int (x := .int .i64 p.last[p.last.length - 1]) rfl
  have hgd : p.last.getD (p.last.length - 1) 0 = p.last[p.last.length - 1] := by rw [List.getD_eq_getElem?_getD, List.getElem?_eq_getElem hml]; rfl
  simp -zeta only [bin_sub, hw, q1, q2, bin_leq, ifB_dec]
  exact ⟨fun c4 => cl _ (by rw [if_neg (fun hh => hh c1), if_neg (fun hh => hh c2), if_pos ⟨by omega, by rw [hgd]; exact c4⟩]) h, fun c4 => hJ c1 c2 (fun hh => c4 (by rw [← hgd]; exact hh.2)) _ h⟩
theorem Put_m {v : Value} {L : PrL} (r : rowR v (praws L) B) (q : prows L B) (hR : RightT (prs L)) (en : D_api_Entry) (pos : Int) :
    Makes Tryd.prog B (sCall F_producer_Put #[v, en.v, .int .i64 pos]) fun u τ => NewTab u (putS (prs L) en.producer en.epoch en.seq pos) τ :=
  (Put_o r q hR en pos).imp fun _ _ h => h.new
end
end Go.Proofs.YtppnebcpalialaaDoor
