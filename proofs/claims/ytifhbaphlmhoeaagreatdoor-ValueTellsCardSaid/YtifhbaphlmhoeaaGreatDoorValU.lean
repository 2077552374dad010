/-
  The text of a row: strings.Join, ShowRow. No condition.
-/
import Derived.Test.YtifhbaphlmhoeaaGreatDoorValT
import Derived.Test.YtifhbaphlmhoeaaGreatDoorTxt1
--@auto
namespace Go.Proofs.YtifhbaphlmhoeaaGreatDoor
open Go.RowKit
set_option maxRecDepth 100000

theorem exJ : Builder.Extra Tryz.prog Tryz.laysJoin_ren where
  sizeBuilder := by kernel_rfl
  liesBuilder := by kernel_rfl
  t5 := (by kernel_rfl : Tryz.prog.underlying T_uint8 = some (.int .u8))
  a5 := fun w => isAgg_sc (by kernel_rfl : scB Tryz.prog T_uint8 = true)
  z5 := fun w => size_sc (by kernel_rfl : scB Tryz.prog T_uint8 = true)
  v5 := fun w => zero_run (by kernel_rfl : (Tryz.prog.info? T_uint8).bind (·.zero) = some (.int .u8 0)) w
  infoByte := by kernel_rfl
  cellsByte := by kernel_rfl
  sizeByte := by kernel_rfl
  neB5 := by decide
theorem joinL_eq : ∀ l : List Bs, Go.Lib.join l sepL = joinL l
  | [] => rfl
  | [a] => Go.Lib.join_one a sepL
  | a :: b :: r => by
    have h := joinL_eq (b :: r)
    rw [Go.Lib.join_cons] at h ⊢
    show a ++ Go.Lib.joinTail sepL (b :: r) = a ++ sepL ++ joinL (b :: r)
    rw [← h]
    unfold Go.Lib.joinTail
    simp
theorem joinL_len : ∀ (l : List Bs) (k : Nat), (∀ x ∈ l, x.length ≤ k) → (joinL l).length ≤ (k + 2) * l.length
  | [], k, _ => Nat.zero_le _
  | [a], k, h => by
    have := h a List.mem_cons_self
    show a.length ≤ (k + 2) * 1
    omega
  | a :: b :: r, k, h => by
    have h1 := h a List.mem_cons_self
    have h2 := joinL_len (b :: r) k fun x hx => h x (List.mem_cons_of_mem _ hx)
    show (a ++ sepL ++ joinL (b :: r)).length ≤ (k + 2) * ((b :: r).length + 1)
    rw [Nat.mul_add, List.length_append, List.length_append]
    have : sepL.length = 2 := rfl
    omega
theorem joinL_max : ∀ (l : List Bs), l.length ≤ (joinL l).length + 1 ∧ ∀ x ∈ l, x.length ≤ (joinL l).length
  | [] => ⟨Nat.zero_le _, fun x hx => by cases hx⟩
  | [a] => ⟨by simp, fun x hx => by rw [List.mem_singleton.1 hx]; exact Nat.le_refl _⟩
  | a :: b :: r => by
    obtain ⟨h1, h2⟩ := joinL_max (b :: r)
    show (a :: b :: r).length ≤ (a ++ sepL ++ joinL (b :: r)).length + 1 ∧ ∀ x ∈ a :: b :: r, x.length ≤ (a ++ sepL ++ joinL (b :: r)).length
    have e : (a ++ sepL ++ joinL (b :: r)).length = a.length + 2 + (joinL (b :: r)).length := by
      rw [List.length_append, List.length_append]; rfl
    rw [e]
    refine ⟨by simp only [List.length_cons] at h1 ⊢; omega, fun x hx => ?_⟩
    rcases List.mem_cons.1 hx with rfl | hx
    · omega
    · have := h2 x hx; omega
theorem show_len {v : ValD} (hn : inI v.n) : (showS v).length ≤ 1000 := by
  by_cases h : vRight v = true
  · rcases right_kind h with ⟨_, e⟩ | ⟨_, e, hl⟩ | e | e <;> rw [e]
    · rw [show_int]; have := itoa_len hn; omega
    · rw [show_text hl]
      unfold quoteS
      have := flat_len escB (bl v.s) 4 fun c _ => escB_len c
      simp only [List.length_cons, List.length_append, List.length_nil]
      omega
    · show falseL.length ≤ 1000; decide
    · show trueL.length ≤ 1000; decide
  · rw [show_wrong (by simpa using h)]; exact Nat.zero_le _
section
variable {B : Base} {w : World} {σ : List Dat}
set_option maxRecDepth 100000 in
theorem sJoin (bk o c : Nat) (xs : List ByteArray) (sep : ByteArray) (w : World)
    (hcells : ∀ (j : Nat) x, xs[j]? = some x → w.cell? ⟨bk, o + j, none⟩ = some (.string x))
    (hbk : bk < w.heap.size) (hN : xs.length ≤ 140737488355328) (hcap : xs.length ≤ c)
    (hlen : (Go.Lib.join (xs.map (·.data.toList)) sep.data.toList).length ≤ 140737488355328) :
    Calls Tryz.prog F_strings_Join #[.slice (some ⟨bk, o, none⟩) xs.length c, .string sep] w fun e w' => e = .returned (.string ⟨(Go.Lib.join (xs.map (·.data.toList)) sep.data.toList).toArray⟩) ∧ Below w.heap.size w w' := Any.strings_Join Tryz.laysJoin exJ bk o c xs sep w hcells hbk hN hcap hlen
set_option maxRecDepth 100000 in
theorem sJoin0 (a : Option Addr) (c : Nat) (sep : ByteArray) (w : World) :
    Calls Tryz.prog F_strings_Join #[.slice a 0 c, .string sep] w fun e w' => e = .returned (.string ⟨#[]⟩) ∧ w' = w := Any.strings_Join_none Tryz.laysJoin exJ a c sep w
theorem join_g {u : Value} {l : List Bs} (r : rowR u (l.map ofL) B) (hN : l.length ≤ 1099511627776) (hl : (joinL l).length ≤ 140737488355328) : Gives Tryz.prog B (sCall F_strings_Join #[u, .string ⟨#[44, 32]⟩]) (.string (ofL (joinL l))) := by
  intro w σ K h k
  obtain ⟨a, cap, rfl, hc, hr⟩ := r
  have emap : (l.map ofL).map (·.data.toList) = l := by rw [List.map_map]; exact List.map_id _
  rcases hr with hr | ⟨g, o, rfl, hcl⟩
  · have : l = [] := by simpa using hr
    subst this
    refine strings_Join.up (Calls.mono (sJoin0 a cap ⟨#[44, 32]⟩ w) ?_)
    rintro e w' ⟨rfl, rfl⟩
    exact k _ h
  · have hcl := h.hereB hcl
    refine strings_Join.up (Calls.mono (sJoin g o cap (l.map ofL) ⟨#[44, 32]⟩ w (fun j x hx => ?_) hcl.2.1 (by rw [List.length_map]; omega) hc ?_) ?_)
    · refine hcl.2.2 j _ ?_
      obtain ⟨hj, rfl⟩ := List.getElem?_eq_some_iff.1 hx
      have := flat_get (l := l.map ofL) (i := j) hj (f := 0) (v := .string (l.map ofL)[j]) rfl
      have e : j * Enc.sz ByteArray + 0 = j := Nat.mul_one j
      rw [e] at this
      exact this
    · rw [emap]
      show (Go.Lib.join l sepL).length ≤ _
      rw [joinL_eq]; exact hl
    · rintro e w' ⟨rfl, hb⟩
      rw [emap]
      show K (.string ⟨(Go.Lib.join l sepL).toArray⟩) w'
      rw [joinL_eq]
      exact k _ (h.below hb)
theorem rowAll_g {u : Value} {l : List ValD} (r : rowR u l B) (hl : l.length ≤ 4611686018427387904) : Gives Tryz.prog B (sCall F_value_all #[u]) (.bool (l.all vRight)) := by
  refine Gives.intro fun B3 w K base3 h k => ?_
  refine value_all.up (value_all.call ?_)
  unfold value_all.pt
  refine h.ask (fun B4 own base4 => gslices_ContainsFunc_s_api_Value_api_Value (base4 (base3 r)) hl (fun v => !vRight v) fun B5 base5 x _ => all1_g x) fun w1 h => ?_
  rw [un_not]
  have e : (!l.any fun v => !vRight v) = l.all vRight := by
    rw [List.not_any_eq_all_not]
    simp
  rw [e]
  exact k _ _ h
theorem showRow_g (hB : wireD B) {u : Value} {l : List ValD} (r : rowR u l B) (hl : l.length ≤ 1000000) (hg : ∀ v ∈ l, inI v.n ∧ (bl v.s).length ≤ 1099511627776) : Gives Tryz.prog B (sCall F_value_ShowRow #[u]) (.string (ofL (showRowS l))) := by
  refine Gives.intro fun B' w K base h k => ?_
  replace hB := base hB
  replace r := base r
  refine value_ShowRow.up (value_ShowRow.call ?_)
  unfold value_ShowRow.pt
  unfold showRowS at k
  refine h.ask (fun B2 own base2 => rowAll_g (base2 r) (by omega)) fun w1 h => ?_
  rw [un_not, ifB_not, ifB_bool]
  refine ⟨fun c0 => ?_, fun c0 => by rw [if_neg (by rw [c0]; decide)] at k; exact k _ _ h⟩
  rw [if_pos c0] at k
  simp -zeta only [rowR.len r sl_s_api_Value]
  refine h.mkSlice (α := ByteArray) (n := l.length) ⟨#[]⟩ sl_s_string rfl (by omega) (by omega) fun t11 w2 h hnn => ?_
  obtain ⟨g, cap, rfl⟩ := h.open_nn (i := 0) rfl hnn
  simp only [List.length_replicate] at h ⊢
  have h : Rel B' w2 [rowD T_string (.slice (some ⟨g, 0, none⟩) l.length cap) (List.replicate l.length (⟨#[]⟩ : ByteArray))] := h
  refine LOOP_intro (fun x w' => ∃ (i : Nat) (L : List ByteArray), i ≤ l.length ∧ x = (.int .i64 i, ()) ∧ L.length = l.length ∧ (∀ j (h1 : j < l.length) (h2 : j < L.length), j < i → L[j] = ofL (showS l[j])) ∧
      Rel B' w' [rowD T_string (.slice (some ⟨g, 0, none⟩) l.length cap) L]) (fun x _ => l.length - (match x.1 with | .int _ n => n.toNat | _ => 0))
    ⟨0, _, Nat.zero_le _, rfl, List.length_replicate, fun j _ _ hj => absurd hj (Nat.not_lt_zero j), h⟩ ?_
  clear h
  rintro x w3 ⟨i, L, hi, rfl, hL, hin, h⟩ next hnext
  simp -zeta only [bin_lss, ifB_dec]
  refine ⟨fun hlt => ?_, fun hge => ?_⟩
  · have hil : i < l.length := by omega
    obtain ⟨g2, o, hx, hcl⟩ := rowR.idx r sl_s_api_Value (P := Tryz.prog) hil
    have hcl : cellsR g2 o l[i].cs B' := hcl
    obtain ⟨hgi, hsi⟩ := hg l[i] (List.getElem_mem hil)
    rw [hx, cellsR.ldAg (h.hereB hcl) ag_api_Value rfl]
    refine h.allocAg (ds := l[i].cs.toArray) z_api_Value rfl ag_api_Value rfl (fun v hv => Enc.one l[i] v hv) fun a w5 h => ?_
    have h : Rel B' w5 [rowD T_string (.slice (some ⟨g, 0, none⟩) l.length cap) L, cellD a T_api_Value l[i].cs.toArray] := h
    rw [h.ldAg 1 rfl ag_api_Value rfl]
    refine h.ask (fun B2 own base2 => show_g (base2 hB) hgi hsi) fun w6 h => ?_
    rw [idx_own (α := ByteArray) sl_s_string hil]
    refine (h.take 1).set_sc (α := ByteArray) 0 (j := i) (f := 0) rfl (ofL (showS l[i])) (by omega) rfl (by decide) rfl sc_string rfl fun w7 h => ?_
    have h : Rel B' w7 [rowD T_string (.slice (some ⟨g, 0, none⟩) l.length cap) (L.set i (ofL (showS l[i])))] := h
    rw [bin_add, wrap_id (by omega) (by omega)]
    refine hnext _ _ ⟨i + 1, _, hil, rfl, by rw [List.length_set]; exact hL, fun j h1 h2 hj => ?_, h⟩ (by simp only; omega)
    rw [List.getElem_set]
    split
    · rename_i e; subst e; rfl
    · exact hin j h1 (by omega) (by omega)
  · have hie : i = l.length := by omega
    have eL : L = (l.map showS).map ofL := List.ext_getElem (by simp [hL]) fun j h1 h2 => by
      rw [hin j (by omega) h1 (by omega), List.getElem_map, List.getElem_map]
    subst eL
    have hj := joinL_len (l.map showS) 1000 fun x hx => by
      obtain ⟨v, hv, rfl⟩ := List.mem_map.1 hx
      exact show_len (hg v hv).1
    rw [List.length_map] at hj
    refine h.ask (fun B2 own base2 => join_g (l := l.map showS) (rowD.read (own (i := 0) rfl)) (by rw [List.length_map]; omega) (by omega)) fun w8 h => ?_
    rw [show (⟨#[40]⟩ : ByteArray) = ofL [40] from rfl, show (⟨#[41]⟩ : ByteArray) = ofL [41] from rfl, strL_add (by simp only [List.length_cons, List.length_nil]; omega), strL_add (by simp only [List.length_append, List.length_cons, List.length_nil]; omega)]
    exact k _ _ h
end
end Go.Proofs.YtifhbaphlmhoeaaGreatDoor
