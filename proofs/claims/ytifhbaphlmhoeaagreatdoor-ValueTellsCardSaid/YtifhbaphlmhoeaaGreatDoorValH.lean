/-
  The reference of layer 3: ParseRow, which tries the places at which a value may end. No condition.
-/
import Derived.Test.YtifhbaphlmhoeaaGreatDoorValG
--@auto
namespace Go.Proofs.YtifhbaphlmhoeaaGreatDoor
open Go.RowKit
set_option maxRecDepth 100000

abbrev GoodQ (s : Bs) : Prop := 2 ≤ s.length ∧ s[s.length - 1]? = some 41
theorem rest_sep {s : Bs} (hg : GoodQ s) {i : Nat} (h : SepQ s i) (hi : i + 1 ≤ s.length) : (i + 1 = s.length ∧ restQ s i = []) ∨ (i + 2 < s.length ∧ restQ s i = 44 :: 32 :: restQ s (i + 2)) := by
  rcases h with ⟨h1, h2⟩ | ⟨h1, h2⟩
  · exact .inl ⟨h1, restQ_nil (by omega)⟩
  · right
    have hl : i + 1 < s.length := (List.getElem?_eq_some_iff.1 h2).1
    have hne : i + 1 ≠ s.length - 1 := fun hh => by
      rw [hh, hg.2] at h2
      injection h2 with h2
      exact absurd h2 (by decide)
    have hl2 : i + 2 < s.length := by omega
    refine ⟨hl2, ?_⟩
    rw [restQ_cons (by omega), restQ_cons (by omega)]
    obtain ⟨_, e1⟩ := List.getElem?_eq_some_iff.1 h1
    obtain ⟨_, e2⟩ := List.getElem?_eq_some_iff.1 h2
    rw [e1, e2]
/-- A value that was found at a place. -/
theorem loop_found {s : Bs} (hg : GoodQ s) {at_ i k : Nat} {acc : List ValD} {v : ValD} (ha : at_ ≤ i) (hi : i + 1 ≤ s.length) (hs : SepQ s i) (hv : parseV ((s.take i).drop at_) = some v) (hk : (restQ s at_).length < k) :
    (i + 1 = s.length → parseLoop k (restQ s at_) acc = some (acc ++ [v])) ∧ (i + 1 ≠ s.length → ∃ k', (restQ s (i + 2)).length < k' ∧ parseLoop k (restQ s at_) acc = parseLoop k' (restQ s (i + 2)) (acc ++ [v])) := by
  obtain ⟨h1, h2, h3, _, _⟩ := parse_back hv
  obtain ⟨n, rfl⟩ : ∃ n, i = at_ + n := ⟨i - at_, by omega⟩
  have ht := restQ_take (s := s) (i := at_) (n := n) (by omega)
  have hd := restQ_drop (s := s) (i := at_) (j := n)
  have hsplit : restQ s at_ = showS v ++ restQ s (at_ + n) := by rw [← hd, h1, ← ht, List.take_append_drop]
  have hstop : Stop (restQ s (at_ + n)) := by
    rcases rest_sep hg hs hi with ⟨_, h⟩ | ⟨_, h⟩ <;> rw [h]
    · exact .inl rfl
    · exact .inr rfl
  have hend : endS (restQ s at_) = (showS v).length := by rw [hsplit]; exact end_show h2 hstop
  obtain ⟨k, rfl⟩ : ∃ m, k = m + 1 := ⟨k - 1, by omega⟩
  have e : parseLoop (k + 1) (restQ s at_) acc = if restQ s (at_ + n) = [] then some (acc ++ [v]) else if Go.Lib.hasPrefix (restQ s (at_ + n)) sepL = true then parseLoop k ((restQ s (at_ + n)).drop 2) (acc ++ [v]) else none := by
    rw [parseLoop, hend, Int.toNat_natCast]
    have e1 : (restQ s at_).take (showS v).length = showS v := by rw [hsplit, List.take_left]
    have e2 : (restQ s at_).drop (showS v).length = restQ s (at_ + n) := by
      conv => lhs; rw [hsplit]
      rw [List.drop_left]
    rw [e1, e2, parse_show h2 h3]
  rw [e]
  have hlen : (restQ s (at_ + n)).length ≤ (restQ s at_).length := by rw [hsplit, List.length_append]; omega
  refine ⟨fun hl => ?_, fun hl => ?_⟩
  · rcases rest_sep hg hs hi with ⟨_, h⟩ | ⟨h0, h⟩
    · rw [if_pos h]
    · omega
  · rcases rest_sep hg hs hi with ⟨h0, h⟩ | ⟨h0, h⟩
    · exact absurd h0 hl
    · refine ⟨k, ?_, ?_⟩
      · rw [h] at hlen
        simp only [List.length_cons] at hlen
        omega
      · have h : restQ s (at_ + n) = sepL ++ restQ s (at_ + n + 2) := h
        rw [h, if_neg (by simp [sepL]), if_pos ((prefix_sep _).2 ⟨_, rfl⟩)]
        rfl
/-- No value ends at any place: there is no row. -/
theorem loop_none {s : Bs} (hg : GoodQ s) {at_ k : Nat} {acc : List ValD} (ha : at_ + 1 ≤ s.length) (hno : ∀ j, at_ ≤ j → j + 1 ≤ s.length → SepQ s j → parseV ((s.take j).drop at_) = none) : parseLoop k (restQ s at_) acc = none := by
  cases k with
  | zero => rfl
  | succ k =>
    rw [parseLoop]
    obtain ⟨n, hn, he⟩ := endS_nat (restQ s at_)
    rw [he, Int.toNat_natCast]
    have hrl : (restQ s at_).length = s.length - 1 - at_ := by
      unfold restQ
      rw [List.length_take, List.length_drop]; omega
    have ht := restQ_take (s := s) (i := at_) (n := n) (by omega)
    have hd := restQ_drop (s := s) (i := at_) (j := n)
    rw [ht, hd]
    cases hv : parseV ((s.take (at_ + n)).drop at_) with
    | none => rfl
    | some v =>
      simp only
      have hlen2 : (restQ s (at_ + n)).length = s.length - 1 - (at_ + n) := by
        unfold restQ
        rw [List.length_take, List.length_drop]; omega
      by_cases c : restQ s (at_ + n) = []
      · exfalso
        rw [c, List.length_nil] at hlen2
        have e1 : at_ + n = s.length - 1 := by omega
        have := hno (at_ + n) (by omega) (by omega) (.inl ⟨by omega, by rw [e1]; exact hg.2⟩)
        rw [this] at hv; cases hv
      · rw [if_neg c]
        by_cases c2 : Go.Lib.hasPrefix (restQ s (at_ + n)) sepL = true
        · exfalso
          obtain ⟨r', hr⟩ := (prefix_sep _).1 c2
          have h0 : (restQ s (at_ + n))[0]? = some 44 := by rw [hr]; rfl
          have h1 : (restQ s (at_ + n))[1]? = some 32 := by rw [hr]; rfl
          have l1 := (List.getElem?_eq_some_iff.1 h1).1
          unfold restQ at h0 h1
          rw [List.getElem?_take, if_pos (by omega), List.getElem?_drop] at h0 h1
          have := hno (at_ + n) (by omega) (by omega) (.inr ⟨h0, h1⟩)
          rw [this] at hv; cases hv
        · rw [if_neg c2]
section
variable {B : Base} {w : World} {σ : List Dat}
theorem fParseRow_m {s : Bs} (hs : s.length ≤ 1099511627776) : Makes Tryz.prog B (sCall F_errataref03_ParseRow #[.string (ofL s)]) fun u τ => (∃ l v, parseRowS s = some l ∧ u = .tuple #[v, .bool true] ∧ τ = [rowD T_api_Value v l]) ∨ (parseRowS s = none ∧ u = .tuple #[.slice none 0 0, .bool false] ∧ τ = []) := by
  refine Makes.intro fun B' w K base h k => ?_
  refine errataref03_ParseRow.up (errataref03_ParseRow.call ?_)
  unfold errataref03_ParseRow.pt
  have no : parseRowS s = none → ∀ w' τ, Rel B' w' τ → K (.tuple #[.slice none 0 0, .bool false]) w' := fun hn w' τ h => k _ _ _ (.inr ⟨hn, rfl, rfl⟩) h.nil
  have yes : ∀ l v, parseRowS s = some l → ∀ w', Rel B' w' [rowD T_api_Value v l] → K (.tuple #[v, .bool true]) w' := fun l v h1 w' h => k _ _ _ (.inl ⟨l, v, h1, rfl, rfl⟩) h
  clear k
  have eq8 : ∀ (c : UInt8) (n : UInt8), ((c.toNat : Int) = (n.toNat : Int)) ↔ c = n := fun c n => ⟨fun h => UInt8.toNat_inj.1 (by omega), fun h => by rw [h]⟩
  have hidx : ∀ {n : Nat} (hn : n < s.length) {Kp : Value → Prop}, pureK Tryz.prog (sIdx T_string (.string (ofL s)) (.int .i64 n)) Kp = Kp (.int .u8 s[n].toNat) := fun {n} hn {Kp} => str_idx (P := Tryz.prog) (Kp := Kp) U_string (show n < (ofL s).size by rw [ofL_size]; exact hn)
  have hlen : ∀ {K : Value → Prop} {w : World}, readK Tryz.prog (sBlt .len #[T_string] T_int #[false] #[.string (ofL s)]) w K = K (.int .i64 s.length) := fun {K w} => by rw [str_len U_string, bl_ofL]
  rw [eql_str, ifB_dec]
  refine ⟨fun c0 => ?_, fun c0 => ?_⟩
  · have c0 : s = [40, 41] := by have := congrArg bl c0; exact this
    have e0 : parseRowS s = some [] := by
      rw [c0]
      have := parseRow_show (l := []) fun v hv => by cases hv
      exact this
    exact yes [] _ e0 _ ((h.addNil ValD T_api_Value).pick [0] (by decide))
  have hne2 : s ≠ [40, 41] := fun hh => c0 (by rw [hh])
  refine LETJ_intro fun J1 hJ1 => ?_
  have bad : parseRowS s = none → J1 (.bool true, ()) w := fun hn => hJ1 _ _ (by rw [ifB_true]; exact no hn _ _ h)
  rw [eql_str, ifB_dec]
  refine ⟨fun c1 => ?_, fun c1 => ?_⟩
  · have c1 : s = [] := by have := congrArg bl c1; exact this
    exact bad (by rw [c1]; exact parseRow_nil)
  have hne : s ≠ [] := fun hh => c1 (by rw [hh])
  have hpos : 0 < s.length := List.length_pos_iff.2 hne
  have h0 : ∀ {Kp : Value → Prop}, pureK Tryz.prog (sIdx T_string (.string (ofL s)) (.int .i64 0)) Kp = Kp (.int .u8 s[0].toNat) := fun {Kp} => hidx (n := 0) hpos
  have hhead : s.head? = some s[0] := by rw [List.head?_eq_getElem?, List.getElem?_eq_getElem hpos]
  rw [h0, bin_neq]
  by_cases c2 : (s[0].toNat : Int) = 40
  case neg =>
    rw [decide_eq_false c2]
    refine bad ?_
    unfold parseRowS
    rw [if_pos (.inr (.inl fun hh => c2 (by rw [hhead] at hh; injection hh with hh; rw [hh]; rfl)))]
  rw [decide_eq_true c2]
  have h40 : s[0] = 40 := (eq8 _ 40).1 c2
  have hlast : s.getLast? = s[s.length - 1]? := List.getLast?_eq_getElem?
  have hbad : ¬ GoodQ s → parseRowS s = none := fun hg => by
    unfold parseRowS
    rw [if_pos]
    by_cases c : s.length < 2
    · exact .inl c
    · exact .inr (.inr fun hh => hg ⟨by omega, by rw [← hlast]; exact hh⟩)
  have hgood : GoodQ s → parseRowS s = parseLoop ((restQ s 1).length + 1) (restQ s 1) [] := fun hg => by
    have er : (s.drop 1).take (s.length - 2) = restQ s 1 := by unfold restQ; rw [Nat.sub_sub]
    have hc : ¬ (s.length < 2 ∨ s.head? ≠ some 40 ∨ s.getLast? ≠ some 41) := by
      rw [hhead, hlast, hg.2, h40]
      rintro (hh | hh | hh)
      · have := hg.1; omega
      · exact hh rfl
      · exact hh rfl
    unfold parseRowS
    rw [if_neg hc, er, if_neg]
    intro hh
    have := outer_row hc
    rw [er, hh] at this
    exact hne2 this
  refine hJ1 _ _ ?_
  clear hJ1 bad
  rw [Bool.not_true, ifB_false]
  have h := h.addNil ValD T_api_Value
  refine LOOP_intro (fun x w' => ∃ (i at_ : Nat) (acc : List ValD) (v : Value), 1 ≤ i ∧ i ≤ s.length ∧ 1 ≤ at_ ∧ at_ ≤ i + 1 ∧ acc.length ≤ i ∧ x = (v, .int .i64 at_, .int .i64 i, ()) ∧ (GoodQ s → at_ + 1 ≤ s.length) ∧
      (GoodQ s → ∃ k, (restQ s at_).length < k ∧ parseRowS s = parseLoop k (restQ s at_) acc) ∧ (∀ j, at_ ≤ j → j < i → SepQ s j → parseV ((s.take j).drop at_) = none) ∧
      Rel B' w' [rowD T_api_Value v acc]) (fun x _ => s.length - (match x.2.2.1 with | .int _ n => n.toNat | _ => 0))
    ⟨1, 1, [], .slice none 0 0, Nat.le_refl _, hpos, Nat.le_refl _, by omega, Nat.zero_le _, rfl, fun hg => hg.1, fun hg => ⟨_, Nat.lt_succ_self _, hgood hg⟩, fun j h1 h2 => by omega, h⟩ ?_
  clear h hgood
  rintro x w2 ⟨i, at_, acc, v, hi1, hi, hat1, hati, hacl, rfl, hatl, hloop, hno, h⟩ next hnext
  simp -zeta only [hlen]
  rw [bin_lss, ifB_dec]
  refine ⟨fun hlt => ?_, fun hge => ?_⟩
  case refine_2 =>
    refine no ?_ _ _ h
    by_cases hg : GoodQ s
    · obtain ⟨k, _, e⟩ := hloop hg
      rw [e]
      exact loop_none hg (hatl hg) fun j h1 h2 hs => hno j h1 (by omega) hs
    · exact hbad hg
  have hil : i < s.length := by omega
  refine LETJ_intro fun J2 hJ2 => ?_
  have stay : ∀ w', Rel B' w' [rowD T_api_Value v acc] → (at_ ≤ i → SepQ s i → parseV ((s.take i).drop at_) = none) → J2 (v, .int .i64 at_, ()) w' := fun w' h hi2 => by
    refine hJ2 _ _ ?_
    rw [bin_add, wrap_id (by omega) (by omega)]
    refine hnext _ _ ⟨i + 1, at_, acc, v, by omega, hil, hat1, by omega, by omega, rfl, hatl, hloop, fun j h1 h2 hs => ?_, h⟩ (by simp only; omega)
    by_cases e : j = i
    · subst e; exact hi2 h1 hs
    · exact hno j h1 (by omega) hs
  have move : ∀ v' x w', Rel B' w' [rowD T_api_Value v' (acc ++ [x])] → at_ ≤ i → i + 1 ≠ s.length → SepQ s i → parseV ((s.take i).drop at_) = some x → J2 (v', .int .i64 ((i + 2 : Nat) : Int), ()) w' := fun v' x w' h h1 hne hs hv => by
    refine hJ2 _ _ ?_
    rw [bin_add, wrap_id (by omega) (by omega)]
    refine hnext _ _ ⟨i + 1, i + 2, acc ++ [x], v', by omega, hil, by omega, by omega, by rw [List.length_append, List.length_singleton]; omega, rfl, fun hg => ?_, fun hg => ?_, fun j h1 h2 hs => by omega, h⟩ (by simp only; omega)
    · rcases rest_sep hg hs (by omega) with ⟨h2, _⟩ | ⟨h2, _⟩
      · exact absurd h2 hne
      · omega
    · obtain ⟨k, hk, e⟩ := hloop hg
      obtain ⟨k', hk', e'⟩ := (loop_found hg h1 (by omega) hs hv hk).2 hne
      exact ⟨k', hk', e.trans e'⟩
  clear hJ2 hnext
  refine LETJ_intro fun J3 hJ3 => ?_
  replace hJ3 : ∀ last : Bool, (last = true ↔ (i + 1 = s.length ∧ s[i]? = some 41)) → J3 (.bool last, ()) w2 := fun last hlast => by
    refine hJ3 _ _ ?_
    refine LETJ_intro fun J4 hJ4 => ?_
    replace hJ4 : ∀ more : Bool, (more = true ↔ (s[i]? = some 44 ∧ s[i + 1]? = some 32)) → J4 (.bool more, ()) w2 := fun more hmore => by
      refine hJ4 _ _ ?_
      have hsep : SepQ s i ↔ (last = true ∨ more = true) := by unfold SepQ; rw [hlast, hmore]
      refine LETJ_intro fun J5 hJ5 => ?_
      have skip : (¬ SepQ s i ∨ i < at_) → J5 (.bool true, ()) w2 := fun hh => by
        refine hJ5 _ _ ?_
        rw [ifB_true]
        refine stay _ h fun h1 h2 => ?_
        rcases hh with hh | hh
        · exact absurd h2 hh
        · omega
      have try_ : SepQ s i → at_ ≤ i → J5 (.bool false, ()) w2 := fun hs2 h1 => by
        refine hJ5 _ _ ?_
        rw [ifB_false, str_cut U_string (lo := at_) (hi := i) Bnd.some Bnd.some h1 (by rw [ofL_size]; omega), bl_ofL]
        refine h.ask (fun B2 own base2 => fParse_g (by rw [List.length_drop, List.length_take]; omega)) fun w7 h => ?_
        simp -zeta only [ext_2_0, ext_2_1]
        cases hv : parseV ((s.take i).drop at_) with
        | none =>
          refine h.allocAg (ds := vZero.cs.toArray) z_api_Value rfl ag_api_Value rfl (fun v hv => Enc.one vZero v hv) fun a w9 h => ?_
          rw [un_not, show (none : Option ValD).isSome = false from rfl, Bool.not_false, ifB_true]
          exact stay _ (h.take 1) fun _ _ => hv
        | some x =>
          refine h.allocAg (ds := x.cs.toArray) z_api_Value rfl ag_api_Value rfl (fun v hv => Enc.one x v hv) fun a w9 h => ?_
          have h : Rel B' w9 [rowD T_api_Value v acc, cellD a T_api_Value x.cs.toArray] := h
          rw [un_not, show (some x : Option ValD).isSome = true from rfl, Bool.not_true, ifB_false, h.ldAg 1 rfl ag_api_Value rfl]
          refine h.push1 (α := ValD) 0 rfl x sl_s_api_Value (by decide) (by omega) (by omega) fun v2 w11 h => ?_
          have h : Rel B' w11 [rowD T_api_Value v2 (acc ++ [x])] := h.take 1
          rw [ifB_bool]
          refine ⟨fun hl => ?_, fun hl => ?_⟩
          · obtain ⟨l1, l2⟩ := hlast.1 hl
            have hg : GoodQ s := ⟨by omega, by rw [show s.length - 1 = i by omega]; exact l2⟩
            obtain ⟨k, hk, e⟩ := hloop hg
            exact yes _ _ (e.trans ((loop_found hg h1 (by omega) hs2 hv hk).1 l1)) _ h
          · have hm : more = true := by
              rcases hsep.1 hs2 with hh | hh
              · rw [hh] at hl; cases hl
              · exact hh
            obtain ⟨_, m2⟩ := hmore.1 hm
            have hl2 := (List.getElem?_eq_some_iff.1 m2).1
            have e2 : IntKind.i64.wrap ((i : Int) + 2) = ((i + 2 : Nat) : Int) := by rw [wrap_id (by omega) (by omega)]; omega
            rw [bin_add, e2]
            exact move _ x _ h h1 (by omega) hs2 hv
      clear hJ5
      have both : SepQ s i → J5 (.bool (decide ((i : Int) < at_)), ()) w2 := fun hs2 => by
        by_cases c : (i : Int) < at_
        · rw [decide_eq_true c]; exact skip (.inr (by omega))
        · rw [decide_eq_false c]; exact try_ hs2 (by omega)
      rw [un_not, ifB_not, ifB_bool]
      refine ⟨fun hl => ?_, fun hl => ?_⟩
      · rw [bin_lss]; exact both (hsep.2 (.inl hl))
      · rw [un_not, ifB_not, ifB_bool]
        refine ⟨fun hm => ?_, fun hm => skip (.inl fun hh => ?_)⟩
        · rw [bin_lss]; exact both (hsep.2 (.inr hm))
        · rcases hsep.1 hh with hh | hh
          · rw [hh] at hl; cases hl
          · rw [hh] at hm; cases hm
    have hsi : s[i]? = some s[i] := List.getElem?_eq_getElem hil
    rw [hidx hil, bin_eql, ifB_dec]
    refine ⟨fun c => ?_, fun c => hJ4 false ⟨fun hh => (by cases hh), fun hh => absurd (by rw [hsi] at hh; injection hh.1 with hh; rw [hh]; rfl) c⟩⟩
    have e44 : s[i] = 44 := (eq8 _ 44).1 c
    have e1 : IntKind.i64.wrap ((i : Int) + 1) = ((i + 1 : Nat) : Int) := by rw [wrap_id (by omega) (by omega)]; omega
    simp -zeta only [bin_add, e1, bin_lss]
    rw [ifB_dec]
    refine ⟨fun c3 => ?_, fun c3 => hJ4 false ⟨fun hh => (by cases hh), fun hh => absurd (List.getElem?_eq_some_iff.1 hh.2).1 (by omega)⟩⟩
    have hil2 : i + 1 < s.length := by omega
    rw [bin_sub, wrap_id (n := (s.length : Int) - 1) (by omega) (by omega), blt_min, show min ((i + 1 : Nat) : Int) ((s.length : Int) - 1) = ((i + 1 : Nat) : Int) by omega, hidx hil2, bin_eql]
    refine hJ4 _ ?_
    rw [hsi, e44, List.getElem?_eq_getElem hil2, decide_eq_true_iff]
    constructor
    · intro hh; exact ⟨rfl, by rw [(eq8 _ 32).1 hh]⟩
    · intro hh; injection hh.2 with hh; rw [hh]; rfl
  have hsi : s[i]? = some s[i] := List.getElem?_eq_getElem hil
  rw [bin_sub, wrap_id (n := (s.length : Int) - 1) (by omega) (by omega), bin_eql, ifB_dec]
  refine ⟨fun c => ?_, fun c => hJ3 false ⟨fun hh => (by cases hh), fun hh => absurd hh.1 (by omega)⟩⟩
  rw [hidx hil, bin_eql]
  refine hJ3 _ ?_
  rw [hsi, decide_eq_true_iff]
  constructor
  · intro hh; exact ⟨by omega, by rw [(eq8 _ 41).1 hh]⟩
  · intro hh; injection hh.2 with hh; rw [hh]; rfl
end
end Go.Proofs.YtifhbaphlmhoeaaGreatDoor
