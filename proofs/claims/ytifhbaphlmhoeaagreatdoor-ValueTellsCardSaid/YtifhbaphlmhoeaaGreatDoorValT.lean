/-
  The text of a row, and the row of a text. No condition.
-/
import Derived.Test.YtifhbaphlmhoeaaGreatDoorValQ
import Derived.Test.YtifhbaphlmhoeaaGreatDoorTxt0
--@auto
namespace Go.Proofs.YtifhbaphlmhoeaaGreatDoor
open Go.RowKit
set_option maxRecDepth 100000
section
variable {B : Base} {w : World} {σ : List Dat}
set_option maxRecDepth 100000 in
theorem sHas (s p : ByteArray) (w : World) :
    Calls Tryz.prog F_strings_HasPrefix #[.string s, .string p] w fun e w' => e = .returned (.bool (Go.Lib.hasPrefix s.data.toList p.data.toList)) ∧ w' = w := Any.strings_HasPrefix Tryz.laysHasPrefix s p w
theorem has_g (s p : ByteArray) : Gives Tryz.prog B (sCall F_strings_HasPrefix #[.string s, .string p]) (.bool (Go.Lib.hasPrefix (bl s) (bl p))) := by
  intro w σ K h k
  refine strings_HasPrefix.up (Calls.mono (sHas s p w) ?_)
  rintro e w' ⟨rfl, rfl⟩
  exact k _ h
/-- The closure of ParseRow. -/
theorem rowNext {K : Value → World → Prop} {b o : Nat} {s : Bs} {v : Value} {acc : List ValD} (hB : wireD B) (hs : s.length ≤ 1099511627776) (hacc : acc.length ≤ 1099511627776)
    (h : Rel B w [cellD b T_string #[.string (ofL s)], cellD o T_s_api_Value #[v], rowD T_api_Value v acc])
    (k : ∀ v' w', Rel B w' [cellD b T_string #[.string (ofL (s.drop (endS s).toNat))], cellD o T_s_api_Value #[v'], rowD T_api_Value v' (acc ++ [(parseV (s.take (endS s).toNat)).getD vZero])] → K (.bool (parseV (s.take (endS s).toNat)).isSome) w') :
    upK Tryz.prog (sCallV (.func (.func F_value_ParseRow_1) #[] #[.pointer (some ⟨b, 0, none⟩), .pointer (some ⟨o, 0, none⟩)]) #[]) w K := by
  refine call_v ?_
  refine value_ParseRow_1.up (t0 := .pointer (some ⟨b, 0, none⟩)) (t1 := .pointer (some ⟨o, 0, none⟩)) (value_ParseRow_1.call ?_)
  unfold value_ParseRow_1.pt
  obtain ⟨n, hn, hend⟩ := endS_nat s
  have key := fun {B2 : Base} => end_g (B := B2) hs
  rw [hend] at key
  rw [hend, Int.toNat_natCast] at k
  rw [h.ld 0 rfl sc_string (o := 0) rfl]
  refine h.ask (fun B2 own base2 => key) fun w1 h => ?_
  rw [h.ld 0 rfl sc_string (o := 0) rfl, str_cut U_string (lo := 0) (hi := n) Bnd.none Bnd.some (Nat.zero_le _) (by rw [ofL_size]; exact hn)]
  rw [bl_ofL, List.drop_zero]
  refine h.ask (fun B2 own base2 => parse_g (base2 hB) (by rw [List.length_take]; omega)) fun w2 h => ?_
  simp -zeta only [ext_2_0, ext_2_1]
  generalize hx : (parseV (s.take n)).getD vZero = x at *
  generalize (parseV (s.take n)).isSome = ok at *
  refine h.allocAg (ds := x.cs.toArray) z_api_Value rfl ag_api_Value rfl (fun v hv => Enc.one x v hv) fun a w4 h => ?_
  have h : Rel B w4 [cellD b T_string #[.string (ofL s)], cellD o T_s_api_Value #[v], rowD T_api_Value v acc, cellD a T_api_Value x.cs.toArray] := h
  have h := h.tick
  rw [h.ld 1 rfl sc_s_api_Value (o := 0) rfl, h.ldAg 3 rfl ag_api_Value rfl, h.ld 0 rfl sc_string (o := 0) rfl]
  rw [str_cut U_string (lo := n) (hi := s.length) Bnd.some Bnd.none hn (by rw [ofL_size]; exact Nat.le_refl _), bl_ofL, List.take_length]
  refine h.build1 (α := ValD) x sl_s_api_Value (by decide) (fun t17 w5 h => ?_) rfl
  refine ⟨h.is 0 rfl sc_string (o := 0) rfl, h.is 1 rfl sc_s_api_Value (o := 0) rfl, ?_⟩
  refine h.append (α := ValD) 2 rfl sl_s_api_Value (l2 := [x]) (Rd.at 4 (E := T_api_Value) rfl (by decide)) (by rw [List.length_singleton]; omega) (by rw [List.length_singleton]; omega) fun v2 w6 h => ?_
  refine ⟨h.is 0 rfl sc_string (o := 0) rfl, ?_⟩
  refine h.st 1 rfl sc_s_api_Value (show 0 < 1 by omega) (h.oneCell (α := ValD) (i := 2) rfl) fun w7 h => ?_
  refine ⟨h.is 0 rfl sc_string (o := 0) rfl, ?_⟩
  refine h.st 0 rfl sc_string (show 0 < 1 by omega) rfl fun w8 h => ?_
  exact k v2 _ (h.take 3)
theorem parseRow_m (hB : wireD B) {s : Bs} (hs : s.length ≤ 1099511627776) : Makes Tryz.prog B (sCall F_value_ParseRow #[.string (ofL s)]) fun u τ => (∃ l v, parseRowS s = some l ∧ u = .tuple #[v, .bool true] ∧ τ = [rowD T_api_Value v l]) ∨ (parseRowS s = none ∧ u = .tuple #[.slice none 0 0, .bool false] ∧ τ = []) := by
  refine Makes.intro fun B' w K base h k => ?_
  replace hB := base hB
  refine value_ParseRow.up (value_ParseRow.call ?_)
  unfold value_ParseRow.pt
  have no : parseRowS s = none → ∀ w' τ, Rel B' w' τ → K (.tuple #[.slice none 0 0, .bool false]) w' := fun hn w' τ h => k _ _ _ (.inr ⟨hn, rfl, rfl⟩) h.nil
  have yes : ∀ l v, parseRowS s = some l → ∀ w', Rel B' w' [rowD T_api_Value v l] → K (.tuple #[v, .bool true]) w' := fun l v h1 w' h => k _ _ _ (.inl ⟨l, v, h1, rfl, rfl⟩) h
  clear k
  unfold parseRowS at no yes
  have eq8 : ∀ (c : UInt8) (n : UInt8), ((c.toNat : Int) = (n.toNat : Int)) ↔ c = n := fun c n => ⟨fun h => UInt8.toNat_inj.1 (by omega), fun h => by rw [h]⟩
  have hidx : ∀ {n : Nat} (hn : n < s.length) {Kp : Value → Prop}, pureK Tryz.prog (sIdx T_string (.string (ofL s)) (.int .i64 n)) Kp = Kp (.int .u8 s[n].toNat) := fun {n} hn {Kp} => str_idx (P := Tryz.prog) (Kp := Kp) U_string (show n < (ofL s).size by rw [ofL_size]; exact hn)
  have hlen : ∀ {s : Bs} {K : Value → Prop} {w : World}, readK Tryz.prog (sBlt .len #[T_string] T_int #[false] #[.string (ofL s)]) w K = K (.int .i64 s.length) := fun {s K w} => by rw [str_len U_string, bl_ofL]
  refine h.box fun b w1 h => ?_
  have h : Rel B' w1 [cellD b T_string #[.string (ofL s)]] := h
  have hld : ∀ {K : Value → Prop}, readK Tryz.prog (sLoad T_string (.pointer (some ⟨b, 0, none⟩))) w1 K = K (.string (ofL s)) := fun {K} => h.ld 0 rfl sc_string (o := 0) rfl
  rw [hld, hlen, bin_lss, ifB_dec]
  refine ⟨fun c0 => no (if_pos (.inl (by omega))) _ _ h, fun c0 => ?_⟩
  have hpos : 0 < s.length := by omega
  have h0 : ∀ {Kp : Value → Prop}, pureK Tryz.prog (sIdx T_string (.string (ofL s)) (.int .i64 0)) Kp = Kp (.int .u8 s[0].toNat) := fun {Kp} => hidx (n := 0) hpos
  have hhead : s.head? = some s[0] := by rw [List.head?_eq_getElem?, List.getElem?_eq_getElem hpos]
  have hlast : s.getLast? = some (s[s.length - 1]'(by omega)) := by rw [List.getLast?_eq_getElem?, List.getElem?_eq_getElem (by omega)]
  rw [hld, h0, bin_neq, ifB_not, ifB_dec]
  refine ⟨fun c1 => ?_, fun c1 => no (if_pos (.inr (.inl fun hh => c1 (by rw [hhead] at hh; injection hh with hh; rw [hh]; rfl)))) _ _ h⟩
  have e1 : ((s.length : Int) - 1) = ((s.length - 1 : Nat) : Int) := by omega
  rw [hld, hld, hlen, bin_sub, wrap_id (by omega) (by omega), e1, hidx (n := s.length - 1) (by omega), bin_neq, ifB_not, ifB_dec]
  refine ⟨fun c2 => ?_, fun c2 => no (if_pos (.inr (.inr fun hh => c2 (by rw [hlast] at hh; injection hh with hh; rw [hh]; rfl)))) _ _ h⟩
  have hc : ¬ (s.length < 2 ∨ s.head? ≠ some 40 ∨ s.getLast? ≠ some 41) := by
    rw [hhead, hlast, (eq8 _ 40).1 c1, (eq8 _ 41).1 c2]
    rintro (hh | hh | hh)
    · omega
    · exact hh rfl
    · exact hh rfl
  rw [if_neg hc] at no yes
  have e2 : (s.take (s.length - 1)).drop 1 = (s.drop 1).take (s.length - 2) := by rw [List.drop_take, show s.length - 1 - 1 = s.length - 2 by omega]
  rw [hld, hld, hlen, bin_sub, wrap_id (by omega) (by omega), e1]
  have hcut : ∀ {Kp : Value → Prop}, pureK Tryz.prog (sSlice T_string (.string (ofL s)) (some (.int .i64 1)) (some (.int .i64 ((s.length - 1 : Nat) : Int))) none) Kp = Kp (.string (ofL ((s.drop 1).take (s.length - 2)))) := fun {Kp} => by
    rw [← e2]
    exact str_cut U_string (lo := 1) (hi := s.length - 1) Bnd.some Bnd.some (by omega) (by rw [ofL_size]; omega)
  rw [hcut]
  clear hcut e2 hld hidx h0
  have hin : ((s.drop 1).take (s.length - 2)).length ≤ s.length := by rw [List.length_take, List.length_drop]; omega
  generalize (s.drop 1).take (s.length - 2) = t at *
  refine h.st 0 rfl sc_string (show 0 < 1 by omega) rfl fun w2 h => ?_
  have h : Rel B' w2 [cellD b T_string #[.string (ofL t)]] := h
  refine h.alloc z_s_api_Value fun o w3 h => ?_
  have h : Rel B' w3 [cellD b T_string #[.string (ofL t)], cellD o T_s_api_Value #[.slice none 0 0]] := h
  rw [mk_func, h.ld 0 rfl sc_string (o := 0) rfl, empty_str, eql_ofL, ifB_dec]
  refine ⟨fun c3 => ?_, fun c3 => ?_⟩
  · exact yes [] _ (if_pos c3) _ ((h.addNil ValD T_api_Value).pick [2] (by decide))
  rw [if_neg c3] at no yes
  refine LETJ_intro fun J1 hJ => ?_
  have h := h.addNil ValD T_api_Value
  have hm : ∀ {w' : World} {s' : Bs} {τ : List Dat}, Rel B' w' (cellD b T_string #[.string (ofL s')] :: τ) → (match w'.cell? ⟨b, 0, none⟩ with | some (.string x) => x.size | _ => 0) = s'.length := fun h => by
    rw [cellD.here_cell (h.here (i := 0) rfl) (o := 0) rfl]; rfl
  refine LOOP_intro (fun _ w' => ∃ (k : Nat) (s' : Bs) (acc : List ValD) (v : Value), s'.length < k ∧ acc.length + s'.length ≤ s.length ∧ parseLoop k s' acc = parseLoop (t.length + 1) t [] ∧
      Rel B' w' [cellD b T_string #[.string (ofL s')], cellD o T_s_api_Value #[v], rowD T_api_Value v acc]) (fun _ w' => match w'.cell? ⟨b, 0, none⟩ with | some (.string x) => x.size | _ => 0)
    ⟨t.length + 1, t, [], .slice none 0 0, Nat.lt_succ_self _, by simpa using hin, rfl, h⟩ ?_
  clear h
  rintro x w4 ⟨k, s', acc, v, hk, hle, hp, h⟩ next hnext
  obtain ⟨k, rfl⟩ : ∃ m, k = m + 1 := ⟨k - 1, by omega⟩
  rw [hm h] at hnext
  rw [parseLoop] at hp
  refine rowNext hB (by omega) (by omega) h fun v2 w5 h => ?_
  generalize hn : (endS s').toNat = n at *
  rw [ifB_bool]
  cases hv : parseV (s'.take n) with
  | none =>
    rw [hv] at hp
    simp only at hp
    refine ⟨fun hh => by simp at hh, fun _ => hJ _ _ (no hp.symm _ _ h)⟩
  | some y =>
    rw [hv] at hp h
    simp only at hp
    refine ⟨fun _ => ?_, fun hh => by simp at hh⟩
    rw [Option.getD_some] at h
    rw [h.ld 0 rfl sc_string (o := 0) rfl, eql_ofL, ifB_dec]
    refine ⟨fun c4 => ?_, fun c4 => ?_⟩
    · rw [if_pos c4] at hp
      rw [h.ld 1 rfl sc_s_api_Value (o := 0) rfl]
      exact yes (acc ++ [y]) _ hp.symm _ (h.pick [2] (by decide))
    · rw [if_neg c4] at hp
      rw [h.ld 0 rfl sc_string (o := 0) rfl]
      refine h.ask (fun B2 own base2 => has_g _ _) fun w6 h => ?_
      rw [un_not, ifB_not, ifB_bool, bl_ofL]
      have hd : (s'.drop n).length ≤ s'.length := by rw [List.length_drop]; omega
      refine ⟨fun c5 => ?_, fun c5 => no (by rw [← hp]; exact if_neg (by rw [show sepL = bl ⟨#[44, 32]⟩ from rfl, c5]; decide)) _ _ h⟩
      rw [if_pos (show Go.Lib.hasPrefix (s'.drop n) sepL = true from c5)] at hp
      obtain ⟨r', hr⟩ := (prefix_sep _).1 c5
      have hr2 : (s'.drop n).length = r'.length + 2 := by rw [hr]; simp [sepL]
      have hcut : ∀ {Kp : Value → Prop}, pureK Tryz.prog (sSlice T_string (.string (ofL (s'.drop n))) (some (.int .i64 2)) none none) Kp = Kp (.string (ofL ((s'.drop n).drop 2))) := fun {Kp} => by
        have := str_cut (P := Tryz.prog) (Kp := Kp) (s := ofL (s'.drop n)) U_string (lo := 2) (hi := (s'.drop n).length) Bnd.some Bnd.none (by omega) (by rw [ofL_size]; exact Nat.le_refl _)
        rw [bl_ofL, List.take_length] at this
        exact this
      rw [h.ld 0 rfl sc_string (o := 0) rfl, hcut]
      refine h.st 0 rfl sc_string (show 0 < 1 by omega) rfl fun w7 h => ?_
      have h : Rel B' w7 [cellD b T_string #[.string (ofL ((s'.drop n).drop 2))], cellD o T_s_api_Value #[v2], rowD T_api_Value v2 (acc ++ [y])] := h
      have hd2 : ((s'.drop n).drop 2).length + 2 = (s'.drop n).length := by rw [List.length_drop]; omega
      refine hnext _ _ ⟨k, _, _, _, by omega, by rw [List.length_append, List.length_singleton]; omega, hp, h⟩ (by rw [hm h]; omega)
end
end Go.Proofs.YtifhbaphlmhoeaaGreatDoor
