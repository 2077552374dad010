/-
  wire: what the writing functions answer. No condition.
-/
import Derived.Test.YtppnebcpalialaaDoorWireA
import Derived.Test.YtppnebcpalialaaDoorSpec
--@auto
namespace Go.Proofs.YtppnebcpalialaaDoor
open Go.RowKit
set_option maxRecDepth 100000

theorem ofL_app (a b : Bs) : ofL a ++ ofL b = ofL (a ++ b) := by
  apply bl_inj
  show (ofL a ++ ofL b).data.toList = a ++ b
  simp
theorem strL_add {P : Program} {Kp : Value → Prop} {T : TypeId} {xo yo : Operand} {a b : Bs} (h : a.length + b.length ≤ 9223372036854775807) : pureK P (sBin .add T xo yo (.string (ofL a)) (.string (ofL b))) Kp = Kp (.string (ofL (a ++ b))) := by
  rw [str_add (by rw [ofL_size, ofL_size]; exact h), ofL_app]
theorem itoa_nat {n : Nat} : Go.Lib.itoa (n : Int) = Go.Lib.decDigits n := by unfold Go.Lib.itoa; rw [if_neg (by omega)]; rfl
theorem encI_len {n : Int} (h : inI n) : (encI n).length ≤ 21 := by
  have := itoa_len h
  unfold encI
  rw [List.length_append, List.length_singleton]
  omega
theorem encT_len (s : Bs) (h : s.length ≤ 9223372036854775807) : (encT s).length ≤ s.length + 22 := by
  have := itoa_len (n := s.length) ⟨by omega, by omega⟩
  unfold encT
  simp
  omega
theorem encL_len {α : Type} (one : α → Bs) (l : List α) (h : l.length ≤ 9223372036854775807) : (l.flatMap one).length ≤ (encL one l).length ∧ (encL one l).length ≤ (l.flatMap one).length + 22 := by
  have := itoa_len (n := l.length) ⟨by omega, by omega⟩
  unfold encL
  simp
  omega
theorem flat_take_le {α : Type} (one : α → Bs) (l : List α) (i : Nat) : ((l.take i).flatMap one).length ≤ (l.flatMap one).length := by
  have e : l.flatMap one = (l.take i).flatMap one ++ (l.drop i).flatMap one := by rw [← List.flatMap_append, List.take_append_drop]
  rw [e, List.length_append]
  omega
theorem flat_len {α : Type} (one : α → Bs) (l : List α) (k : Nat) (h : ∀ x ∈ l, (one x).length ≤ k) : (l.flatMap one).length ≤ k * l.length := by
  induction l with
  | nil => simp
  | cons x l ih =>
    have h1 := h x List.mem_cons_self
    have h2 := ih fun y hy => h y (List.mem_cons_of_mem _ hy)
    rw [List.flatMap_cons, List.length_append, List.length_cons, Nat.mul_add]
    omega
theorem flat_take_succ {α : Type} (one : α → Bs) {l : List α} {i : Nat} (h : i < l.length) : (l.take (i + 1)).flatMap one = (l.take i).flatMap one ++ one l[i] := by
  rw [List.take_succ_eq_append_getElem h, List.flatMap_append]
  simp
section
variable {B : Base} {w : World} {σ : List Dat}
theorem wInt_g (hB : wireD B) {n : Int} (hn : inI n) : Gives Tryd.prog B (sCall F_wire_Int #[.int .i64 n]) (.string (ofL (encI n))) := by
  refine Gives.intro fun B' w K base h k => ?_
  refine wire_Int.up (wire_Int.call ?_)
  unfold wire_Int.pt
  refine h.ask (fun B2 own base2 => itoa_g (base2 (base hB)) hn) fun w1 h => ?_
  have := itoa_len hn
  have e : pureK Tryd.prog (sBin .add T_string (.tmp 4) (.const (.string ⟨#[59]⟩)) (.string (ofL (Go.Lib.itoa n))) (.string (ofL [59]))) (fun t5 => K t5 w1) = K (.string (ofL (Go.Lib.itoa n ++ [59]))) w1 := strL_add (by simp; omega)
  show pureK Tryd.prog (sBin .add T_string (.tmp 4) (.const (.string ⟨#[59]⟩)) (.string (ofL (Go.Lib.itoa n))) (.string (ofL [59]))) (fun t5 => K t5 w1)
  rw [e]
  exact k _ _ h
theorem wNum_g (hB : wireD B) {n : Int} (hn : inI n) : Gives Tryd.prog B (sCall F_wire_Num #[.int .i64 n]) (.string (ofL (encN n))) := by
  refine Gives.intro fun B' w K base h k => ?_
  refine wire_Num.up (wire_Num.call ?_)
  unfold wire_Num.pt
  simp -zeta only [bin_lss, ifB_dec]
  unfold encN at k
  refine ⟨fun c => ?_, fun c => ?_⟩
  · rw [if_pos c] at k
    exact k _ _ h
  · rw [if_neg c] at k
    refine h.ask (fun B2 own base2 => wInt_g (base2 (base hB)) hn) fun w1 h => ?_
    exact k _ _ h
theorem list_int_g (hB : wireD B) {v : Value} {l : List Int} (r : rowR v l B) (hgood : ∀ x ∈ l, inI x) (hb : (encL encI (l.map id)).length ≤ 70368744177664) :
    Gives Tryd.prog B (sCall F_wire_list_int #[v, .func (.func F_wire_Int) #[] #[]]) (.string (ofL (encL encI (l.map id)))) := by
  refine Gives.introB fun B' w K base h start k => ?_
  replace r := base r
  replace hB := base hB
  refine wire_list_int.up (wire_list_int.call ?_)
  unfold wire_list_int.pt
  have hll : l.length ≤ 70368744177664 := by
    have h1 : l.length ≤ ((l.map id).flatMap encI).length := by
      clear hb hgood k r start h
      induction l with
      | nil => simp
      | cons x l ih =>
        rw [List.map_cons, List.flatMap_cons, List.length_append, List.length_cons]
        have : 1 ≤ (encI (id x)).length := by simp [encI] <;> omega
        omega
    rcases Nat.lt_or_ge 9223372036854775807 l.length with hh | hh
    · have h2 : ((l.map id).flatMap encI).length ≤ (encL encI (l.map id)).length := by unfold encL; simp; omega
      omega
    · have := (encL_len encI (l.map id) (by rw [List.length_map]; exact hh)).1
      omega
  have hin : inI (l.length : Int) := ⟨by omega, by omega⟩
  refine h.alloc z_strings_Builder fun b w1 h => ?_
  have h := start w1 b h
  simp -zeta only [rowR.len r sl_s_int]
  refine h.ask (fun B2 own base2 => itoa_g (base2 hB) hin) fun w2 h => ?_
  have hl := itoa_len hin
  rw [show (⟨#[91]⟩ : ByteArray) = ofL [91] from rfl, strL_add (by simp; omega)]
  refine h.bldWrite (Nat.le_refl _) (by rw [ofL_size]; simp; omega) fun _ w3 h => ?_
  have h : Rel B' w3 [bldD B'.W.heap.size b (Go.Lib.itoa l.length ++ [91])] := h
  have hmap : (l.map id).length = l.length := List.length_map ..
  have hall := (encL_len encI (l.map id) (by omega)).1
  refine LOOP_intro (fun x w' => ∃ i : Nat, i ≤ l.length ∧ x = (.int .i64 i, ()) ∧ Rel B' w' [bldD B'.W.heap.size b (Go.Lib.itoa l.length ++ [91] ++ ((l.map id).take i).flatMap encI)]) (fun x _ => l.length - (match x.1 with | .int _ n => n.toNat | _ => 0))
    ⟨0, Nat.zero_le _, rfl, by simpa using h⟩ ?_
  clear h
  rintro x w4 ⟨i, hi, rfl, h⟩ next hnext
  simp -zeta only [bin_lss, ifB_dec]
  refine ⟨fun hlt => ?_, fun hge => ?_⟩
  · have hil : i < l.length := by omega
    obtain ⟨q, q1, q2⟩ := rowR.at_sc r h sl_s_int hil sc_int (x := .int .i64 l[i]) rfl
    rw [q1, q2]
    refine call_v ?_
    refine h.ask (fun B2 own base2 => wInt_g (base2 hB) (hgood l[i] (List.getElem_mem hil))) fun w5 h => ?_
    have hstep := flat_take_succ encI (l := l.map id) (i := i) (by omega)
    rw [List.getElem_map, show encI (id l[i]) = encI l[i] from rfl] at hstep
    have hle := flat_take_le encI (l.map id) (i + 1)
    rw [hstep, List.length_append] at hle
    refine h.bldWrite (Nat.le_refl _) (by rw [ofL_size]; simp only [List.length_append, List.length_singleton]; omega) fun _ w6 h => ?_
    rw [bin_add, wrap_id (by omega) (by omega)]
    refine hnext _ _ ⟨i + 1, hil, rfl, ?_⟩ (by simp only; omega)
    rw [hstep, ← List.append_assoc]
    exact h
  · refine h.bldString (Nat.le_refl _) fun w7 h => ?_
    have hie : i = l.length := by omega
    subst hie
    have e : (l.map id).take l.length = l.map id := List.take_of_length_le (by omega)
    rw [e] at *
    rw [show (⟨#[93]⟩ : ByteArray) = ofL [93] from rfl, strL_add (by simp only [List.length_append, List.length_singleton]; omega)]
    have e2 : encL encI (l.map id) = Go.Lib.itoa l.length ++ [91] ++ (l.map id).flatMap encI ++ [93] := by simp [encL]
    rw [e2] at k
    exact k _ _ h
theorem wNums_g (hB : wireD B) {v : Value} {l : List Int} (r : rowR v l B) (hgood : ∀ x ∈ l, inI x) (hl : l.length ≤ 1099511627776) : Gives Tryd.prog B (sCall F_wire_Nums #[v]) (.string (ofL (encL encI l))) := by
  refine Gives.intro fun B' w K base h k => ?_
  refine wire_Nums.up (wire_Nums.call ?_)
  unfold wire_Nums.pt
  have e : l.map id = l := List.map_id l
  refine h.ask (fun B2 own base2 => list_int_g (base2 (base hB)) (base2 (base r)) hgood (by
    rw [e]
    have h1 := (encL_len encI l (by omega)).2
    have h2 := flat_len encI l 21 fun x hx => encI_len (hgood x hx)
    omega)) fun w1 h => ?_
  rw [e]
  exact k _ _ h
end
end Go.Proofs.YtppnebcpalialaaDoor
