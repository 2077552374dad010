/-
  Chapter 01's arguments. No condition.
-/
import Derived.Test.YtkcjcbmbddfjnaaDoorWireG
import Derived.Test.YtkcjcbmbddfjnaaDoorArgs
namespace Go.Proofs.YtkcjcbmbddfjnaaDoor
open Go.RowKit
set_option maxRecDepth 100000

theorem open_val {W : World} {x : VD} (h : ok_erratalaw01_Value W x) : ∃ y : Vv, y.raw = x ∧ vIn y (lawB W) ∧ GoodV y := by
  obtain ⟨_, hn, _, ⟨l, hl, _, hql⟩, ⟨t, ht, _, _⟩⟩ := h
  exact ⟨⟨x.kind, x.n, x.s, l, t, x.l, x.t⟩, rfl, ⟨hl, ht⟩, hn, fun y hy => hql y hy⟩
theorem open_vals {W : World} : ∀ {l : List VD}, (∀ x ∈ l, ok_erratalaw01_Value W x) → ∃ L : List Vv, vraws L = l ∧ (∀ x ∈ L, vIn x (lawB W)) ∧ ∀ x ∈ L, GoodV x
  | [], _ => ⟨[], rfl, fun x hx => (by cases hx), fun x hx => (by cases hx)⟩
  | x :: l, hq => by
    obtain ⟨L, h1, h2, h3⟩ := open_vals (l := l) fun y hy => hq y (List.mem_cons_of_mem _ hy)
    obtain ⟨y, e, g1, g2⟩ := open_val (hq x List.mem_cons_self)
    refine ⟨y :: L, ?_, fun z hz => ?_, fun z hz => ?_⟩
    · show y.raw :: vraws L = _
      rw [h1, e]
    · rcases List.mem_cons.1 hz with rfl | hz
      · exact g1
      · exact h2 z hz
    · rcases List.mem_cons.1 hz with rfl | hz
      · exact g2
      · exact h3 z hz
theorem wireBack_pt {W : World} (hB : wireD (lawB W)) {v : Value} {l : List VD} {tail : ByteArray} (r : rowR v l (lawB W)) (_ : l.length ≤ maxLen) (hq : ∀ x ∈ l, ok_erratalaw01_Value W x) (_ : tail.size ≤ maxLen)
    {K : Value → World → Prop} (fin : ∀ w' σ, Rel (lawB W) w' σ → K (.bool true) w') : erratalaw01_WireBack.pt v (.string tail) W K := by
  obtain ⟨L, rfl, q, hg⟩ := open_vals hq
  exact wireBack_walk hB r q hg fin
theorem wireNests_pt {W : World} (hB : wireD (lawB W)) {v : Value} {l : List VD} (r : rowR v l (lawB W)) (_ : l.length ≤ maxLen) (hq : ∀ x ∈ l, ok_erratalaw01_Value W x)
    {K : Value → World → Prop} (fin : ∀ w' σ, Rel (lawB W) w' σ → K (.bool true) w') : erratalaw01_WireNests.pt v W K := by
  obtain ⟨L, rfl, q, hg⟩ := open_vals hq
  exact wireNests_walk hB r q hg fin
theorem wirePrefix_pt {W : World} (hB : wireD (lawB W)) {x y : VD} (hx : ok_erratalaw01_Value W x) (hy : ok_erratalaw01_Value W y)
    {K : Value → World → Prop} (fin : ∀ w' σ, Rel (lawB W) w' σ → K (.bool true) w') : erratalaw01_WirePrefix.pt x.v y.v W K := by
  obtain ⟨a, rfl, qa, ga⟩ := open_val hx
  obtain ⟨b, rfl, qb, gb⟩ := open_val hy
  exact wirePrefix_walk hB qa qb ga gb fin
end Go.Proofs.YtkcjcbmbddfjnaaDoor
