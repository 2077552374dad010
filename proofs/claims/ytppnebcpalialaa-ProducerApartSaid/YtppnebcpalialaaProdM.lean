/-
  A table that is an argument. No condition.
-/
import Derived.Test.YtppnebcpalialaaProdJ
import Derived.Test.YtppnebcpalialaaArgs
namespace Go.Proofs.Ytppnebcpalialaa
open Go.RowKit

theorem open_tab {W : World} : ∀ {l : List PrD}, (∀ x ∈ l, ok_api_Producer W x) → ∃ L : PrL, praws L = l ∧ prows L (lawB W) ∧ ∀ p ∈ L, p.1.last.length ≤ maxLen
  | [], _ => ⟨[], rfl, fun x hx => (by cases hx), fun x hx => (by cases hx)⟩
  | x :: l, hq => by
    obtain ⟨L, h1, h2, h3⟩ := open_tab (l := l) fun y hy => hq y (List.mem_cons_of_mem _ hy)
    obtain ⟨_, _, _, ls, hr, hm, _⟩ := hq x List.mem_cons_self
    refine ⟨(⟨x.id, x.epoch, x.next, ls⟩, x.last) :: L, ?_, fun y hy => ?_, fun y hy => ?_⟩
    · show _ :: praws L = _
      rw [h1]
    · rcases List.mem_cons.1 hy with rfl | hy
      · exact hr
      · exact h2 y hy
    · rcases List.mem_cons.1 hy with rfl | hy
      · exact hm
      · exact h3 y hy

theorem producerApart_pt {W : World} {v : Value} {l : List PrD} {a b : D_api_Entry} {pos : Int} (r : rowR v l (lawB W))  (_ : l.length ≤ maxLen) (hq : ∀ x ∈ l, ok_api_Producer W x)
    {K : Value → World → Prop} (fin : ∀ w' σ, Rel (lawB W) w' σ → K (.bool true) w') : erratalaw10_ProducerApart.pt v a.v b.v (.int .i64 pos) W K := by
  obtain ⟨L, rfl, q, hl⟩ := open_tab hq
  exact producerApart_walk r q fin
end Go.Proofs.Ytppnebcpalialaa
