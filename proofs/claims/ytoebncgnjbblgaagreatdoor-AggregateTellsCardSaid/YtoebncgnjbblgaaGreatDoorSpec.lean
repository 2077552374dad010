/-
  What a call does, told once for every memory: it only answers (Gives), it makes new things (Makes), it changes one thing (Does). No condition.
-/
import Derived.Test.YtoebncgnjbblgaaGreatDoorHeap
namespace Go.Proofs.YtoebncgnjbblgaaGreatDoor
open Go.RowKit

/-- The call answers v, and changes nothing. -/
def Gives (P : Program) (B : Base) (s : Sem Next) (v : Value) : Prop := ∀ (w : World) (σ : List Dat) (K : Value → World → Prop), Rel B w σ → (∀ w', Rel B w' σ → K v w') → upK P s w K
/-- The call answers a value, and makes new things. -/
def Makes (P : Program) (B : Base) (s : Sem Next) (post : Value → List Dat → Prop) : Prop := ∀ (w : World) (σ : List Dat) (K : Value → World → Prop), Rel B w σ → (∀ v τ w', post v τ → Rel B w' (σ ++ τ) → K v w') → upK P s w K
/-- The call changes the thing e, and may make new things. -/
def Does (P : Program) (B : Base) (e : Dat) (s : Sem Next) (post : Value → Dat → List Dat → Prop) : Prop :=
  ∀ (w : World) (σ : List Dat) (i : Nat) (K : Value → World → Prop), Rel B w σ → σ[i]? = some e → (∀ v e' τ w', post v e' τ → Rel B w' (σ.set i e' ++ τ) → K v w') → upK P s w K

section
variable {P : Program} {B : Base} {s : Sem Next} {v : Value} {w : World} {σ : List Dat} {K : Value → World → Prop} {post : Value → List Dat → Prop} {e : Dat} {postD : Value → Dat → List Dat → Prop} {i : Nat}

theorem Gives.intro (h : ∀ (B' : Base) (w : World) (K : Value → World → Prop), (∀ {d : Dat}, d B → d B') → Rel B' w [] → (∀ w' τ, Rel B' w' τ → K v w') → upK P s w K) : Gives P B s v := by
  intro w σ K hr k
  obtain ⟨B', h', back, _, base⟩ := hr.frz
  refine h B' w K base h' fun w' τ h2 => k w' ?_
  have := back w' [] h2.nil
  simpa using this
theorem Makes.intro (h : ∀ (B' : Base) (w : World) (K : Value → World → Prop), (∀ {d : Dat}, d B → d B') → Rel B' w [] → (∀ v τ w', post v τ → Rel B' w' τ → K v w') → upK P s w K) : Makes P B s post := by
  intro w σ K hr k
  obtain ⟨B', h', back, _, base⟩ := hr.frz
  exact h B' w K base h' fun v τ w' hp h2 => k v τ w' hp (back w' τ h2)
theorem Does.intro (h : ∀ (B' : Base) (w : World) (K : Value → World → Prop), (∀ {d : Dat}, d B → d B') → Rel B' w [e] → (∀ v e' τ w', postD v e' τ → Rel B' w' (e' :: τ) → K v w') → upK P s w K) : Does P B e s postD := by
  intro w σ i K hr hi k
  obtain ⟨B', h', back, _, base⟩ := hr.focus hi
  exact h B' w K base h' fun v e' τ w' hp h2 => k v e' τ w' hp (back w' e' τ h2)

/-- Ask, over what is one's own and what the base keeps. -/
theorem Rel.ask (h : Rel B w σ) (G : ∀ B' : Base, (∀ {i : Nat} {d : Dat}, σ[i]? = some d → d B') → (∀ {d : Dat}, d B → d B') → Gives P B' s v) (k : ∀ w', Rel B w' σ → K v w') : upK P s w K := by
  obtain ⟨B', h', back, own, base⟩ := h.frz
  refine G B' own base w [] K h' fun w' h2 => k w' ?_
  have := back w' [] h2
  simpa using this
theorem Rel.make (h : Rel B w σ) (G : ∀ B' : Base, (∀ {i : Nat} {d : Dat}, σ[i]? = some d → d B') → (∀ {d : Dat}, d B → d B') → Makes P B' s post) (k : ∀ v τ w', post v τ → Rel B w' (σ ++ τ) → K v w') : upK P s w K := by
  obtain ⟨B', h', back, own, base⟩ := h.frz
  exact G B' own base w [] K h' fun v τ w' hp h2 => k v τ w' hp (back w' τ h2)
theorem Rel.act (h : Rel B w σ) (i : Nat) (hi : σ[i]? = some e) (G : ∀ B' : Base, (∀ {j : Nat} {d : Dat}, j ≠ i → σ[j]? = some d → d B') → (∀ {d : Dat}, d B → d B') → Does P B' e s postD)
    (k : ∀ v e' τ w', postD v e' τ → Rel B w' (σ.set i e' ++ τ) → K v w') : upK P s w K := by
  obtain ⟨B', h', back, own, base⟩ := h.focus hi
  refine G B' own base w [e] 0 K h' rfl fun v e' τ w' hp h2 => k v e' τ w' hp ?_
  exact back w' e' τ h2
/-- A function value that is called. -/
theorem call_v {f : FuncId} {first captured args : Array Value} (h : upK P (sCall f (first ++ args ++ captured)) w K) : upK P (sCallV (.func (.func f) first captured) args) w K := h
theorem mk_func {Kp : Value → Prop} {f : FuncId} {a b : Array Value} : pureK P (sMkFunc (.func f) a b) Kp = Kp (.func (.func f) a b) := pureK_eq fun w => rfl

/-- Things are taken out of the list, in an order of one's own. -/
theorem Rel.pick (L : List Nat) (hL : L.Nodup) (h : Rel B w σ) : Rel B w (L.map fun i => (σ[i]?).getD emp) := by
  obtain ⟨c, h⟩ := h
  refine ⟨fun k => match L.idxOf? (c k - 1) with | some j => if c k = 0 then 0 else j + 1 | none => 0, h.os, h.tape, h.output, h.size, fun k hk hs => ?_, h.same, fun j d hj => ?_⟩
  · have h0 := h.keepc k hk hs
    simp only [h0]
    split <;> simp
  · simp only [List.getElem?_map, Option.map_eq_some_iff] at hj
    obtain ⟨i, hi, rfl⟩ := hj
    cases hd : σ[i]? with
    | none => trivial
    | some d =>
      refine Dat.wide _ (fun k hk hs => ?_) (h.own i d hd)
      have hk : c k = i + 1 := hk
      have hidx : L.idxOf? i = some j := by
        rw [List.idxOf?, List.findIdx?_eq_some_iff_getElem]
        obtain ⟨hlt, rfl⟩ := List.getElem?_eq_some_iff.1 hi
        refine ⟨hlt, by simp, fun m hm => ?_⟩
        simp only [beq_iff_eq, Bool.not_eq_true]
        have := List.nodup_iff_pairwise_ne.1 hL
        rw [List.pairwise_iff_getElem] at this
        have := this m j (by omega) hlt hm
        simpa using this
      simp only [hk, Nat.add_sub_cancel, hidx]
      rfl
end

/-- The last thing goes to what the base keeps. -/
theorem Rel.frz1 {B : Base} {w : World} {σ : List Dat} {d : Dat} (h : Rel B w (σ ++ [d])) : ∃ B', B.ext B' ∧ Rel B' w σ ∧ d B' := by
  obtain ⟨B', h1, h2, h3⟩ := h.freeze (d := d) (i := σ.length) (by rw [List.getElem?_append_right (Nat.le_refl _)]; simp)
  rw [List.set_append_right _ _ (Nat.le_refl _)] at h2
  exact ⟨B', h1, h2.drop, h3⟩

section
variable {α : Type} [Enc α] {P : Program} {K : Value → World → Prop} {B : Base} {w : World} {σ : List Dat} {T E : TypeId} {by_ : Nat} {l : List α}
/-- 'clear(own[lo:])' and then 'own[:lo]'. -/
theorem Rel.clearFront (h : Rel B w σ) (i : Nat) {g n cap lo : Nat} (hi : σ[i]? = some (rowD E (.slice (some ⟨g, 0, none⟩) n cap) l)) (hT : sliceB P T E (Enc.sz α) by_ = true) (hlo : lo ≤ n) {U : TypeId} {bs : Array Bool} {K' : Value → World → Prop}
    (k : ∀ w', Rel B w' (σ.set i (rowD E (.slice (some ⟨g, 0, none⟩) lo cap) (l.take lo))) → K' (.slice (some ⟨g, 0, none⟩) lo cap) w') :
    upK P (sBlt .clear #[T] U bs #[cutV (Enc.sz α) (.slice (some ⟨g, 0, none⟩) n cap) lo n]) w fun _ w' => pureK P (sSlice T (.slice (some ⟨g, 0, none⟩) n cap) none (some (.int .i64 lo)) none) fun v' => K' v' w' := by
  obtain ⟨c, h⟩ := h
  obtain ⟨rfl, cur, hb, h1, hm, h3, h4⟩ := (rowD.own (h.own i _ hi)).inv
  have hle : l.length * Enc.sz α ≤ cap * Enc.sz α := Nat.mul_le_mul_right _ h1
  have hlm : lo * Enc.sz α ≤ l.length * Enc.sz α := Nat.mul_le_mul_right _ hlo
  have fin : ∀ w' (cur' : Array Value), Step (only (i + 1)) c w c w' → Blk c (i + 1) w' g E cur' → cur'.size = cur.size → cur'.toList.take (lo * Enc.sz α) = cur.toList.take (lo * Enc.sz α) →
      pureK P (sSlice T (.slice (some ⟨g, 0, none⟩) l.length cap) none (some (.int .i64 lo)) none) fun v' => K' v' w' := by
    intro w' cur' st hb' hs ht
    rw [pureK_eq fun w => slice_run (lo := 0) (hi := lo) hT Bnd.none Bnd.some (Nat.zero_le _) (by omega) w]
    have e : (if cap = 0 then (some (⟨g, 0, none⟩ : Addr)) else (some (⟨g, 0, none⟩ : Addr)).map (·.add (0 * Enc.sz α))) = some ⟨g, 0, none⟩ := by simp [addr_add]
    rw [e, Nat.sub_zero, Nat.sub_zero]
    refine k w' ⟨c, h.step hi st (RowO.rowD (RowO.mk_ hb' (by simp; omega) (by omega) hm (by rw [hs, h3]) ?_))⟩
    rw [ht, ← flat_take, ← h4, List.take_take, Nat.min_eq_left hlm]
  obtain ⟨hu, _⟩ := sliceB_spec hT
  show upK P (sBlt .clear #[T] U bs #[.slice (if cap = lo then some ⟨g, 0, none⟩ else (some (⟨g, 0, none⟩ : Addr)).map (·.add (lo * Enc.sz α))) (l.length - lo) (cap - lo)]) w _
  by_cases hc : cap = lo
  · have hn : l.length - lo = 0 := by omega
    rw [if_pos hc, hn]
    refine upK_of (v := .tuple #[]) (w' := w) (vN_run ?_) (fin w cur (Step.refl _ c w) hb rfl rfl)
    simp [Builtin.clear_, run_underlying hu]
  · rw [if_neg hc]
    simp only [Option.map_some, addr_add, Nat.zero_add]
    exact clear_own (α := α) hT hb (by rw [h3, ← Nat.add_mul]; exact Nat.mul_le_mul_right _ (by omega)) fun w' cur' st hb' hs ht => fin w' cur' st hb' hs ht
end

/-! ### Strings -/
section
variable {P : Program} {Kp : Value → Prop} {T : TypeId} {xo yo : Operand} {a b : ByteArray}
theorem str_add (h : a.size + b.size ≤ 9223372036854775807) : pureK P (sBin .add T xo yo (.string a) (.string b)) Kp = Kp (.string (a ++ b)) := pureK_eq fun w => by
  have : (Op.stringOp .add a b : Sem Value) = pure (.string (a ++ b)) := by
    simp only [Op.stringOp]
    rw [if_neg (by have : IntKind.i64.max = 9223372036854775807 := by decide +kernel
                   omega)]
  show (vN (Op.stringOp .add a b)).run P w = _
  rw [this]
  rfl
theorem str_lss : pureK P (sBin .lss T xo yo (.string a) (.string b)) Kp = Kp (.bool (Op.bytesLess a.toList b.toList)) := pureK_eq fun w => rfl
theorem str_leq : pureK P (sBin .leq T xo yo (.string a) (.string b)) Kp = Kp (.bool (Op.bytesLess a.toList b.toList || (a.toList == b.toList))) := pureK_eq fun w => rfl
theorem str_gtr : pureK P (sBin .gtr T xo yo (.string a) (.string b)) Kp = Kp (.bool (!(Op.bytesLess a.toList b.toList || (a.toList == b.toList)))) := pureK_eq fun w => rfl
theorem str_geq : pureK P (sBin .geq T xo yo (.string a) (.string b)) Kp = Kp (.bool (!Op.bytesLess a.toList b.toList)) := pureK_eq fun w => rfl
end

/-! ### Results that are variables -/
theorem rv_ag {P : Program} {Kp : Value → Prop} {B : Base} {w : World} {σ : List Dat} {T E : TypeId} {n b : Nat} {cs : Array Value} (h : Rel B w σ) (i : Nat) (hi : σ[i]? = some (cellD b E cs)) (ht : agB P T n = true) (hn : cs.size = n) :
    readV P (do loadVar T (← asAddr (.pointer (some ⟨b, 0, none⟩)))) w Kp = Kp (.agg cs) := by
  have hr : (loadVar T ⟨b, 0, none⟩).run P w = .ok (.agg cs) w := by
    have h1 := h.isAg i hi ht hn
    unfold Is sLoad vN Instr.loadAt Instr.sureAddr at h1
    simp only [pure_bind] at h1
    rw [Sem.run_bind] at h1
    cases hl : (loadVar T ⟨b, 0, none⟩).run P w with
    | ok v w' =>
      rw [hl] at h1
      have h1 : Result.ok (Next.value v) w' = .ok (.value (.agg cs)) w := h1
      injection h1 with h1 h2
      injection h1 with h1
      rw [h1, h2]
    | halt x w' => rw [hl] at h1; cases h1
  refine propext ⟨fun ⟨v, h1, h2⟩ => ?_, fun h2 => ⟨_, hr, h2⟩⟩
  have h1 : (loadVar T ⟨b, 0, none⟩).run P w = .ok v w := h1
  rw [hr] at h1
  injection h1 with h1
  exact h1 ▸ h2

/-! ### Many things -/
theorem get_last {σ : List Dat} {d : Dat} : (σ ++ [d])[σ.length]? = some d := by rw [List.getElem?_append_right (Nat.le_refl _)]; simp

/-- Things in the middle are given up. -/
theorem Rel.mid {B : Base} {w : World} {σ ρ τ : List Dat} (h : Rel B w (σ ++ ρ ++ τ)) : Rel B w (σ ++ τ) := by
  obtain ⟨c, h⟩ := h
  refine ⟨fun k => if c k ≤ σ.length then c k else if c k ≤ σ.length + ρ.length then 0 else c k - ρ.length, h.os, h.tape, h.output, h.size, fun k hk hs => ?_, h.same, fun j d hj => ?_⟩
  · have := h.keepc k hk hs
    simp only [this]
    rfl
  · by_cases hl : j < σ.length
    · rw [List.getElem?_append_left hl] at hj
      refine d.wide (fun k hk hs => ?_) (h.own j d (by rw [List.append_assoc, List.getElem?_append_left hl]; exact hj))
      have hk : c k = j + 1 := hk
      show (if c k ≤ σ.length then c k else _) = _
      rw [if_pos (by omega)]
      exact hk
    · rw [List.getElem?_append_right (by omega)] at hj
      refine d.wide (fun k hk hs => ?_) (h.own (j + ρ.length) d (by rw [List.getElem?_append_right (by simp; omega)]; simp; rw [show j + ρ.length - (σ.length + ρ.length) = j - σ.length by omega]; exact hj))
      have hk : c k = j + ρ.length + 1 := hk
      show (if c k ≤ σ.length then c k else if c k ≤ σ.length + ρ.length then 0 else c k - ρ.length) = _
      rw [if_neg (by omega), if_neg (by omega)]
      omega

def Dat.all {α : Type} (L : List α) (f : α → Dat) : Dat := ⟨fun B => ∀ x ∈ L, f x B, fun hl h x hx => (f x).mono hl (h x hx)⟩
/-- The last things are seen as one. -/
theorem Rel.gather {B : Base} {w : World} {σ : List Dat} {α : Type} {L : List α} {f g : α → Dat} (h : Rel B w (σ ++ L.map f)) (hfg : ∀ x ∈ L, ∀ B, f x B → g x B) : Rel B w (σ ++ [Dat.all L g]) := by
  obtain ⟨c, h⟩ := h
  refine ⟨fun k => if c k ≤ σ.length then c k else σ.length + 1, h.os, h.tape, h.output, h.size, fun k hk hs => ?_, h.same, fun j d hj => ?_⟩
  · have := h.keepc k hk hs
    simp only [this]
    rfl
  · rcases Nat.lt_trichotomy j σ.length with hl | hl | hl
    · rw [List.getElem?_append_left hl] at hj
      refine d.wide (fun k hk hs => ?_) (h.own j d (by rw [List.getElem?_append_left hl]; exact hj))
      have hk : c k = j + 1 := hk
      show (if c k ≤ σ.length then c k else _) = _
      rw [if_pos (by omega)]
      exact hk
    · subst hl
      rw [List.getElem?_append_right (Nat.le_refl _)] at hj
      simp at hj
      subst hj
      intro x hx
      obtain ⟨m, hm, rfl⟩ := List.getElem_of_mem hx
      refine Dat.wide _ (fun k hk hs => ?_) (hfg _ hx _ (h.own (σ.length + m) (f L[m]) (by rw [List.getElem?_append_right (by omega)]; simp [hm])))
      have hk : c k = σ.length + m + 1 := hk
      show (if c k ≤ σ.length then c k else _) = _
      rw [if_neg (by omega)]
    · rw [List.getElem?_eq_none (by simp; omega)] at hj; cases hj
theorem Dat.all_append {α : Type} {L M : List α} {f : α → Dat} {B : Base} (h1 : (Dat.all L f) B) (h2 : (Dat.all M f) B) : (Dat.all (L ++ M) f) B := fun x hx => (List.mem_append.1 hx).elim (h1 x) (h2 x)

/-- The first index that is asked for; -1, if there is none. -/
def idxP {α : Type} (p : α → Bool) (l : List α) : Int := match l.findIdx? p with
  | some i => i
  | none => -1
theorem idxP_take {α : Type} {p : α → Bool} {l : List α} {i : Nat} (hi : i < l.length) (hno : ∀ x ∈ l.take i, p x = false) (h : p l[i] = true) : idxP p l = i := by
  unfold idxP
  have : l.findIdx? p = some i := by
    rw [List.findIdx?_eq_some_iff_getElem]
    refine ⟨hi, h, fun j hj => ?_⟩
    have := hno l[j] (List.mem_take_iff_getElem.2 ⟨j, by omega, rfl⟩)
    simp [this]
  rw [this]
theorem idxP_none {α : Type} {p : α → Bool} {l : List α} (hno : ∀ x ∈ l, p x = false) : idxP p l = -1 := by
  unfold idxP
  have : l.findIdx? p = none := List.findIdx?_eq_none_iff.2 hno
  rw [this]
theorem idxP_lt {α : Type} {p : α → Bool} {l : List α} : (idxP p l < 0 ↔ ∀ x ∈ l, p x = false) ∧ idxP p l < l.length + 1 := by
  unfold idxP
  split
  · rename_i i h
    obtain ⟨hi, hp, _⟩ := List.findIdx?_eq_some_iff_getElem.1 h
    refine ⟨⟨fun h => by omega, fun h => ?_⟩, by omega⟩
    rw [h _ (List.getElem_mem hi)] at hp
    cases hp
  · rename_i h
    exact ⟨⟨fun _ => List.findIdx?_eq_none_iff.1 h, fun _ => by omega⟩, by omega⟩
end Go.Proofs.YtoebncgnjbblgaaGreatDoor
