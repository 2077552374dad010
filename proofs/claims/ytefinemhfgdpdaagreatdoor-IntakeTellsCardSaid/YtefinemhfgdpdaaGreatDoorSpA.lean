/-
  What a call does, told once for every memory: it only answers (Gives), it makes new things (Makes), it changes one thing (Does). No condition.
-/
import Derived.Test.YtefinemhfgdpdaaGreatDoorHeap
import Derived.Laws.BytesString
import Derived.Maps.RangeRun
namespace Go.Proofs.YtefinemhfgdpdaaGreatDoor
open Go.RowKit

/-- The call answers v, and changes nothing. -/
def Gives (P : Program) (B : Base) (s : Sem Next) (v : Value) : Prop := ∀ (w : World) (σ : List Dat) (K : Value → World → Prop), Rel B w σ → (∀ w', Rel B w' σ → K v w') → upK P s w K
/-- The call answers a value, and makes new things. -/
def Makes (P : Program) (B : Base) (s : Sem Next) (post : Value → List Dat → Prop) : Prop := ∀ (w : World) (σ : List Dat) (K : Value → World → Prop), Rel B w σ → (∀ v τ w', post v τ → Rel B w' (σ ++ τ) → K v w') → upK P s w K
/-- The call changes the thing e, and may make new things. -/
def Does (P : Program) (B : Base) (e : Dat) (s : Sem Next) (post : Value → Dat → List Dat → Prop) : Prop :=
  ∀ (w : World) (σ : List Dat) (i : Nat) (K : Value → World → Prop), Rel B w σ → σ[i]? = some e → (∀ v e' τ w', post v e' τ → Rel B w' (σ.set i e' ++ τ) → K v w') → upK P s w K

section
variable {P : Program} {B : Base} {s : Sem Next} {v : Value} {w : World} {σ : List Dat} {K : Value → World → Prop} {post : Value → List Dat → Prop} {e : Dat} {postD : Value → Dat → List Dat → Prop} {i : Nat}

theorem Gives.intro (h : ∀ (B' : Base) (w : World) (K : Value → World → Prop), (∀ {d : Dat}, d B → d B') → Rel B' w [] → (∀ w' τ, Rel B' w' τ → K v w') → upK P s w K) : Gives P B s v := by
  intro w σ K hr k
  obtain ⟨B', h', back, _, base⟩ := hr.frz
  refine h B' w K base h' fun w' τ h2 => k w' ?_
  have := back w' [] h2.nil
  simpa using this
theorem Makes.intro (h : ∀ (B' : Base) (w : World) (K : Value → World → Prop), (∀ {d : Dat}, d B → d B') → Rel B' w [] → (∀ v τ w', post v τ → Rel B' w' τ → K v w') → upK P s w K) : Makes P B s post := by
  intro w σ K hr k
  obtain ⟨B', h', back, _, base⟩ := hr.frz
  exact h B' w K base h' fun v τ w' hp h2 => k v τ w' hp (back w' τ h2)
theorem Does.intro (h : ∀ (B' : Base) (w : World) (K : Value → World → Prop), (∀ {d : Dat}, d B → d B') → Rel B' w [e] → (∀ v e' τ w', postD v e' τ → Rel B' w' (e' :: τ) → K v w') → upK P s w K) : Does P B e s postD := by
  intro w σ i K hr hi k
  obtain ⟨B', h', back, _, base⟩ := hr.focus hi
  exact h B' w K base h' fun v e' τ w' hp h2 => k v e' τ w' hp (back w' e' τ h2)

/-- Ask, over what is one's own and what the base keeps. -/
theorem Rel.ask (h : Rel B w σ) (G : ∀ B' : Base, (∀ {i : Nat} {d : Dat}, σ[i]? = some d → d B') → (∀ {d : Dat}, d B → d B') → Gives P B' s v) (k : ∀ w', Rel B w' σ → K v w') : upK P s w K := by
  obtain ⟨B', h', back, own, base⟩ := h.frz
  refine G B' own base w [] K h' fun w' h2 => k w' ?_
  have := back w' [] h2
  simpa using this
theorem Rel.make (h : Rel B w σ) (G : ∀ B' : Base, (∀ {i : Nat} {d : Dat}, σ[i]? = some d → d B') → (∀ {d : Dat}, d B → d B') → Makes P B' s post) (k : ∀ v τ w', post v τ → Rel B w' (σ ++ τ) → K v w') : upK P s w K := by
  obtain ⟨B', h', back, own, base⟩ := h.frz
  exact G B' own base w [] K h' fun v τ w' hp h2 => k v τ w' hp (back w' τ h2)
theorem Rel.act (h : Rel B w σ) (i : Nat) (hi : σ[i]? = some e) (G : ∀ B' : Base, (∀ {j : Nat} {d : Dat}, j ≠ i → σ[j]? = some d → d B') → (∀ {d : Dat}, d B → d B') → Does P B' e s postD)
    (k : ∀ v e' τ w', postD v e' τ → Rel B w' (σ.set i e' ++ τ) → K v w') : upK P s w K := by
  obtain ⟨B', h', back, own, base⟩ := h.focus hi
  refine G B' own base w [e] 0 K h' rfl fun v e' τ w' hp h2 => k v e' τ w' hp ?_
  exact back w' e' τ h2
/-- A function value that is called. -/
theorem call_v {f : FuncId} {first captured args : Array Value} (h : upK P (sCall f (first ++ args ++ captured)) w K) : upK P (sCallV (.func (.func f) first captured) args) w K := h
theorem mk_func {Kp : Value → Prop} {f : FuncId} {a b : Array Value} : pureK P (sMkFunc (.func f) a b) Kp = Kp (.func (.func f) a b) := pureK_eq fun w => rfl

/-- Things are taken out of the list, in an order of one's own. -/
theorem Rel.pick (L : List Nat) (hL : L.Nodup) (h : Rel B w σ) : Rel B w (L.map fun i => (σ[i]?).getD emp) := by
  obtain ⟨c, h⟩ := h
  refine ⟨fun k => match L.idxOf? (c k - 1) with | some j => if c k = 0 then 0 else j + 1 | none => 0, h.os, h.tape, h.output, h.size, fun k hk hs => ?_, h.same, fun j d hj => ?_⟩
  · have h0 := h.keepc k hk hs
    simp only [h0]
    split <;> simp
  · simp only [List.getElem?_map, Option.map_eq_some_iff] at hj
    obtain ⟨i, hi, rfl⟩ := hj
    cases hd : σ[i]? with
    | none => trivial
    | some d =>
      refine Dat.wide _ (fun k hk hs => ?_) (h.own i d hd)
      have hk : c k = i + 1 := hk
      have hidx : L.idxOf? i = some j := by
        rw [List.idxOf?, List.findIdx?_eq_some_iff_getElem]
        obtain ⟨hlt, rfl⟩ := List.getElem?_eq_some_iff.1 hi
        refine ⟨hlt, by simp, fun m hm => ?_⟩
        simp only [beq_iff_eq, Bool.not_eq_true]
        have := List.nodup_iff_pairwise_ne.1 hL
        rw [List.pairwise_iff_getElem] at this
        have := this m j (by omega) hlt hm
        simpa using this
      simp only [hk, Nat.add_sub_cancel, hidx]
      rfl
end

/-- The last thing goes to what the base keeps. -/
theorem Rel.frz1 {B : Base} {w : World} {σ : List Dat} {d : Dat} (h : Rel B w (σ ++ [d])) : ∃ B', B.ext B' ∧ Rel B' w σ ∧ d B' := by
  obtain ⟨B', h1, h2, h3⟩ := h.freeze (d := d) (i := σ.length) (by rw [List.getElem?_append_right (Nat.le_refl _)]; simp)
  rw [List.set_append_right _ _ (Nat.le_refl _)] at h2
  exact ⟨B', h1, h2.drop, h3⟩

section
variable {α : Type} [Enc α] {P : Program} {K : Value → World → Prop} {B : Base} {w : World} {σ : List Dat} {T E : TypeId} {by_ : Nat} {l : List α}
/-- 'clear(own[lo:])' and then 'own[:lo]'. -/
theorem Rel.clearFront (h : Rel B w σ) (i : Nat) {g n cap lo : Nat} (hi : σ[i]? = some (rowD E (.slice (some ⟨g, 0, none⟩) n cap) l)) (hT : sliceB P T E (Enc.sz α) by_ = true) (hlo : lo ≤ n) {U : TypeId} {bs : Array Bool} {K' : Value → World → Prop}
    (k : ∀ w', Rel B w' (σ.set i (rowD E (.slice (some ⟨g, 0, none⟩) lo cap) (l.take lo))) → K' (.slice (some ⟨g, 0, none⟩) lo cap) w') :
    upK P (sBlt .clear #[T] U bs #[cutV (Enc.sz α) (.slice (some ⟨g, 0, none⟩) n cap) lo n]) w fun _ w' => pureK P (sSlice T (.slice (some ⟨g, 0, none⟩) n cap) none (some (.int .i64 lo)) none) fun v' => K' v' w' := by
  obtain ⟨c, h⟩ := h
  obtain ⟨rfl, cur, hb, h1, hm, h3, h4⟩ := (rowD.own (h.own i _ hi)).inv
  have hle : l.length * Enc.sz α ≤ cap * Enc.sz α := Nat.mul_le_mul_right _ h1
  have hlm : lo * Enc.sz α ≤ l.length * Enc.sz α := Nat.mul_le_mul_right _ hlo
  have fin : ∀ w' (cur' : Array Value), Step (only (i + 1)) c w c w' → Blk c (i + 1) w' g E cur' → cur'.size = cur.size → cur'.toList.take (lo * Enc.sz α) = cur.toList.take (lo * Enc.sz α) →
      pureK P (sSlice T (.slice (some ⟨g, 0, none⟩) l.length cap) none (some (.int .i64 lo)) none) fun v' => K' v' w' := by
    intro w' cur' st hb' hs ht
    rw [pureK_eq fun w => slice_run (lo := 0) (hi := lo) hT Bnd.none Bnd.some (Nat.zero_le _) (by omega) w]
    have e : (if cap = 0 then (some (⟨g, 0, none⟩ : Addr)) else (some (⟨g, 0, none⟩ : Addr)).map (·.add (0 * Enc.sz α))) = some ⟨g, 0, none⟩ := by simp [addr_add]
    rw [e, Nat.sub_zero, Nat.sub_zero]
    refine k w' ⟨c, h.step hi st (RowO.rowD (RowO.mk_ hb' (by simp; omega) (by omega) hm (by rw [hs, h3]) ?_))⟩
    rw [ht, ← flat_take, ← h4, List.take_take, Nat.min_eq_left hlm]
  obtain ⟨hu, _⟩ := sliceB_spec hT
  show upK P (sBlt .clear #[T] U bs #[.slice (if cap = lo then some ⟨g, 0, none⟩ else (some (⟨g, 0, none⟩ : Addr)).map (·.add (lo * Enc.sz α))) (l.length - lo) (cap - lo)]) w _
  by_cases hc : cap = lo
  · have hn : l.length - lo = 0 := by omega
    rw [if_pos hc, hn]
    refine upK_of (v := .tuple #[]) (w' := w) (vN_run ?_) (fin w cur (Step.refl _ c w) hb rfl rfl)
    simp [Builtin.clear_, run_underlying hu]
  · rw [if_neg hc]
    simp only [Option.map_some, addr_add, Nat.zero_add]
    exact clear_own (α := α) hT hb (by rw [h3, ← Nat.add_mul]; exact Nat.mul_le_mul_right _ (by omega)) fun w' cur' st hb' hs ht => fin w' cur' st hb' hs ht
end

/-! ### Strings -/
section
variable {P : Program} {Kp : Value → Prop} {T : TypeId} {xo yo : Operand} {a b : ByteArray}
theorem str_add (h : a.size + b.size ≤ 9223372036854775807) : pureK P (sBin .add T xo yo (.string a) (.string b)) Kp = Kp (.string (a ++ b)) := pureK_eq fun w => by
  have : (Op.stringOp .add a b : Sem Value) = pure (.string (a ++ b)) := by
    simp only [Op.stringOp]
    rw [if_neg (by have : IntKind.i64.max = 9223372036854775807 := by decide +kernel
                   omega)]
  show (vN (Op.stringOp .add a b)).run P w = _
  rw [this]
  rfl
theorem str_lss : pureK P (sBin .lss T xo yo (.string a) (.string b)) Kp = Kp (.bool (Op.bytesLess a.toList b.toList)) := pureK_eq fun w => rfl
theorem str_leq : pureK P (sBin .leq T xo yo (.string a) (.string b)) Kp = Kp (.bool (Op.bytesLess a.toList b.toList || (a.toList == b.toList))) := pureK_eq fun w => rfl
theorem str_gtr : pureK P (sBin .gtr T xo yo (.string a) (.string b)) Kp = Kp (.bool (!(Op.bytesLess a.toList b.toList || (a.toList == b.toList)))) := pureK_eq fun w => rfl
theorem str_geq : pureK P (sBin .geq T xo yo (.string a) (.string b)) Kp = Kp (.bool (!Op.bytesLess a.toList b.toList)) := pureK_eq fun w => rfl
end

/-! ### Results that are variables -/
theorem rv_ag {P : Program} {Kp : Value → Prop} {B : Base} {w : World} {σ : List Dat} {T E : TypeId} {n b : Nat} {cs : Array Value} (h : Rel B w σ) (i : Nat) (hi : σ[i]? = some (cellD b E cs)) (ht : agB P T n = true) (hn : cs.size = n) :
    readV P (do loadVar T (← asAddr (.pointer (some ⟨b, 0, none⟩)))) w Kp = Kp (.agg cs) := by
  have hr : (loadVar T ⟨b, 0, none⟩).run P w = .ok (.agg cs) w := by
    have h1 := h.isAg i hi ht hn
    unfold Is sLoad vN Instr.loadAt Instr.sureAddr at h1
    simp only [pure_bind] at h1
    rw [Sem.run_bind] at h1
    cases hl : (loadVar T ⟨b, 0, none⟩).run P w with
    | ok v w' =>
      rw [hl] at h1
      have h1 : Result.ok (Next.value v) w' = .ok (.value (.agg cs)) w := h1
      injection h1 with h1 h2
      injection h1 with h1
      rw [h1, h2]
    | halt x w' => rw [hl] at h1; cases h1
  refine propext ⟨fun ⟨v, h1, h2⟩ => ?_, fun h2 => ⟨_, hr, h2⟩⟩
  have h1 : (loadVar T ⟨b, 0, none⟩).run P w = .ok v w := h1
  rw [hr] at h1
  injection h1 with h1
  exact h1 ▸ h2

/-! ### Many things -/
theorem get_last {σ : List Dat} {d : Dat} : (σ ++ [d])[σ.length]? = some d := by rw [List.getElem?_append_right (Nat.le_refl _)]; simp

/-- Things in the middle are given up. -/
theorem Rel.mid {B : Base} {w : World} {σ ρ τ : List Dat} (h : Rel B w (σ ++ ρ ++ τ)) : Rel B w (σ ++ τ) := by
  obtain ⟨c, h⟩ := h
  refine ⟨fun k => if c k ≤ σ.length then c k else if c k ≤ σ.length + ρ.length then 0 else c k - ρ.length, h.os, h.tape, h.output, h.size, fun k hk hs => ?_, h.same, fun j d hj => ?_⟩
  · have := h.keepc k hk hs
    simp only [this]
    rfl
  · by_cases hl : j < σ.length
    · rw [List.getElem?_append_left hl] at hj
      refine d.wide (fun k hk hs => ?_) (h.own j d (by rw [List.append_assoc, List.getElem?_append_left hl]; exact hj))
      have hk : c k = j + 1 := hk
      show (if c k ≤ σ.length then c k else _) = _
      rw [if_pos (by omega)]
      exact hk
    · rw [List.getElem?_append_right (by omega)] at hj
      refine d.wide (fun k hk hs => ?_) (h.own (j + ρ.length) d (by rw [List.getElem?_append_right (by simp; omega)]; simp; rw [show j + ρ.length - (σ.length + ρ.length) = j - σ.length by omega]; exact hj))
      have hk : c k = j + ρ.length + 1 := hk
      show (if c k ≤ σ.length then c k else if c k ≤ σ.length + ρ.length then 0 else c k - ρ.length) = _
      rw [if_neg (by omega), if_neg (by omega)]
      omega

def Dat.all {α : Type} (L : List α) (f : α → Dat) : Dat := ⟨fun B => ∀ x ∈ L, f x B, fun hl h x hx => (f x).mono hl (h x hx)⟩
/-- The last things are seen as one. -/
theorem Rel.gather {B : Base} {w : World} {σ : List Dat} {α : Type} {L : List α} {f g : α → Dat} (h : Rel B w (σ ++ L.map f)) (hfg : ∀ x ∈ L, ∀ B, f x B → g x B) : Rel B w (σ ++ [Dat.all L g]) := by
  obtain ⟨c, h⟩ := h
  refine ⟨fun k => if c k ≤ σ.length then c k else σ.length + 1, h.os, h.tape, h.output, h.size, fun k hk hs => ?_, h.same, fun j d hj => ?_⟩
  · have := h.keepc k hk hs
    simp only [this]
    rfl
  · rcases Nat.lt_trichotomy j σ.length with hl | hl | hl
    · rw [List.getElem?_append_left hl] at hj
      refine d.wide (fun k hk hs => ?_) (h.own j d (by rw [List.getElem?_append_left hl]; exact hj))
      have hk : c k = j + 1 := hk
      show (if c k ≤ σ.length then c k else _) = _
      rw [if_pos (by omega)]
      exact hk
    · subst hl
      rw [List.getElem?_append_right (Nat.le_refl _)] at hj
      simp at hj
      subst hj
      intro x hx
      obtain ⟨m, hm, rfl⟩ := List.getElem_of_mem hx
      refine Dat.wide _ (fun k hk hs => ?_) (hfg _ hx _ (h.own (σ.length + m) (f L[m]) (by rw [List.getElem?_append_right (by omega)]; simp [hm])))
      have hk : c k = σ.length + m + 1 := hk
      show (if c k ≤ σ.length then c k else _) = _
      rw [if_neg (by omega)]
    · rw [List.getElem?_eq_none (by simp; omega)] at hj; cases hj
theorem Dat.all_append {α : Type} {L M : List α} {f : α → Dat} {B : Base} (h1 : (Dat.all L f) B) (h2 : (Dat.all M f) B) : (Dat.all (L ++ M) f) B := fun x hx => (List.mem_append.1 hx).elim (h1 x) (h2 x)

/-- The first index that is asked for; -1, if there is none. -/
def idxP {α : Type} (p : α → Bool) (l : List α) : Int := match l.findIdx? p with
  | some i => i
  | none => -1
theorem idxP_take {α : Type} {p : α → Bool} {l : List α} {i : Nat} (hi : i < l.length) (hno : ∀ x ∈ l.take i, p x = false) (h : p l[i] = true) : idxP p l = i := by
  unfold idxP
  have : l.findIdx? p = some i := by
    rw [List.findIdx?_eq_some_iff_getElem]
    refine ⟨hi, h, fun j hj => ?_⟩
    have := hno l[j] (List.mem_take_iff_getElem.2 ⟨j, by omega, rfl⟩)
    simp [this]
  rw [this]
theorem idxP_none {α : Type} {p : α → Bool} {l : List α} (hno : ∀ x ∈ l, p x = false) : idxP p l = -1 := by
  unfold idxP
  have : l.findIdx? p = none := List.findIdx?_eq_none_iff.2 hno
  rw [this]
theorem idxP_lt {α : Type} {p : α → Bool} {l : List α} : (idxP p l < 0 ↔ ∀ x ∈ l, p x = false) ∧ idxP p l < l.length + 1 := by
  unfold idxP
  split
  · rename_i i h
    obtain ⟨hi, hp, _⟩ := List.findIdx?_eq_some_iff_getElem.1 h
    refine ⟨⟨fun h => by omega, fun h => ?_⟩, by omega⟩
    rw [h _ (List.getElem_mem hi)] at hp
    cases hp
  · rename_i h
    exact ⟨⟨fun _ => List.findIdx?_eq_none_iff.1 h, fun _ => by omega⟩, by omega⟩
end Go.Proofs.YtefinemhfgdpdaaGreatDoor
/-
  More of the separation logic: a whole struct stored, lists that ascend. No condition.
-/
namespace Go.Proofs.YtefinemhfgdpdaaGreatDoor
open Go.RowKit

section
variable {P : Program} {K : Value → World → Prop} {B : Base} {w : World} {σ : List Dat} {E : TypeId}
/-- A whole struct is stored into a variable of one's own. -/
theorem Rel.stAll (h : Rel B w σ) (i : Nat) {n b : Nat} {cs ds : Array Value} {T' : TypeId} (hi : σ[i]? = some (cellD b E cs)) (ht : agB P T' n = true) (hn : ds.size = n) (hc : cs.size = n) (h1 : ∀ v ∈ ds.toList, v.oneCell' = true)
    (k : ∀ w', Rel B w' (σ.set i (cellD b E ds)) → K undef w') : upK P (sStore T' (.pointer (some ⟨b, 0, none⟩)) (.agg ds)) w K := by
  refine h.stAg i hi ht hn (by omega) h1 fun w' h => k w' ?_
  simp only [List.take_zero, List.nil_append, Nat.zero_add] at h
  rw [List.drop_of_length_le (by simp; omega), List.append_nil, Array.toArray_toList] at h
  exact h
end

/-- Things that lie apart from each other, as one thing. -/
def stars : List Dat → Dat
  | [] => emp
  | d :: l => d.star (stars l)
section
variable {B : Base} {w : World}
theorem Rel.addEmp {σ : List Dat} (h : Rel B w σ) : Rel B w (σ ++ [emp]) := by
  obtain ⟨c, h⟩ := h
  exact ⟨c, h.push (Step.refl _ c w) trivial⟩
theorem Rel.unstars {L : List Dat} : ∀ {σ : List Dat}, Rel B w (σ ++ [stars L]) → Rel B w (σ ++ L) := by
  induction L with
  | nil => intro σ h; rw [List.append_nil]; exact h.drop
  | cons a L ih =>
    intro σ h
    have h := h.split (i := σ.length) (a := a) (b := stars L) get_last
    rw [List.set_append_right _ _ (Nat.le_refl _), Nat.sub_self, List.set_cons_zero] at h
    have := ih h
    rw [List.append_assoc] at this
    exact this
theorem Rel.restars {L : List Dat} : ∀ {σ : List Dat}, Rel B w (σ ++ L) → Rel B w (σ ++ [stars L]) := by
  induction L with
  | nil => intro σ h; rw [List.append_nil] at h; exact h.addEmp
  | cons a L ih =>
    intro σ h
    have h : Rel B w ((σ ++ [a]) ++ L) := by rw [List.append_assoc]; exact h
    have h := (ih h).fuse σ.length (a := a) get_last
    rw [List.set_append_right _ _ (Nat.le_refl _), Nat.sub_self, List.set_cons_zero] at h
    exact h
end

/-- Two lists that ascend and have the same members are equal. -/
theorem strict_ext : ∀ {a b : List Int}, a.Pairwise (· < ·) → b.Pairwise (· < ·) → (∀ x, x ∈ a ↔ x ∈ b) → a = b
  | [], [], _, _, _ => rfl
  | [], y :: b, _, _, h => by have := (h y).2 List.mem_cons_self; cases this
  | x :: a, [], _, _, h => by have := (h x).1 List.mem_cons_self; cases this
  | x :: a, y :: b, ha, hb, h => by
    rw [List.pairwise_cons] at ha hb
    have e : x = y := by
      rcases List.mem_cons.1 ((h x).1 List.mem_cons_self) with e | e
      · exact e
      · rcases List.mem_cons.1 ((h y).2 List.mem_cons_self) with e2 | e2
        · exact e2.symm
        · have := ha.1 y e2
          have := hb.1 x e
          omega
    subst e
    rw [strict_ext ha.2 hb.2 fun z => ⟨fun hz => ?_, fun hz => ?_⟩]
    · rcases List.mem_cons.1 ((h z).1 (List.mem_cons_of_mem _ hz)) with e | e
      · have := ha.1 z hz; omega
      · exact e
    · rcases List.mem_cons.1 ((h z).2 (List.mem_cons_of_mem _ hz)) with e | e
      · have := hb.1 z hz; omega
      · exact e
end Go.Proofs.YtefinemhfgdpdaaGreatDoor
/-
  make and append where the capacity matters. No condition.
-/
namespace Go.Proofs.YtefinemhfgdpdaaGreatDoor
open Go.RowKit

section
variable {α : Type} [Enc α] {P : Program} {K : Value → World → Prop} {w : World} {T E : TypeId} {by_ : Nat} {c : Nat → Nat} {t u : Nat}
theorem mk_sliceV {m n : Nat} (x : α) (hT : sliceB P T E (Enc.sz α) by_ = true) (hx : ((P.info? E).bind (·.zero)).map (·.cells) = some (Enc.cells x).toArray) (hmn : m ≤ n) (hn : n * by_ ≤ 140737488355328) (hn1 : n ≤ 140737488355328)
    (k : ∀ c' g w', Step nobody c w c' w' → RowO c' t w' E (.slice (some ⟨g, 0, none⟩) m n) (List.replicate m x) → K (.slice (some ⟨g, 0, none⟩) m n) w') : upK P (sMkSlice T (.int .i64 m) (.int .i64 n)) w K := by
  obtain ⟨hu, i, z, hinfo, hz, hs, hby, hzs⟩ := sliceB_spec hT
  have hzc : z.cells = (Enc.cells x).toArray := by simpa [hinfo, hz] using hx
  have hw : IntKind.wrap .i64 (n : Int) = n := IntWalk.i64_in _ (by omega)
  have hwm : IntKind.wrap .i64 (m : Int) = m := IntWalk.i64_in _ (by omega)
  have h1 : ¬ ((n : Int) < 0) := by omega
  have h1m : ¬ ((m : Int) < 0) := by omega
  have hmn' : ¬ ((n : Int) < (m : Int)) := by omega
  have hm : by_ * n ≤ 140737488355328 := by rw [Nat.mul_comm]; exact hn
  have hmm : by_ * m ≤ 140737488355328 := Nat.le_trans (Nat.mul_le_mul_left _ hmn) hm
  have h2 : ¬ ((281474976710656 : Int) < (by_ : Int) * (n : Int)) := by
    have : ((by_ * n : Nat) : Int) ≤ 140737488355328 := by omega
    rw [Int.natCast_mul] at this
    omega
  have h2m : ¬ ((281474976710656 : Int) < (by_ : Int) * (m : Int)) := by
    have : ((by_ * m : Nat) : Int) ≤ 140737488355328 := by omega
    rw [Int.natCast_mul] at this
    omega
  have h3 : ¬ (140737488355328 < n * by_) := by omega
  have hcells : ∀ z0 : Array Value, (n = 0 → z0 = #[]) → (n ≠ 0 → z0 = z.cells) → ((Array.range (n * Enc.sz α)).map (z0[· % z0.size]!)).toList = flat (List.replicate n x) := by
    intro z0 _ hz1
    by_cases hn0 : n = 0
    · subst hn0; simp [flat]
    · rw [hz1 hn0]
      apply List.ext_getElem?
      intro j
      by_cases hj : j < n * Enc.sz α
      · have hp : 0 < Enc.sz α := Enc.pos
        have hq : j / Enc.sz α < n := Nat.div_lt_of_lt_mul (by rw [Nat.mul_comm]; exact hj)
        have hr : j % Enc.sz α < Enc.sz α := Nat.mod_lt _ hp
        have := flat_get (l := List.replicate n x) (i := j / Enc.sz α) (by simpa using hq) (f := j % Enc.sz α) (v := (Enc.cells x)[j % Enc.sz α]'(by rw [Enc.len]; exact hr)) (by simp)
        rw [Nat.mul_comm (j / Enc.sz α), Nat.div_add_mod] at this
        rw [this]
        simp [hj, hzs, hzc, Enc.len]
        rw [List.getElem?_eq_getElem (by rw [Enc.len]; exact hr)]
        rfl
      · rw [List.getElem?_eq_none (by simp; omega), List.getElem?_eq_none (by rw [flat_length]; simp; omega)]
  have hrun : ∃ cur : Array Value, cur.toList = flat (List.replicate n x) ∧ (Instr.makeSlice T (.int .i64 m) (.int .i64 n)).run P w = .ok (.slice (some ⟨w.heap.size, 0, none⟩) m n) (w.alloc (.cells cur E)) := by
    by_cases hn0 : n = 0
    · subst hn0
      obtain rfl : m = 0 := by omega
      refine ⟨_, hcells #[] (fun _ => rfl) (fun h => absurd rfl h), ?_⟩
      simp [Instr.makeSlice, run_underlying hu, asInt, asIntOf, typeInfo, hinfo, hby, show IntKind.wrap .i64 0 = 0 from rfl, askRoom, roomBytes, sizeOf, hs, newRow]
    · refine ⟨_, hcells z.cells (fun h => absurd h hn0) (fun _ => rfl), ?_⟩
      simp [Instr.makeSlice, run_underlying hu, asInt, asIntOf, typeInfo, hinfo, hby, hw, hwm, h1, h1m, h2, h2m, h3, hmn', hmn, askRoom, roomBytes, sizeOf, hs, newRow, hn0, zeroValue, hz, Nat.ne_of_gt (Enc.pos (α := α))]
      intro h
      rcases Nat.mul_eq_zero.1 h with h | h
      · exact absurd h hn0
      · exact absurd h (Nat.ne_of_gt Enc.pos)
  obtain ⟨cur, hc, hrun⟩ := hrun
  have hb := Blk.alloc (n := t) c w E cur
  have hcs : cur.size = n * Enc.sz α := by rw [← Array.length_toList, hc, flat_length]; simp
  refine upK_of (vN_run hrun) (k (paint c w.heap.size t) _ _ (Step.alloc nobody c w t _) (RowO.mk_ hb (by simp) hmn (by unfold maxLen; omega) hcs ?_))
  rw [hc, flat_take, List.take_replicate, Nat.min_eq_left hmn]
end
section
variable {α : Type} [Enc α] {P : Program} {K : Value → World → Prop} {B : Base} {w : World} {σ : List Dat} {T E : TypeId} {by_ : Nat} {l : List α} {v : Value}
/-- 'make([]T, n)': its capacity is n. -/
theorem Rel.mkSliceV (h : Rel B w σ) {n : Nat} (x : α) (hT : sliceB P T E (Enc.sz α) by_ = true) (hx : ((P.info? E).bind (·.zero)).map (·.cells) = some (Enc.cells x).toArray) (hn : n * by_ ≤ 140737488355328) (hn1 : n ≤ 140737488355328)
    (k : ∀ g w', Rel B w' (σ ++ [rowD E (.slice (some ⟨g, 0, none⟩) n n) (List.replicate n x)]) → K (.slice (some ⟨g, 0, none⟩) n n) w') : upK P (sMkSlice T (.int .i64 n) (.int .i64 n)) w K := by
  obtain ⟨c, h⟩ := h
  exact mk_sliceV (c := c) (t := σ.length + 1) x hT hx (Nat.le_refl _) hn hn1 fun c' g w' st hr => k g w' ⟨c', h.push st hr.rowD⟩
end
section
variable {α : Type} [Enc α] {P : Program} {K : Value → World → Prop} {w : World} {T E : TypeId} {by_ : Nat} {c : Nat → Nat} {t u : Nat}
theorem zeroCells_flat (x : α) (n : Nat) : (Builtin.zeroCells (Enc.cells x).toArray n).toList = flat (List.replicate n x) := by
  unfold Builtin.zeroCells
  apply List.ext_getElem?
  intro j
  have hl : (Enc.cells x).toArray.size = Enc.sz α := by simp [Enc.len]
  by_cases hj : j < n * Enc.sz α
  · have hp : 0 < Enc.sz α := Enc.pos
    have hq : j / Enc.sz α < n := Nat.div_lt_of_lt_mul (by rw [Nat.mul_comm]; exact hj)
    have hr : j % Enc.sz α < Enc.sz α := Nat.mod_lt _ hp
    have := flat_get (l := List.replicate n x) (i := j / Enc.sz α) (by simpa using hq) (f := j % Enc.sz α) (v := (Enc.cells x)[j % Enc.sz α]'(by rw [Enc.len]; exact hr)) (by simp)
    rw [Nat.mul_comm (j / Enc.sz α), Nat.div_add_mod] at this
    rw [this]
    simp [hj, Enc.len]
    try (rw [List.getElem?_eq_getElem (by rw [Enc.len]; exact hr)]; rfl)
  · rw [List.getElem?_eq_none (by simp [Enc.len]; omega), List.getElem?_eq_none (by rw [flat_length]; simp; omega)]
/-- 'append(s, make([]T, m)...)' where there is no room. -/
theorem append_zeros {v : Value} {l : List α} {Tn : TypeId} (hT : sliceB P T E (Enc.sz α) by_ = true) (hTn : P.underlying Tn = some (.int .i64)) {a : Option Addr} {cap : Nat} (hv : v = .slice a l.length cap) (h1 : RowR c u w v l) (x : α)
    (hx : ((P.info? E).bind (·.zero)).map (·.cells) = some (Enc.cells x).toArray) {m : Nat} (h0 : 0 < m) (hcap : cap < l.length + m)
    (hbytes : (l.length + m) * by_ ≤ 140737488355328) (h63 : l.length + m ≤ 140737488355328) {U : TypeId} {bs : Array Bool}
    (k : ∀ c' g cp w', l.length + m ≤ cp → Step nobody c w c' w' → RowO c' t w' E (.slice (some ⟨g, 0, none⟩) (l.length + m) cp) (l ++ List.replicate m x) → K (.slice (some ⟨g, 0, none⟩) (l.length + m) cp) w') : upK P (sBlt .append #[T, Tn] U bs #[v, .int .i64 m]) w K := by
  obtain ⟨hu, i, z, hinfo, hz, hs, hby, hzs⟩ := sliceB_spec hT
  have hzc : z.cells = (Enc.cells x).toArray := by simpa [hinfo, hz] using hx
  subst hv
  have hn : ¬ (l.length + m ≤ cap) := by omega
  have hm0 : m ≠ 0 := by omega
  have h63' : ¬ (9223372036854775807 < ((l.length : Int) + (m : Int))) := by omega
  have h48 : Builtin.nextslicecap (l.length + m) cap * by_ ≤ 281474976710656 := growslice_fits (by omega) hbytes
  have h48' : ¬ (281474976710656 < Builtin.nextslicecap (l.length + m) cap * by_) := by omega
  have hge := grownCap_ge w (l.length + m) cap E
  have hmx := grownCap_le_maxLen w (l.length + m) cap E (by unfold maxLen; omega)
  have hw : IntKind.i64.wrap (m : Int) = m := IntWalk.i64_in _ (by omega)
  have hneg : ¬ ((m : Int) < 0) := by omega
  have hmb : m * by_ ≤ 140737488355328 := Nat.le_trans (Nat.mul_le_mul_right _ (by omega)) hbytes
  have h48i : ¬ (281474976710656 < (m : Int) * (by_ : Int)) := by
    rw [← Int.natCast_mul]
    omega
  have hrun : (Builtin.append_ #[T, Tn] U #[.slice a l.length cap, .int .i64 m]).run P w =
      .ok (.slice (some ⟨w.heap.size, 0, none⟩) (l.length + m) (grownCap w (l.length + m) cap E))
        (w.drew.alloc (.cells ((flat l).toArray ++ Builtin.zeroCells z.cells m ++ Builtin.zeroCells z.cells (grownCap w (l.length + m) cap E - (l.length + m))) E)) := by
    have f1 := (h1.tick).first (P := P)
    rw [tick_eq] at f1
    simp [Builtin.append_, run_underlying hu, run_underlying hTn, sizeOf, typeInfo, zeroValue, hinfo, hz, hs, asInt, asIntOf, hw, hm0, hneg, hn, h63', hby, h48', h48i, f1, grownCap, Question.forced, newRow]
    intro hz0
    exact absurd hz0 (Nat.mul_ne_zero hm0 (Nat.ne_of_gt Enc.pos))
  refine upK_of (vN_run hrun) (k (paint c w.heap.size t) _ _ _ hge ?_ ?_)
  · exact (Step.tick nobody c w).trans (Step.alloc nobody c w.drew t _)
  · have hl : (l ++ List.replicate m x).length = l.length + m := by simp
    refine ⟨⟨by rw [flat_length], .inr ⟨w.heap.size, _, _, by rw [hl], Nat.zero_le _, heap_alloc_new w.drew _, by rw [hl]; exact hge, hmx, ?_, ?_⟩⟩, fun g hg => ?_⟩
    · simp only [Array.size_append, List.size_toArray, size_zeroCells, hzs, flat_length, ← Nat.add_mul]
      congr 1
      omega
    · simp only [Array.toList_append, List.append_assoc]
      rw [hzc, zeroCells_flat, ← List.append_assoc, ← flat_append]
      rw [← flat_length]
      exact List.take_left
    · simp [Value.ownBlock] at hg
      subst hg
      simp [paint]
end
section
variable {α : Type} [Enc α] {P : Program} {K : Value → World → Prop} {Kp : Value → Prop} {B : Base} {w : World} {σ : List Dat} {T E : TypeId} {by_ : Nat} {l : List α} {v : Value}
theorem cap_slice {U S E : TypeId} {bs : Array Bool} {x : Option Addr} {n c : Nat} (h : P.underlying S = some (.slice E)) :
    readK P (sBlt .cap #[S] U bs #[.slice x n c]) w Kp = Kp (.int .i64 c) := readK_eq (vN_run (by
  simp [Builtin.cap_, run_underlying h, goInt]))
theorem Rel.appendZeros (h : Rel B w σ) {Tn : TypeId} (hT : sliceB P T E (Enc.sz α) by_ = true) (hTn : P.underlying Tn = some (.int .i64)) {a : Option Addr} {cap : Nat} (hv : v = .slice a l.length cap) (r : Rd B σ [] v l) (x : α)
    (hx : ((P.info? E).bind (·.zero)).map (·.cells) = some (Enc.cells x).toArray) {m : Nat} (h0 : 0 < m) (hcap : cap < l.length + m)
    (hbytes : (l.length + m) * by_ ≤ 140737488355328) (h63 : l.length + m ≤ 140737488355328) {U : TypeId} {bs : Array Bool}
    (k : ∀ g cp w', l.length + m ≤ cp → Rel B w' (σ ++ [rowD E (.slice (some ⟨g, 0, none⟩) (l.length + m) cp) (l ++ List.replicate m x)]) → K (.slice (some ⟨g, 0, none⟩) (l.length + m) cp) w') : upK P (sBlt .append #[T, Tn] U bs #[v, .int .i64 m]) w K := by
  obtain ⟨c, h⟩ := h
  obtain ⟨u1, r1⟩ := h.rds r
  exact append_zeros (c := c) (t := σ.length + 1) hT hTn hv r1 x hx h0 hcap hbytes h63 fun c' g cp w' hc st hr => k g cp w' hc ⟨c', h.push st hr.rowD⟩
end
end Go.Proofs.YtefinemhfgdpdaaGreatDoor
/-
  Strings and rows of bytes: parts of strings, their bytes, copies of strings into rows, conversions. No condition.
-/
namespace Go.Proofs.YtefinemhfgdpdaaGreatDoor
open Go.RowKit

instance : Enc UInt8 where
  sz := 1
  cells x := [.int .u8 x.toNat]
  val x := .int .u8 x.toNat
  pos := by omega
  len _ := rfl
  one _ v hv := by
    simp only [List.mem_cons, List.not_mem_nil, or_false] at hv
    rcases hv with rfl
    rfl
  cells_val _ := rfl

/-- The bytes of a string. -/
abbrev bl (s : ByteArray) : List UInt8 := s.data.toList
abbrev ofL (l : List UInt8) : ByteArray := ⟨l.toArray⟩
theorem bl_ofL (l : List UInt8) : bl (ofL l) = l := rfl
theorem ofL_bl (s : ByteArray) : ofL (bl s) = s := by
  obtain ⟨⟨l⟩⟩ := s
  rfl
theorem bl_length (s : ByteArray) : (bl s).length = s.size := by
  obtain ⟨⟨l⟩⟩ := s
  rfl
theorem bl_inj {s t : ByteArray} (h : bl s = bl t) : s = t := by rw [← ofL_bl s, h, ofL_bl]
theorem ofL_size (l : List UInt8) : (ofL l).size = l.length := rfl
theorem extract_bl (s : ByteArray) (lo hi : Nat) : s.extract lo hi = ofL (((bl s).take hi).drop lo) := by
  apply bl_inj
  show (s.extract lo hi).data.toList = ((bl s).take hi).drop lo
  rw [ByteArray.data_extract, Array.toList_extract, List.extract_eq_take_drop]
  rw [List.drop_take]

section
variable {P : Program} {Kp : Value → Prop} {T : TypeId} {s : ByteArray} {w : World}
/-- 's[lo:hi]' of a string. -/
theorem str_cut {lo hi : Nat} {lov hiv : Option Value} (hT : P.underlying T = some .string) (hlo : Bnd lov 0 lo) (hhi : Bnd hiv s.size hi) (h1 : lo ≤ hi) (h2 : hi ≤ s.size) :
    pureK P (sSlice T (.string s) lov hiv none) Kp = Kp (.string (ofL (((bl s).take hi).drop lo))) := pureK_eq fun w => by
  rw [← extract_bl]
  refine vN_run ?_
  rcases hlo with ⟨rfl, rfl⟩ | rfl <;> rcases hhi with ⟨rfl, rfl⟩ | rfl <;>
    simp [Instr.sliceAt, Instr.slice, run_underlying hT, Instr.sliceBounds, Instr.sliceBound, asIntOf, h1, h2]
/-- 's[i]' of a string. -/
theorem str_idx {i : Nat} (hT : P.underlying T = some .string) (hi : i < s.size) : pureK P (sIdx T (.string s) (.int .i64 i)) Kp = Kp (.int .u8 ((bl s)[i]'(by rw [bl_length]; exact hi)).toNat) := pureK_eq fun w => by
  refine vN_run ?_
  have h0 : (0 : Int) ≤ i := by omega
  have hg : s[i]? = some ((bl s)[i]'(by rw [bl_length]; exact hi)) := by
    rw [getElem?_pos s i hi]
    congr 1
  simp [Instr.index, asIntOf, run_underlying hT, hg]
theorem str_len {U : TypeId} {bs : Array Bool} (hT : P.underlying T = some .string) : readK P (sBlt .len #[T] U bs #[.string s]) w Kp = Kp (.int .i64 (bl s).length) := by
  rw [len_string hT, bl_length]
end

/-! ### Copies of strings -/
section
variable {P : Program} {K : Value → World → Prop} {w : World} {T E : TypeId} {by_ : Nat} {c : Nat → Nat} {t : Nat}
theorem copy_str {g n cap lo : Nat} {l : List UInt8} {s : ByteArray} {T2 : TypeId} {a : Option Addr} {dc : Nat} (hT : sliceB P T E 1 by_ = true) (h : RowO c t w E (.slice (some ⟨g, 0, none⟩) n cap) l)
    (hlo : lo ≤ l.length) (ha : a = some ⟨g, lo * 1, none⟩ ∨ lo = l.length ∧ a = some ⟨g, 0, none⟩) {U : TypeId} {bs : Array Bool}
    (k : ∀ w', Step (only t) c w c w' → RowO c t w' E (.slice (some ⟨g, 0, none⟩) n cap) (l.take lo ++ (bl s).take (l.length - lo) ++ l.drop (lo + ((bl s).take (l.length - lo)).length)) → K (.int .i64 ((bl s).take (l.length - lo)).length) w') :
    upK P (sBlt .copy #[T, T2] U bs #[.slice a (n - lo) dc, .string s]) w K := by
  obtain ⟨hu, i, z, hinfo, hz, hs, hby, hzs⟩ := sliceB_spec hT
  obtain ⟨rfl, cur, hb, h1', hm, h3, h4⟩ := h.inv
  have h3 : cur.size = cap := by rw [h3]; exact Nat.mul_one cap
  have h4 : cur.toList.take l.length = flat l := by rw [← h4]; congr 1; exact (Nat.mul_one _).symm
  have hlen : ((bl s).take (l.length - lo)).length = Nat.min s.size (l.length - lo) := by rw [List.length_take, bl_length]; exact Nat.min_comm _ _
  have hf : (Builtin.firstCells 1 (Nat.min s.size (l.length - lo)) (.string s)).run P w = .ok (flat ((bl s).take (l.length - lo))).toArray w := by
    unfold Builtin.firstCells
    rw [Sem.run_pure]
    congr 1
    apply Array.ext'
    rw [extract_bl, Array.toList_map]
    have e : ∀ l : List UInt8, flat l = l.map fun b => Value.int .u8 (b.toNat : Int) := by
      intro l
      induction l with
      | nil => rfl
      | cons a l ih => rw [flat_cons, ih]; rfl
    rw [e]
    show List.map _ ((((bl s).take (Nat.min s.size (l.length - lo))).drop 0)) = _
    rw [List.drop_zero]
    congr 1
    have : Nat.min s.size (l.length - lo) = min (l.length - lo) (bl s).length := by rw [bl_length]; exact Nat.min_comm _ _
    rw [this, ← List.take_take, List.take_length]
  have hll : ((bl s).take (l.length - lo)).length ≤ l.length - lo := List.length_take_le _ _
  have hfl : (flat ((bl s).take (l.length - lo))).length = ((bl s).take (l.length - lo)).length := by rw [flat_length]; exact Nat.mul_one _
  rcases ha with rfl | ⟨rfl, rfl⟩
  · have hst := run_storeCells_at P g (lo * 1) E (flat ((bl s).take (l.length - lo))) 0 cur w hb.2 (by rw [hfl]; omega) (flat_one _)
    simp only [Nat.add_zero, Nat.mul_one] at hst ⊢
    rw [hfl] at hst
    refine upK_of (v := .int .i64 ((bl s).take (l.length - lo)).length) (vN_run ?_) (k _ (hb.stepRow (cur.toList.take lo ++ flat ((bl s).take (l.length - lo)) ++ cur.toList.drop (lo + ((bl s).take (l.length - lo)).length)).toArray) (RowO.mk_ (hb.setRow _) (by simp; omega) h1' hm ?_ ?_))
    · rw [hlen] at hst ⊢
      simp [Builtin.copy_, run_underlying hu, sizeOf, typeInfo, hinfo, hs, Builtin.lenOf, hf, hst, goInt]
    · show _ = cap * 1
      simp only [List.size_toArray, List.length_append, List.length_take, List.length_drop, Array.length_toList, hfl]
      rw [List.length_take] at hll
      omega
    · show List.take (l.length * 1) _ = _
      rw [Nat.mul_one]
      have e := take_splice cur.toList (flat ((bl s).take (l.length - lo))) lo l.length (by rw [hfl]; omega) (by simp; omega)
      rw [hfl] at e
      refine e.trans ?_
      have ft : ∀ (k : Nat) (l : List UInt8), (flat l).take k = flat (l.take k) := fun k l => by rw [← flat_take]; congr 1; exact (Nat.mul_one k).symm
      have fd : ∀ (k : Nat) (l : List UInt8), (flat l).drop k = flat (l.drop k) := fun k l => by rw [← flat_drop]; congr 1; exact (Nat.mul_one k).symm
      rw [h4, ft, fd, flat_append, flat_append]
  · have hz0 : (bl s).take (l.length - l.length) = [] := by simp
    rw [hz0] at hf hlen
    refine upK_of (v := .int .i64 ((bl s).take (l.length - l.length)).length) (w' := w) (vN_run ?_) (k w (Step.refl _ c w) ?_)
    · rw [hz0]
      have hn : Nat.min s.size (l.length - l.length) = 0 := by rw [Nat.sub_self]; exact Nat.min_zero _
      rw [hn] at hf
      simp [Builtin.copy_, run_underlying hu, sizeOf, typeInfo, hinfo, hs, Builtin.lenOf, hf, goInt, storeCells, flat, show Nat.min s.size 0 = 0 from Nat.min_zero _]
    · have e2 : l.take l.length ++ (bl s).take (l.length - l.length) ++ l.drop (l.length + ((bl s).take (l.length - l.length)).length) = l := by rw [hz0]; simp
      rw [e2]
      exact h
theorem Rel.copyStr {B : Base} {σ : List Dat} (h : Rel B w σ) (i : Nat) {g n cap lo : Nat} {l : List UInt8} {s : ByteArray} {T2 : TypeId} {a : Option Addr} {dc : Nat} (hi : σ[i]? = some (rowD E (.slice (some ⟨g, 0, none⟩) n cap) l)) (hT : sliceB P T E 1 by_ = true)
    (hlo : lo ≤ l.length) (ha : a = some ⟨g, lo * 1, none⟩ ∨ lo = l.length ∧ a = some ⟨g, 0, none⟩) {U : TypeId} {bs : Array Bool}
    (k : ∀ w', Rel B w' (σ.set i (rowD E (.slice (some ⟨g, 0, none⟩) n cap) (l.take lo ++ (bl s).take (l.length - lo) ++ l.drop (lo + ((bl s).take (l.length - lo)).length)))) → K (.int .i64 ((bl s).take (l.length - lo)).length) w') :
    upK P (sBlt .copy #[T, T2] U bs #[.slice a (n - lo) dc, .string s]) w K := by
  obtain ⟨c, h⟩ := h
  exact copy_str hT (rowD.own (h.own i _ hi)) hlo ha fun w' st hr => k w' ⟨c, h.step hi st hr.rowD⟩
end

/-! ### Conversions -/
theorem foldl_bytes (l : List UInt8) : ∀ s : ByteArray, (l.map fun b => (b.toNat : Int)).foldl (fun r n => r.push (UInt8.ofNat n.toNat)) s = ofL (bl s ++ l) := by
  induction l with
  | nil => intro s; simp [ofL_bl]
  | cons a l ih =>
    intro s
    rw [List.map_cons, List.foldl_cons, ih]
    congr 1
    have : UInt8.ofNat (a.toNat : Int).toNat = a := by simp
    rw [this]
    simp [bl, ByteArray.push]
theorem flat_bytes (l : List UInt8) : flat l = (l.map fun b => (b.toNat : Int)).map (Value.int .u8) := by
  induction l with
  | nil => rfl
  | cons a l ih => rw [flat_cons, ih]; rfl
section
variable {P : Program} {K : Value → World → Prop} {B : Base} {w : World} {σ : List Dat} {S D E : TypeId}
/-- 'string(b)' -/
theorem conv_row {v : Value} {l : List UInt8} (hr : rowR v l ⟨w, fun _ => True⟩) (hS : P.underlying S = some (.slice E)) (hE : P.underlying E = some (.int .u8)) (hD : P.underlying D = some .string) : (sConv S D v).run P w = .ok (.value (.string (ofL l))) w := by
  obtain ⟨a, cap, rfl, hc, h⟩ := hr
  refine vN_run ?_
  rw [run_convert_bytes_string w S D E a _ cap hS hE hD]
  rcases h with rfl | ⟨g, o, rfl, h⟩
  · cases a with
    | none => simp [Conv.bytesToString]; rfl
    | some a =>
      show (Conv.bytesToString (.slice (some a) 0 cap)).run P w = _
      rw [run_bytesToString w a 0 cap [] (by simp [loadCells, loadCellsFrom])]
      rfl
  · have hl : (loadCells ⟨g, o, none⟩ l.length).run P w = .ok ((l.map fun b => (b.toNat : Int)).map (Value.int .u8)).toArray w := by
      have := run_loadCells_list (P := P) w ⟨g, o, none⟩ (flat l) fun j v hv => by rw [addr_add]; exact h.2.2 j v hv
      have e : (flat l).length = l.length := by rw [flat_length]; exact Nat.mul_one _
      rw [e, flat_bytes] at this
      exact this
    rw [run_bytesToString w _ l.length cap _ hl, foldl_bytes]
    rfl
theorem Rel.toStr (h : Rel B w σ) {v : Value} {l : List UInt8} (r : Rd B σ [] v l) (hS : P.underlying S = some (.slice E)) (hE : P.underlying E = some (.int .u8)) (hD : P.underlying D = some .string) (k : K (.string (ofL l)) w) : upK P (sConv S D v) w K :=
  upK_of (conv_row (h.rd r) hS hE hD) k
end

/-! ### '[]byte(s)': a row whose end bears a mark -/
/-- A row of bytes of one's own that may bear the mark of a conversion behind its end. -/
def bytesZ (E : TypeId) (v : Value) (l : List UInt8) : Dat := ⟨fun B => ∃ g cap cur fz, v = .slice (some ⟨g, 0, none⟩) l.length cap ∧ B.keep g ∧ B.W.heap[g]? = some (.cells cur E fz) ∧ l.length ≤ cap ∧ cap ≤ maxLen ∧ cur.size = cap ∧ cur.toList.take l.length = flat l ∧ (fz.1 = fz.2 ∨ cur.size ≤ fz.1),
  fun {B B'} hl ⟨g, cap, cur, fz, h1, h2, h3, h4⟩ => by
    obtain ⟨h5, h6⟩ := hl g h2 (Array.getElem?_eq_some_iff.1 h3).1
    exact ⟨g, cap, cur, fz, h1, h5, h6.trans h3, h4⟩⟩
section
variable {P : Program} {K : Value → World → Prop} {Kp : Value → Prop} {B : Base} {w : World} {σ : List Dat} {S D E T : TypeId} {by_ : Nat}
theorem bytesZ.read {v : Value} {l : List UInt8} (h : bytesZ E v l B) : rowR v l B := by
  obtain ⟨g, cap, cur, fz, rfl, h2, h3, h4, h5, h6, h7, h8⟩ := h
  refine ⟨_, cap, rfl, h4, .inr ⟨g, 0, rfl, h2, (Array.getElem?_eq_some_iff.1 h3).1, fun j v hv => ?_⟩⟩
  rw [← h7, List.getElem?_take] at hv
  split at hv
  · rw [Nat.zero_add]
    simp only [World.cell?, h3]
    simpa using hv
  · cases hv
theorem Rel.fromStr (h : Rel B w σ) {s : ByteArray} (hS : P.underlying S = some .string) (hD : P.underlying D = some (.slice E)) (hE : P.underlying E = some (.int .u8)) (hs : s.size ≤ 9223372036854775807) (k : ∀ v w', Rel B w' (σ ++ [bytesZ E v (bl s)]) → K v w') :
    upK P (sConv S D (.string s)) w K := by
  obtain ⟨c, h⟩ := h
  have hcap : ∃ cap, s.size ≤ cap ∧ cap ≤ maxLen ∧ (choose (.appendCap s.size 0 E)).run P w = .ok cap w.drew := by
    refine ⟨s.size + w.tape w.drawn (.appendCap s.size 0 E) % (2 ^ 63 - s.size), by omega, ?_, ?_⟩
    · have : w.tape w.drawn (.appendCap s.size 0 E) % (2 ^ 63 - s.size) < 2 ^ 63 - s.size := Nat.mod_lt _ (by omega)
      unfold maxLen
      omega
    · simp only [choose, Sem.run, Question.forced, Bool.false_eq_true, if_false, Question.cut]
      rfl
  obtain ⟨cap, h1, h2, hrun⟩ := hcap
  have e0 : (s.data.map fun b => (Value.int .u8 (b.toNat : Int))) = (flat (bl s)).toArray := by
    rw [flat_bytes]
    apply Array.ext'
    simp
  let cur : Array Value := (flat (bl s)).toArray ++ Array.replicate (cap - s.size) (.int .u8 0)
  have hfl : (flat (bl s)).length = s.size := by rw [flat_length, bl_length]; exact Nat.mul_one _
  have hcs : cur.size = cap := by simp [cur, hfl]; omega
  have hc : (sConv S D (.string s)).run P w = .ok (.value (.slice (some ⟨w.heap.size, 0, none⟩) s.size cap)) (w.drew.alloc (.cells cur E (cap, cap + 1))) := by
    refine vN_run ?_
    unfold convert
    rw [Sem.run_bind, run_underlying hS]
    simp only [Result.andThen_ok]
    rw [Sem.run_bind, run_underlying hD]
    simp only [Result.andThen_ok]
    rw [Sem.run_bind, run_underlying hE]
    simp only [Result.andThen_ok]
    unfold Conv.stringToBytes
    rw [Sem.run_bind, hrun]
    simp only [Result.andThen_ok, e0]
    rw [Sem.run_bind]
    have hn : (newRow E cur).run P w.drew = .ok ⟨w.heap.size, 0, none⟩ (w.drew.alloc (.cells cur E)) := by simp [newRow]
    rw [show (flat (bl s)).toArray ++ Array.replicate (cap - s.size) (Value.int .u8 0) = cur from rfl, hn]
    simp only [Result.andThen_ok]
    have hsh : (w.drew.alloc (.cells cur E)).shape? w.heap.size = some (E, cap) := by
      have : (w.drew.alloc (.cells cur E)).heap[w.heap.size]? = some (.cells cur E) := heap_alloc_new w.drew _
      simp only [World.shape?, this, hcs]
    have hfr : (w.drew.alloc (.cells cur E)).freeze { block := w.heap.size, off := cap } 1 = w.drew.alloc (.cells cur E (cap, cap + 1)) := by
      unfold World.freeze
      rw [if_neg (by decide)]
      simp only [World.alloc]
      congr 1
      apply Array.ext_getElem?
      intro j
      rw [Array.getElem?_modify]
      have hs : w.drew.heap.size = w.heap.size := rfl
      by_cases hj : w.heap.size = j
      · subst hj
        have e : ∀ o : Obj, (w.drew.heap.push o)[w.heap.size]? = some o := fun o => Array.getElem?_push_size
        rw [if_pos rfl, e, e]
        rfl
      · rw [if_neg hj, Array.getElem?_push, Array.getElem?_push]
        simp [hs, Ne.symm hj]
    have hm : (markStringish ⟨w.heap.size, 0, none⟩).run P (w.drew.alloc (.cells cur E)) = .ok () (w.drew.alloc (.cells cur E (cap, cap + 1))) := by
      simp only [markStringish, shape, Sem.run_bind, Sem.run, hsh, Result.andThen_ok]
      show Result.ok () (World.freeze _ _ _) = _
      rw [hfr]
    rw [Sem.run_bind, hm]
    rfl
  refine upK_of hc (k _ _ ⟨paint c w.heap.size (σ.length + 1), h.push ((Step.tick nobody c w).trans (Step.alloc nobody c w.drew _ _)) ?_⟩)
  refine ⟨w.heap.size, cap, cur, (cap, cap + 1), by rw [bl_length], by simp [paint], heap_alloc_new w.drew _, by rw [bl_length]; exact h1, h2, hcs, ?_, .inr (by rw [hcs]; exact Nat.le_refl _)⟩
  simp only [cur, Array.toList_append]
  rw [bl_length, ← hfl]
  exact List.take_left

theorem Rel.openZ (h : Rel B w σ) {i : Nat} {v : Value} {l : List UInt8} (hi : σ[i]? = some (bytesZ E v l)) : ∃ g cap, v = .slice (some ⟨g, 0, none⟩) l.length cap := by
  obtain ⟨g, cap, cur, fz, rfl, _⟩ := h.here hi
  exact ⟨g, cap, rfl⟩
theorem not_frozen {fz : Nat × Nat} {g o n : Nat} {cur : Array Value} (h : w.heap[g]? = some (.cells cur E fz)) (hf : fz.1 = fz.2 ∨ cur.size ≤ fz.1) (ho : o < cur.size) : w.frozen? ⟨g, o, none⟩ = false := by
  obtain ⟨lo, hi⟩ := fz
  simp only [World.frozen?, h]
  rcases hf with hf | hf
  · have hf : lo = hi := hf
    subst hf
    simp
  · have hf : cur.size ≤ lo := hf
    simp
    omega
/-- One byte of such a row is stored. -/
theorem Rel.setZ (h : Rel B w σ) (i : Nat) {g n cap j : Nat} {l : List UInt8} (hi : σ[i]? = some (bytesZ E (.slice (some ⟨g, 0, none⟩) n cap) l)) (x : UInt8) (hj : j < l.length) (hs : scB P T = true) {xv : Value}
    (k : ∀ w', Rel B w' (σ.set i (bytesZ E (.slice (some ⟨g, 0, none⟩) n cap) (l.set j x))) → K undef w') (hx : xv = .int .u8 x.toNat := by rfl) : upK P (sStore T (.pointer (some ⟨g, j, none⟩)) xv) w K := by
  subst hx
  obtain ⟨c, h⟩ := h
  obtain ⟨g', cap', cur, fz, he, h2, h3, h4, h5, h6, h7, h8⟩ := h.own i _ hi
  cases he
  have h2 : c g = i + 1 := h2
  have h3 : w.heap[g]? = some (.cells cur E fz) := h3
  have hjc : j < cur.size := by omega
  have hc : w.cell? ⟨g, j, none⟩ = some cur[j] := by simp [World.cell?, h3, hjc]
  have hf := not_frozen (n := 0) h3 h8 hjc
  refine upK_skip (w' := w.setCell ⟨g, j, none⟩ (.int .u8 x.toNat)) (uN_run ?_) (k _ ⟨c, h.step hi ⟨rfl, rfl, rfl, by simp [World.setCell], fun _ _ => rfl, fun q hq hT => Below.heap_setCell w ⟨g, j, none⟩ _ q (by rintro rfl; exact hT h2)⟩ ?_⟩)
  · have e1 := size_sc (P := P) (w := w) hs
    simp [Instr.storeAt, Instr.sureAddr, storeVar, Sem.run_bind, e1, Value.cells, storeCells, store, Sem.run, hc, hf, Addr.add]
  · refine ⟨g, cap, cur.setIfInBounds j (.int .u8 x.toNat), fz, by simp, h2, ?_, by simpa using h4, h5, by simpa using h6, ?_, by simpa using h8⟩
    · simp [World.setCell, Array.getElem?_modify, h3]
    · simp only [Array.toList_setIfInBounds, List.length_set]
      rw [List.take_set, h7]
      have := flat_set_cell (l := l) hj x (f := 0) (v := .int .u8 x.toNat) (by decide) rfl
      rw [this]
      congr 1
      exact (Nat.mul_one j).symm
/-- 'append(b, x)' -/
theorem Rel.pushZ (h : Rel B w σ) (i : Nat) {v : Value} {l : List UInt8} (hi : σ[i]? = some (bytesZ E v l)) (x : UInt8) (hT : sliceB P T E 1 1 = true) (hl : l.length + 1 ≤ 140737488355328) {U : TypeId} {bs : Array Bool} {K' : Value → World → Prop} {xv : Value}
    (k : ∀ v' w', Rel B w' (σ.set i (bytesZ E v' (l ++ [x]))) → K' v' w') (hx : xv = .int .u8 x.toNat := by rfl) :
    upK P (sBuildSlice T 1 #[(0, xv)]) w fun t w1 => upK P (sBlt .append #[T, T] U bs #[v, t]) w1 fun v' w2 => K' v' w2 := by
  have hlt : i < σ.length := by
    rcases Nat.lt_or_ge i σ.length with hl | hl
    · exact hl
    · rw [List.getElem?_eq_none hl] at hi; cases hi
  refine h.build1 (α := UInt8) x hT (by decide) (fun t w1 h1 => ?_) hx
  have hi1 : (σ ++ [rowD E t [x]])[i]? = some (bytesZ E v l) := by rw [List.getElem?_append_left hlt]; exact hi
  have hsrc : RowR (fun _ => 0) 0 w1 t [x] := rowR.here_row (rowD.read (h1.here (i := σ.length) (d := rowD E t [x]) (by rw [List.getElem?_append_right (Nat.le_refl _)]; simp)))
  have done : ∀ v' w2, Rel B w2 ((σ ++ [rowD E t [x]]).set i (bytesZ E v' (l ++ [x]))) → K' v' w2 := fun v' w2 h2 => k v' w2 (by
    rw [List.set_append_left _ _ hlt] at h2
    exact h2.drop)
  obtain ⟨hu, i', z, hinfo, hz, hs, hby, hzs⟩ := sliceB_spec hT
  obtain ⟨c, h1⟩ := h1
  obtain ⟨g, cap, cur, fz, rfl, h2, h3, h4, h5, h6, h7, h8⟩ := h1.own i _ hi1
  have h2 : c g = i + 1 := h2
  have h3 : w1.heap[g]? = some (.cells cur E fz) := h3
  have f2 := hsrc.first (P := P)
  have hfx : (flat [x]) = [.int .u8 x.toNat] := rfl
  have hfl : (flat l).length = l.length := by rw [flat_length]; exact Nat.mul_one _
  by_cases hroom : l.length + 1 ≤ cap
  · have hjc : l.length < cur.size := by omega
    have hc : w1.cell? ⟨g, l.length, none⟩ = some cur[l.length] := by simp [World.cell?, h3, hjc]
    have hf := not_frozen (n := 0) h3 h8 hjc
    refine upK_of (v := .slice (some ⟨g, 0, none⟩) (l.length + 1) cap) (w' := w1.setCell ⟨g, l.length, none⟩ (.int .u8 x.toNat)) (vN_run ?_) (done _ _ ⟨c, h1.step hi1 ⟨rfl, rfl, rfl, by simp [World.setCell], fun _ _ => rfl, fun q hq hT => Below.heap_setCell w1 ⟨g, l.length, none⟩ _ q (by rintro rfl; exact hT h2)⟩ ?_⟩)
    · have f2' : (Builtin.firstCells 1 1 t).run P w1 = .ok #[.int .u8 x.toNat] w1 := f2
      have l2 : (Builtin.lenOf t).run P w1 = .ok 1 w1 := hsrc.lenOf w1
      simp [Builtin.append_, run_underlying hu, sizeOf, typeInfo, hinfo, hs, show Enc.sz UInt8 = 1 from rfl, l2, hroom, f2', addr_add, storeCells, store, Sem.run, hc, hf]
    · refine ⟨g, cap, cur.setIfInBounds l.length (.int .u8 x.toNat), fz, by simp, h2, ?_, by simp; omega, h5, by simpa using h6, ?_, by simpa using h8⟩
      · simp [World.setCell, Array.getElem?_modify, h3]
      · simp only [Array.toList_setIfInBounds, List.length_append, List.length_singleton]
        rw [flat_append, ← h7, hfx]
        apply List.ext_getElem
        · simp; omega
        · intro q hq1 hq2
          simp only [List.getElem_take, List.getElem_set]
          by_cases hql : l.length = q
          · subst hql
            rw [if_pos rfl, List.getElem_append_right (by simp; omega)]
            simp [Nat.min_eq_left (show l.length ≤ cur.toList.length by simp; omega)]
          · rw [if_neg hql, List.getElem_append_left (by simp at hq2 ⊢; omega), List.getElem_take]
  · have hn : ¬ (l.length + 1 ≤ cap) := hroom
    have h63' : ¬ (9223372036854775807 < ((l.length : Int) + 1)) := by omega
    have h48 : Builtin.nextslicecap (l.length + 1) cap * 1 ≤ 281474976710656 := growslice_fits (by omega) (by omega)
    have h48' : ¬ (281474976710656 < Builtin.nextslicecap (l.length + 1) cap) := by omega
    have hge := grownCap_ge w1 (l.length + 1) cap E
    have hmx := grownCap_le_maxLen w1 (l.length + 1) cap E (by unfold maxLen; omega)
    have f1 : (Builtin.firstCells 1 l.length (.slice (some ⟨g, 0, none⟩) l.length cap)).run P w1.drew = .ok (flat l).toArray w1.drew := by
      have : rowR (.slice (some ⟨g, 0, none⟩) l.length cap) l ⟨w1.drew, fun _ => True⟩ := bytesZ.read (E := E) ⟨g, cap, cur, fz, rfl, trivial, h3, h4, h5, h6, h7, h8⟩
      exact (rowR.here_row (w := w1.drew) this).first
    have f2' : (Builtin.firstCells 1 1 t).run P w1.drew = .ok #[.int .u8 x.toNat] w1.drew := (hsrc.tick).first
    have l2 : (Builtin.lenOf t).run P w1 = .ok 1 w1 := hsrc.lenOf w1
    have hrun : (Builtin.append_ #[T, T] U #[.slice (some ⟨g, 0, none⟩) l.length cap, t]).run P w1 =
        .ok (.slice (some ⟨w1.heap.size, 0, none⟩) (l.length + 1) (grownCap w1 (l.length + 1) cap E))
          (w1.drew.alloc (.cells ((flat l).toArray ++ #[.int .u8 x.toNat] ++ Builtin.zeroCells z.cells (grownCap w1 (l.length + 1) cap E - (l.length + 1))) E)) := by
      simp [Builtin.append_, run_underlying hu, sizeOf, typeInfo, hinfo, hs, show Enc.sz UInt8 = 1 from rfl, l2, hn, h63', hby, h48', f1, f2', grownCap, Question.forced, zeroValue, hz, newRow]
    refine upK_of (vN_run hrun) (done _ _ ⟨paint c w1.heap.size (i + 1), h1.step hi1 ((Step.none (T := only (i + 1)) ((Step.tick nobody c w1).trans (Step.alloc nobody c w1.drew (i + 1) _)))) ?_⟩)
    refine ⟨w1.heap.size, _, _, (0, 0), by rw [List.length_append]; rfl, by simp [paint], heap_alloc_new w1.drew _, by rw [List.length_append]; exact hge, hmx, ?_, ?_, .inl rfl⟩
    · have hz1 : z.cells.size = 1 := hzs
      simp only [Array.size_append, List.size_toArray, size_zeroCells, hz1, hfl, Nat.mul_one]
      simp
      omega
    · have e : ((flat l).toArray ++ #[Value.int .u8 x.toNat] ++ Builtin.zeroCells z.cells (grownCap w1 (l.length + 1) cap E - (l.length + 1))).toList = flat (l ++ [x]) ++ (Builtin.zeroCells z.cells (grownCap w1 (l.length + 1) cap E - (l.length + 1))).toList := by
        rw [flat_append, hfx]
        simp
      rw [e]
      have : (l ++ [x]).length = (flat (l ++ [x])).length := by rw [flat_length]; exact (Nat.mul_one _).symm
      rw [this]
      exact List.take_left
end
end Go.Proofs.YtefinemhfgdpdaaGreatDoor
/-
  Maps of one's own: lookups, updates, deletions, ranges. No condition.
-/
namespace Go.Proofs.YtefinemhfgdpdaaGreatDoor
open Go.RowKit

/-- An entry: key, value, stamp. -/
abbrev Ent (κ ν : Type) := κ × ν × Nat

section
variable {κ ν : Type} [Enc κ] [Enc ν] [DecidableEq κ]
def entV (e : Ent κ ν) : MapEntry := { key := Enc.val e.1, val := Enc.val e.2.1, born := e.2.2 }
def findE (x : κ) : List (Ent κ ν) → Nat → Option (Nat × ν)
  | [], _ => none
  | e :: l, i => if x = e.1 then some (i, e.2.1) else findE x l (i + 1)
def getE (x : κ) (l : List (Ent κ ν)) : Option ν := (findE x l 0).map (·.2)
end

structure KeyTy (P : Program) (k : TypeId) (κ : Type) [Enc κ] [DecidableEq κ] : Prop where
  chk : ∀ (e : Bool) (x : κ) (w : World), (Instr.checkKey e 10000 k (Enc.val x)).run P w = .ok () w
  find : ∀ {ν : Type} [Enc ν] (x : κ) (l : List (Ent κ ν)) (w : World), (Instr.findKey k (Enc.val x) (l.map entV)).run P w = .ok ((findE x l 0).map fun p => (p.1, Enc.val p.2)) w
  bits : ∀ x : κ, Instr.sameBits 10000 (Enc.val x) (Enc.val x) = true

theorem KeyTy.int {P : Program} {k : TypeId} (hk : P.underlying k = some (.int .i64)) : KeyTy P k Int where
  chk e x w := by
    show (Instr.checkKey e (9999 + 1) k (.int .i64 x)).run P w = _
    unfold Instr.checkKey
    rw [Sem.run_bind, run_underlying hk]
    rfl
  find {ν} _ x l w := by
    have key : ∀ (l : List (Ent Int ν)) (i : Nat), Instr.findNow (.int .i64) (.int .i64 x) (l.map entV) i = some ((findE x l i).map fun p => (p.1, Enc.val p.2)) := by
      intro l
      induction l with
      | nil => intro i; rfl
      | cons e l ih =>
        intro i
        simp only [List.map_cons, Instr.findNow, findE]
        have : Instr.sameNow (.int .i64) (.int .i64 x) (entV e).key = some (x == e.1) := by simp [Instr.sameNow, entV, Enc.val]
        rw [this]
        by_cases h : x = e.1
        · rw [if_pos h, beq_iff_eq.2 h]; rfl
        · rw [if_neg h, beq_eq_false_iff_ne.2 h]; exact ih (i + 1)
    unfold Instr.findKey
    rw [Sem.run_bind, run_underlying hk]
    simp only [Result.andThen_ok]
    rw [show (Enc.val x : Value) = .int .i64 x from rfl, key l 0]
    rfl
  bits x := by
    show Instr.sameBits (9999 + 1) (.int .i64 x) (.int .i64 x) = true
    simp [Instr.sameBits]

def ckB (P : Program) (t : TypeId) : Bool :=
  match P.underlying t with
  | some (.int _) => true
  | some .bool => true
  | some .string => true
  | _ => false
theorem check_sc {P : Program} {e : Bool} {n : Nat} {t : TypeId} {v : Value} {w : World} (h : ckB P t = true) : (Instr.checkKey e (n + 1) t v).run P w = .ok () w := by
  unfold ckB at h
  unfold Instr.checkKey
  split at h
  · rename_i hu; rw [Sem.run_bind, run_underlying hu]; rfl
  · rename_i hu; rw [Sem.run_bind, run_underlying hu]; rfl
  · rename_i hu; rw [Sem.run_bind, run_underlying hu]; rfl
  · cases h

theorem KeyTy.agg {P : Program} {k : TypeId} {κ : Type} [Enc κ] [DecidableEq κ] {fs : Array Field} (hk : P.underlying k = some (.struct fs)) (hv : ∀ x : κ, Enc.val x = .agg (Enc.cells x).toArray)
    (hf : (fs.toList.all fun f => ckB P f.type && scB P f.type && Nat.blt f.offset (Enc.sz κ)) = true)
    (heq : ∀ (x y : κ) (w : World), (Op.equal k (Enc.val x) (Enc.val y)).run P w = .ok (decide (x = y)) w) (hb : ∀ x : κ, Instr.sameBits 10000 (Enc.val x) (Enc.val x) = true) : KeyTy P k κ where
  chk e x w := by
    rw [hv x]
    show (Instr.checkKey e (9999 + 1) k (.agg _)).run P w = _
    unfold Instr.checkKey
    rw [Sem.run_bind, run_underlying hk]
    simp only [Result.andThen_ok]
    rw [← Array.forIn_toList]
    have hf := List.all_eq_true.1 hf
    generalize fs.toList = L at hf ⊢
    induction L with
    | nil => rfl
    | cons f L ih =>
      have h1 := hf f List.mem_cons_self
      simp only [Bool.and_eq_true] at h1
      have hlt : f.offset < Enc.sz κ := by simpa using h1.2
      have hp : (part f.type (Enc.cells x).toArray f.offset).run P w = .ok ((Enc.cells x)[f.offset]'(by rw [Enc.len]; exact hlt)) w := part_sc h1.1.2 (by simp [Enc.len, hlt])
      have ih := ih fun g hg => hf g (List.mem_cons_of_mem _ hg)
      rw [List.forIn_cons]
      by_cases hn : f.name = "_"
      · simp only [hn, ne_eq, not_true_eq_false, if_false, pure_bind]
        exact ih
      · simp only [hn, ne_eq, not_false_eq_true, if_true, bind_assoc, pure_bind]
        rw [Sem.run_bind, hp]
        simp only [Result.andThen_ok]
        rw [Sem.run_bind, check_sc h1.1.1]
        simp only [Result.andThen_ok]
        exact ih
  find {ν} _ x l w := by
    have ask : ∀ (l : List (Ent κ ν)) (i : Nat), (Instr.findAsking k (Enc.val x) (l.map entV) i).run P w = .ok ((findE x l i).map fun p => (p.1, Enc.val p.2)) w := by
      intro l
      induction l with
      | nil => intro i; rfl
      | cons e l ih =>
        intro i
        simp only [List.map_cons, Instr.findAsking, findE]
        rw [Sem.run_bind, show (entV e).key = Enc.val e.1 from rfl, heq]
        simp only [Result.andThen_ok]
        by_cases h : x = e.1
        · rw [if_pos h, decide_eq_true h]; rfl
        · rw [if_neg h, decide_eq_false h]; exact ih (i + 1)
    unfold Instr.findKey
    rw [Sem.run_bind, run_underlying hk]
    simp only [Result.andThen_ok]
    cases l with
    | nil => rfl
    | cons e l =>
      have : Instr.findNow (.struct fs) (Enc.val x) ((e :: l).map entV) 0 = none := by
        simp only [List.map_cons, Instr.findNow]
        have : Instr.sameNow (.struct fs) (Enc.val x) (entV e).key = none := by rw [hv x]; rfl
        rw [this]
      rw [this]
      exact ask (e :: l) 0
  bits := hb

/-! ### What happens to the entries -/
section
variable {κ ν : Type} [DecidableEq κ]
/-- The entry of a key: there, or new with the zero value. -/
def entryE (x : κ) (z : ν) (l : List (Ent κ ν)) (c : Nat) : List (Ent κ ν) × Nat × Nat × ν :=
  match findE x l 0 with
  | some (i, v) => (l, c, ((l[i]?).map (·.2.2)).getD 0, v)
  | none => (l ++ [(x, z, c)], c + 1, c, z)
def setE (x : κ) (y : ν) (l : List (Ent κ ν)) (c : Nat) : List (Ent κ ν) × Nat :=
  match findE x l 0 with
  | some (i, _) => (l.modify i fun e => (e.1, y, e.2.2), c)
  | none => (l ++ [(x, y, c)], c + 1)
def storeE (b : Nat) (y : ν) (l : List (Ent κ ν)) : List (Ent κ ν) :=
  match l.findIdx? fun e => e.2.2 == b with
  | some i => l.modify i fun e => (e.1, y, e.2.2)
  | none => l
def delE (x : κ) (l : List (Ent κ ν)) : List (Ent κ ν) :=
  match findE x l 0 with
  | some (i, _) => l.eraseIdx i
  | none => l
/-- Keys once each, stamps once each and below the clock. -/
structure WfE (l : List (Ent κ ν)) (c : Nat) : Prop where
  keys : (l.map (·.1)).Nodup
  stamps : (l.map (·.2.2)).Nodup
  below : ∀ e ∈ l, e.2.2 < c

theorem findE_shift (x : κ) (l : List (Ent κ ν)) : ∀ i, findE x l i = (findE x l 0).map fun p => (p.1 + i, p.2) := by
  induction l with
  | nil => intro i; rfl
  | cons e l ih =>
    intro i
    simp only [findE]
    by_cases h : x = e.1
    · simp [h]
    · rw [if_neg h, if_neg h, ih (i + 1), ih (0 + 1), Option.map_map]
      congr 1
      funext p
      simp only [Function.comp_apply]
      congr 1
      omega
theorem findE_some {x : κ} {l : List (Ent κ ν)} {i : Nat} {v : ν} (h : findE x l 0 = some (i, v)) : ∃ hi : i < l.length, l[i].1 = x ∧ l[i].2.1 = v := by
  induction l generalizing i with
  | nil => cases h
  | cons e l ih =>
    simp only [findE] at h
    by_cases hx : x = e.1
    · rw [if_pos hx] at h
      cases h
      exact ⟨by simp, hx.symm, rfl⟩
    · rw [if_neg hx, findE_shift] at h
      rw [Option.map_eq_some_iff] at h
      obtain ⟨⟨j, u⟩, h1, h2⟩ := h
      simp only [Prod.mk.injEq] at h2
      obtain ⟨rfl, rfl⟩ := h2
      obtain ⟨h3, h4⟩ := ih h1
      exact ⟨by simp; omega, h4⟩
theorem findE_none {x : κ} {l : List (Ent κ ν)} (h : findE x l 0 = none) : ∀ e ∈ l, e.1 ≠ x := by
  induction l with
  | nil => intro e he; cases he
  | cons e l ih =>
    simp only [findE] at h
    by_cases hx : x = e.1
    · rw [if_pos hx] at h; cases h
    · rw [if_neg hx, findE_shift, Option.map_eq_none_iff] at h
      intro e' he
      rcases List.mem_cons.1 he with rfl | he
      · exact fun e => hx e.symm
      · exact ih h e' he
theorem getE_none {x : κ} {l : List (Ent κ ν)} : getE x l = none ↔ ∀ e ∈ l, e.1 ≠ x := by
  unfold getE
  rw [Option.map_eq_none_iff]
  refine ⟨findE_none, fun h => ?_⟩
  cases hf : findE x l 0 with
  | none => rfl
  | some p =>
    obtain ⟨h1, h2, _⟩ := findE_some (i := p.1) (v := p.2) hf
    exact absurd h2 (h _ (List.getElem_mem h1))
theorem getE_mem {l : List (Ent κ ν)} (hn : (l.map (·.1)).Nodup) {e : Ent κ ν} (he : e ∈ l) : getE e.1 l = some e.2.1 := by
  unfold getE
  cases hf : findE e.1 l 0 with
  | none => exact absurd rfl (findE_none hf e he)
  | some p =>
    obtain ⟨h1, h2, h3⟩ := findE_some (i := p.1) (v := p.2) hf
    obtain ⟨j, hj, rfl⟩ := List.getElem_of_mem he
    have hij : p.1 = j := by
      have := (List.nodup_iff_pairwise_ne.1 hn)
      rw [List.pairwise_iff_getElem] at this
      rcases Nat.lt_trichotomy p.1 j with h | h | h
      · exact absurd (by rw [List.getElem_map, List.getElem_map]; exact h2) (this p.1 j (by simpa using h1) (by simpa using hj) h)
      · exact h
      · exact absurd (by rw [List.getElem_map, List.getElem_map]; exact h2.symm) (this j p.1 (by simpa using hj) (by simpa using h1) h)
    simp only [Option.map_some, Option.some.injEq]
    rw [← h3]
    congr 3
theorem getE_append {x : κ} {l : List (Ent κ ν)} {k : κ} {v : ν} {b : Nat} : getE x (l ++ [(k, v, b)]) = (getE x l).or (if x = k then some v else none) := by
  induction l with
  | nil =>
    simp only [getE, List.nil_append, findE]
    by_cases h : x = k <;> simp [h]
  | cons e l ih =>
    unfold getE at ih ⊢
    simp only [List.cons_append, findE]
    by_cases h : x = e.1
    · simp [h]
    · rw [if_neg h, if_neg h, findE_shift x (l ++ _), findE_shift x l, Option.map_map, Option.map_map]
      exact ih
theorem getE_modify {x k : κ} {l : List (Ent κ ν)} {i : Nat} {y : ν} (hn : (l.map (·.1)).Nodup) (hi : i < l.length) (hk : l[i].1 = k) : getE x (l.modify i fun e => (e.1, y, e.2.2)) = if x = k then some y else getE x l := by
  have hn' : ((l.modify i fun e => (e.1, y, e.2.2)).map (·.1)).Nodup := by
    have : (l.modify i fun e => (e.1, y, e.2.2)).map (·.1) = l.map (·.1) := by
      apply List.ext_getElem (by simp)
      intro j h1 h2
      simp only [List.getElem_map, List.getElem_modify]
      split <;> rfl
    rw [this]; exact hn
  by_cases h : x = k
  · rw [if_pos h]
    have hm : ((l[i].1, y, l[i].2.2) : Ent κ ν) ∈ l.modify i fun e => (e.1, y, e.2.2) := by
      rw [List.mem_iff_getElem]
      exact ⟨i, by simpa using hi, by simp⟩
    have := getE_mem hn' hm
    rw [h, ← hk]
    exact this
  · rw [if_neg h]
    cases hg : getE x l with
    | none =>
      rw [getE_none] at hg ⊢
      intro e he
      obtain ⟨j, hj, rfl⟩ := List.getElem_of_mem he
      rw [List.getElem_modify]
      have hj' : j < l.length := by simpa using hj
      have := hg l[j] (List.getElem_mem hj')
      split <;> exact this
    | some v =>
      have hx : ∃ e ∈ l, e.1 = x ∧ e.2.1 = v := by
        unfold getE at hg
        rw [Option.map_eq_some_iff] at hg
        obtain ⟨⟨j, u⟩, h1, h2⟩ := hg
        obtain ⟨h3, h4, h5⟩ := findE_some h1
        exact ⟨_, List.getElem_mem h3, h4, h5.trans h2⟩
      obtain ⟨e, he, rfl, rfl⟩ := hx
      obtain ⟨j, hj, rfl⟩ := List.getElem_of_mem he
      have hij : i ≠ j := by
        rintro rfl
        exact h hk
      have hm : l[j] ∈ l.modify i fun e => (e.1, y, e.2.2) := by
        rw [List.mem_iff_getElem]
        exact ⟨j, by simpa using hj, by rw [List.getElem_modify, if_neg hij]⟩
      exact getE_mem hn' hm

theorem setE_get {x k : κ} {y : ν} {l : List (Ent κ ν)} {c : Nat} (hn : (l.map (·.1)).Nodup) : getE x (setE k y l c).1 = if x = k then some y else getE x l := by
  unfold setE
  cases hf : findE k l 0 with
  | none =>
    show getE x (l ++ [(k, y, c)]) = _
    rw [getE_append]
    have := findE_none hf
    by_cases h : x = k
    · subst h
      rw [if_pos rfl, if_pos rfl, getE_none.2 this]; rfl
    · rw [if_neg h, if_neg h]; simp
  | some p =>
    obtain ⟨h1, h2, _⟩ := findE_some (i := p.1) (v := p.2) hf
    exact getE_modify hn h1 h2
omit [DecidableEq κ] in
theorem modify_keys {l : List (Ent κ ν)} {i : Nat} {y : ν} : (l.modify i fun e => (e.1, y, e.2.2)).map (·.1) = l.map (·.1) := by
  apply List.ext_getElem (by simp)
  intro j h1 h2
  simp only [List.getElem_map, List.getElem_modify]
  split <;> rfl
omit [DecidableEq κ] in
theorem modify_stamps {l : List (Ent κ ν)} {i : Nat} {y : ν} : (l.modify i fun e => (e.1, y, e.2.2)).map (·.2.2) = l.map (·.2.2) := by
  apply List.ext_getElem (by simp)
  intro j h1 h2
  simp only [List.getElem_map, List.getElem_modify]
  split <;> rfl
omit [DecidableEq κ] in
theorem WfE.nil : WfE ([] : List (Ent κ ν)) 0 := ⟨List.nodup_nil, List.nodup_nil, fun e he => by cases he⟩
omit [DecidableEq κ] in
theorem WfE.modify {l : List (Ent κ ν)} {c : Nat} (h : WfE l c) {i : Nat} {y : ν} : WfE (l.modify i fun e => (e.1, y, e.2.2)) c := by
  refine ⟨by rw [modify_keys]; exact h.keys, by rw [modify_stamps]; exact h.stamps, fun e he => ?_⟩
  have hm : e.2.2 ∈ (l.modify i fun e => (e.1, y, e.2.2)).map (·.2.2) := List.mem_map_of_mem he
  rw [modify_stamps] at hm
  obtain ⟨e', he', h1⟩ := List.mem_map.1 hm
  rw [← h1]
  exact h.below e' he'
omit [DecidableEq κ] in
theorem WfE.push {l : List (Ent κ ν)} {c : Nat} (h : WfE l c) {x : κ} {y : ν} (hx : ∀ e ∈ l, e.1 ≠ x) : WfE (l ++ [(x, y, c)]) (c + 1) := by
  refine ⟨?_, ?_, fun e he => ?_⟩
  · rw [List.map_append, List.nodup_append]
    refine ⟨h.keys, by simp, fun a ha b hb => ?_⟩
    obtain ⟨e, he, rfl⟩ := List.mem_map.1 ha
    simp at hb
    subst hb
    exact hx e he
  · rw [List.map_append, List.nodup_append]
    refine ⟨h.stamps, by simp, fun a ha b hb => ?_⟩
    obtain ⟨e, he, rfl⟩ := List.mem_map.1 ha
    simp at hb
    subst hb
    exact Nat.ne_of_lt (h.below e he)
  · rcases List.mem_append.1 he with he | he
    · exact Nat.lt_succ_of_lt (h.below e he)
    · simp at he
      subst he
      exact Nat.lt_succ_self c
theorem WfE.set {l : List (Ent κ ν)} {c : Nat} (h : WfE l c) (x : κ) (y : ν) : WfE (setE x y l c).1 (setE x y l c).2 := by
  unfold setE
  cases hf : findE x l 0 with
  | none => exact h.push (findE_none hf)
  | some p => exact h.modify
/-- A key that is there: the clock stays, and so do keys and stamps. -/
theorem setE_there {x : κ} {y : ν} {l : List (Ent κ ν)} {c : Nat} (h : ∃ e ∈ l, e.1 = x) : (setE x y l c).2 = c ∧ (setE x y l c).1.map (·.1) = l.map (·.1) ∧ (setE x y l c).1.map (·.2.2) = l.map (·.2.2) := by
  unfold setE
  cases hf : findE x l 0 with
  | none =>
    obtain ⟨e, he, h1⟩ := h
    exact absurd h1 (findE_none hf e he)
  | some p => exact ⟨rfl, modify_keys, modify_stamps⟩
theorem delE_eq {x : κ} {l : List (Ent κ ν)} (hn : (l.map (·.1)).Nodup) : delE x l = l.filter fun e => decide (e.1 ≠ x) := by
  unfold delE
  cases hf : findE x l 0 with
  | none =>
    refine (List.filter_eq_self.2 fun e he => ?_).symm
    exact decide_eq_true (p := e.1 ≠ x) (findE_none hf e he)
  | some p =>
    obtain ⟨h1, h2, h3⟩ := findE_some (i := p.1) (v := p.2) hf
    clear h3
    show l.eraseIdx p.1 = _
    generalize p.1 = i at h1 h2
    clear hf
    induction l generalizing i with
    | nil => simp at h1
    | cons e l ih =>
      rw [List.map_cons, List.nodup_cons] at hn
      cases i with
      | zero =>
        have h2 : e.1 = x := h2
        rw [List.eraseIdx_cons_zero, List.filter_cons, if_neg (by simp [h2])]
        refine (List.filter_eq_self.2 fun e' he' => decide_eq_true (p := e'.1 ≠ x) fun h3 => ?_).symm
        exact hn.1 (h2 ▸ h3 ▸ List.mem_map_of_mem he')
      | succ i =>
        have h1' : i < l.length := by simpa using h1
        have h2 : l[i].1 = x := by simpa using h2
        rw [List.eraseIdx_cons_succ, List.filter_cons, if_pos (decide_eq_true (p := e.1 ≠ x) fun h3 => hn.1 (by rw [h3, ← h2]; exact List.mem_map_of_mem (List.getElem_mem h1'))), ih hn.2 i h1' h2]
omit [DecidableEq κ] in
theorem WfE.filter {l : List (Ent κ ν)} {c : Nat} (h : WfE l c) (p : Ent κ ν → Bool) : WfE (l.filter p) c :=
  ⟨h.keys.sublist (List.filter_sublist.map _), h.stamps.sublist (List.filter_sublist.map _), fun e he => h.below e (List.mem_filter.1 he).1⟩
theorem WfE.getE_iff {l : List (Ent κ ν)} {c : Nat} (h : WfE l c) {x : κ} {v : ν} : getE x l = some v ↔ ∃ b, (x, v, b) ∈ l := by
  constructor
  · intro hg
    unfold getE at hg
    rw [Option.map_eq_some_iff] at hg
    obtain ⟨⟨j, u⟩, h1, h2⟩ := hg
    obtain ⟨h3, h4, h5⟩ := findE_some h1
    have h2 : u = v := h2
    subst h2
    subst h4
    subst h5
    exact ⟨_, List.getElem_mem h3⟩
  · rintro ⟨b, hb⟩
    exact getE_mem h.keys hb
theorem filter_get {l : List (Ent κ ν)} {c : Nat} (h : WfE l c) (p : κ → Bool) (x : κ) : getE x (l.filter fun e => p e.1) = if p x = true then getE x l else none := by
  by_cases hp : p x = true
  · rw [if_pos hp]
    cases hg : getE x l with
    | none =>
      rw [getE_none] at hg ⊢
      exact fun e he => hg e (List.mem_filter.1 he).1
    | some v =>
      rw [(h.filter _).getE_iff]
      obtain ⟨b, hb⟩ := h.getE_iff.1 hg
      exact ⟨b, List.mem_filter.2 ⟨hb, hp⟩⟩
  · rw [if_neg hp, getE_none]
    rintro e he rfl
    exact hp (List.mem_filter.1 he).2
/-- 'm[k] = y' in two steps: the entry, then the store. -/
theorem entry_store {x : κ} {y z : ν} {l : List (Ent κ ν)} {c : Nat} (h : WfE l c) : storeE (entryE x z l c).2.2.1 y (entryE x z l c).1 = (setE x y l c).1 ∧ (entryE x z l c).2.1 = (setE x y l c).2 := by
  unfold entryE setE
  cases hf : findE x l 0 with
  | none =>
    refine ⟨?_, rfl⟩
    show storeE c y (l ++ [(x, z, c)]) = l ++ [(x, y, c)]
    unfold storeE
    have : (l ++ [(x, z, c)]).findIdx? (fun e => e.2.2 == c) = some l.length := by
      rw [List.findIdx?_eq_some_iff_getElem]
      refine ⟨by simp, by simp, fun j hj => ?_⟩
      rw [List.getElem_append_left hj]
      have := h.below _ (List.getElem_mem hj)
      simp
      omega
    rw [this]
    apply List.ext_getElem (by simp)
    intro j h1 h2
    rw [List.getElem_modify]
    by_cases hj : l.length = j
    · subst hj; simp
    · rw [if_neg hj, List.getElem_append_left (by simp at h2; omega), List.getElem_append_left (by simp at h2; omega)]
  | some p =>
    refine ⟨?_, rfl⟩
    obtain ⟨h1, h2, h3⟩ := findE_some (i := p.1) (v := p.2) hf
    show storeE ((l[p.1]?.map (·.2.2)).getD 0) y l = l.modify p.1 _
    rw [List.getElem?_eq_getElem h1]
    unfold storeE
    have : l.findIdx? (fun e => e.2.2 == ((some l[p.1]).map (·.2.2)).getD 0) = some p.1 := by
      rw [List.findIdx?_eq_some_iff_getElem]
      refine ⟨h1, by simp, fun j hj => ?_⟩
      have := List.nodup_iff_pairwise_ne.1 h.stamps
      rw [List.pairwise_iff_getElem] at this
      have := this j p.1 (by simp; omega) (by simpa using h1) hj
      simpa using this
    rw [this]
end
section
variable {κ ν : Type} [DecidableEq κ]
/-- The entry with a stamp gets a value: what 'm[k] = y' does where the entry is there. -/
theorem setE_map {l : List (Ent κ ν)} {c : Nat} (h : WfE l c) {e : Ent κ ν} (he : e ∈ l) (y : ν) : (setE e.1 y l c).1 = l.map (fun e' => if e'.2.2 = e.2.2 then (e'.1, y, e'.2.2) else e') ∧ (setE e.1 y l c).2 = c := by
  refine ⟨?_, (setE_there ⟨e, he, rfl⟩).1⟩
  obtain ⟨j, hj, rfl⟩ := List.getElem_of_mem he
  unfold setE
  cases hf : findE l[j].1 l 0 with
  | none => exact absurd rfl (findE_none hf _ he)
  | some p =>
    obtain ⟨h1, h2, _⟩ := findE_some (i := p.1) (v := p.2) hf
    have hn := List.nodup_iff_pairwise_ne.1 h.keys
    have hs := List.nodup_iff_pairwise_ne.1 h.stamps
    rw [List.pairwise_map, List.pairwise_iff_getElem] at hn hs
    have hij : p.1 = j := by
      rcases Nat.lt_trichotomy p.1 j with h | h | h
      · exact absurd h2 (hn p.1 j h1 hj h)
      · exact h
      · exact absurd h2.symm (hn j p.1 hj h1 h)
    show l.modify p.1 _ = _
    rw [hij]
    apply List.ext_getElem (by simp)
    intro q q1 q2
    have hq : q < l.length := by simpa using q1
    rw [List.getElem_modify, List.getElem_map]
    by_cases e : j = q
    · subst e; rw [if_pos rfl, if_pos rfl]
    · rw [if_neg e, if_neg]
      intro hh
      rcases Nat.lt_trichotomy q j with h | h | h
      · exact hs q j hq hj h hh
      · exact e h.symm
      · exact hs j q hj hq h hh.symm
end
theorem contains_push {seen : Array Nat} {b x : Nat} : (seen.push b).contains x = (seen.contains x || decide (x = b)) := by
  rw [Bool.eq_iff_iff]; simp

theorem map_erase {α β : Type} (f : α → β) : ∀ (l : List α) (i : Nat), (l.map f).eraseIdx i = (l.eraseIdx i).map f
  | [], _ => by simp
  | a :: l, 0 => by simp
  | a :: l, i + 1 => by simp [map_erase f l i]
theorem WfE.eq_of_key {κ ν : Type} {l : List (Ent κ ν)} {c : Nat} (h : WfE l c) {x e : Ent κ ν} (hx : x ∈ l) (he : e ∈ l) (hk : x.1 = e.1) : x = e := by
  obtain ⟨i, hi, rfl⟩ := List.getElem_of_mem hx
  obtain ⟨j, hj, rfl⟩ := List.getElem_of_mem he
  have hn := List.nodup_iff_pairwise_ne.1 h.keys
  rw [List.pairwise_map, List.pairwise_iff_getElem] at hn
  rcases Nat.lt_trichotomy i j with h | h | h
  · exact absurd hk (hn i j hi hj h)
  · subst h; rfl
  · exact absurd hk.symm (hn j i hj hi h)
theorem WfE.eq_of_stamp {κ ν : Type} {l : List (Ent κ ν)} {c : Nat} (h : WfE l c) {x e : Ent κ ν} (hx : x ∈ l) (he : e ∈ l) (hk : x.2.2 = e.2.2) : x = e := by
  obtain ⟨i, hi, rfl⟩ := List.getElem_of_mem hx
  obtain ⟨j, hj, rfl⟩ := List.getElem_of_mem he
  have hn := List.nodup_iff_pairwise_ne.1 h.stamps
  rw [List.pairwise_map, List.pairwise_iff_getElem] at hn
  rcases Nat.lt_trichotomy i j with h | h | h
  · exact absurd hk (hn i j hi hj h)
  · subst h; rfl
  · exact absurd hk.symm (hn j i hj hi h)
/-- How many entries an iterator has not handed out. -/
def unseenE {κ ν : Type} (l : List (Ent κ ν)) (seen : Array Nat) : Nat := (l.filter fun e => !seen.contains e.2.2).length
theorem filter_length_lt {α : Type} {p q : α → Bool} {l : List α} (hpq : ∀ x ∈ l, p x = true → q x = true) {e : α} (he : e ∈ l) (h1 : p e = false) (h2 : q e = true) : (l.filter p).length < (l.filter q).length := by
  induction l with
  | nil => cases he
  | cons a l ih =>
    have hle : ∀ l : List α, (∀ x ∈ l, p x = true → q x = true) → (l.filter p).length ≤ (l.filter q).length := by
      intro l
      induction l with
      | nil => intro _; exact Nat.le_refl _
      | cons a l ih =>
        intro h
        have := ih fun x hx => h x (List.mem_cons_of_mem _ hx)
        have ha := h a List.mem_cons_self
        rw [List.filter_cons, List.filter_cons]
        by_cases hp : p a = true
        · rw [if_pos hp, if_pos (ha hp)]; simp only [List.length_cons]; omega
        · rw [if_neg hp]
          split
          · simp only [List.length_cons]; omega
          · exact this
    have hr := hle l fun x hx => hpq x (List.mem_cons_of_mem _ hx)
    rw [List.filter_cons, List.filter_cons]
    rcases List.mem_cons.1 he with rfl | he
    · rw [if_neg (by rw [h1]; decide), if_pos h2]
      simp only [List.length_cons]; omega
    · have := ih (fun x hx => hpq x (List.mem_cons_of_mem _ hx)) he
      have ha := hpq a List.mem_cons_self
      by_cases hp : p a = true
      · rw [if_pos hp, if_pos (ha hp)]; simp only [List.length_cons]; omega
      · rw [if_neg hp]
        split
        · simp only [List.length_cons]; omega
        · exact this
theorem unseen_push {κ ν : Type} {l : List (Ent κ ν)} {seen : Array Nat} {e : Ent κ ν} (he : e ∈ l) (hs : seen.contains e.2.2 = false) : unseenE l (seen.push e.2.2) < unseenE l seen := by
  refine filter_length_lt (fun x _ hx => ?_) he (by simp [contains_push]) (by rw [hs]; rfl)
  rw [contains_push] at hx
  cases hc : seen.contains x.2.2
  · rfl
  · rw [hc] at hx; simp at hx
def seenOf (w : World) (it : Nat) : Array Nat := match w.heap[it]? with
  | some (.mapIter _ _ s _) => s
  | _ => #[]
/-! ### Maps as things -/
section
variable {κ ν : Type} [Enc κ] [Enc ν]
/-- A map of one's own: its entries, as they lie, and its clock. -/
def mapE (m : Nat) (l : List (Ent κ ν)) (c : Nat) : Dat := ⟨fun B => B.keep m ∧ B.W.heap[m]? = some (.map (l.map entV).toArray c), fun {B B'} hl ⟨h1, h2⟩ => by
  obtain ⟨h3, h4⟩ := hl m h1 (Array.getElem?_eq_some_iff.1 h2).1
  exact ⟨h3, h4.trans h2⟩⟩
/-- An iterator over it. -/
def iterE (it m since : Nat) (seen : Array Nat) (last : Nat) : Dat := ⟨fun B => B.keep it ∧ B.W.heap[it]? = some (.mapIter (some m) since seen last), fun {B B'} hl ⟨h1, h2⟩ => by
  obtain ⟨h3, h4⟩ := hl it h1 (Array.getElem?_eq_some_iff.1 h2).1
  exact ⟨h3, h4.trans h2⟩⟩
end
theorem seenOf_eq {B : Base} {w : World} {σ : List Dat} {j it m since last : Nat} {seen : Array Nat} (h : Rel B w σ) (hj : σ[j]? = some (iterE it m since seen last)) : seenOf w it = seen := by
  have : w.heap[it]? = some (.mapIter (some m) since seen last) := (h.here hj).2
  unfold seenOf
  rw [this]
abbrev mapV (m : Nat) : Value := .map (some m)

section
variable {P : Program} {K : Value → World → Prop} {Kp : Value → Prop} {B : Base} {w : World} {σ : List Dat} {T k E : TypeId} {m c : Nat} {κ ν : Type} [Enc κ] [Enc ν] [DecidableEq κ] {l : List (Ent κ ν)}

theorem Rel.setObj (h : Rel B w σ) (i : Nat) {d e : Dat} {r : Nat} {o : Obj} (hi : σ[i]? = some e) (he : ∀ B : Base, e B → B.keep r ∧ r < B.W.heap.size) (hd : ∀ B : Base, B.keep r → B.W.heap[r]? = some o → d B) : Rel B { w with heap := w.heap.setIfInBounds r o } (σ.set i d) := by
  obtain ⟨cc, h⟩ := h
  obtain ⟨hk, hs⟩ := he _ (h.own i e hi)
  have hk : cc r = i + 1 := hk
  have hs : r < w.heap.size := hs
  refine ⟨cc, h.step hi ⟨rfl, rfl, rfl, by simp, fun _ _ => rfl, fun j hj hT => ?_⟩ (hd _ hk (by simp [hs]))⟩
  have hjr : r ≠ j := by rintro rfl; exact hT hk
  exact Array.getElem?_setIfInBounds_ne hjr
omit [DecidableEq κ] in
theorem mapE.lt {B : Base} (h : mapE m l c B) : B.keep m ∧ m < B.W.heap.size := ⟨h.1, (Array.getElem?_eq_some_iff.1 h.2).1⟩
theorem iterE.lt {B : Base} {it m since last : Nat} {seen : Array Nat} (h : iterE it m since seen last B) : B.keep it ∧ it < B.W.heap.size := ⟨h.1, (Array.getElem?_eq_some_iff.1 h.2).1⟩
theorem run_getObj {r : Nat} {o : Obj} (h : w.heap[r]? = some o) (hn : ∀ a b f, o ≠ .cells a b f) : (getObj r).run P w = .ok o w := by
  unfold getObj
  simp only [Sem.run, h]
theorem run_setObj {r : Nat} {o o' : Obj} (h : w.heap[r]? = some o) (hn : ∀ a b f, o ≠ .cells a b f) : (setObj r o').run P w = .ok () { w with heap := w.heap.setIfInBounds r o' } := by
  unfold Go.setObj
  simp only [Sem.run, h]

theorem Rel.mkMap (h : Rel B w σ) (κ ν : Type) [Enc κ] [Enc ν] (k : ∀ m w', Rel B w' (σ ++ [mapE m ([] : List (Ent κ ν)) 0]) → K (mapV m) w') : upK P (sMkMap T none) w K := by
  obtain ⟨cc, h⟩ := h
  refine upK_of (v := .map (some w.heap.size)) (w' := w.alloc (.map #[] 0)) (vN_run ?_) (k _ _ ⟨paint cc w.heap.size (σ.length + 1), h.push (Step.alloc nobody cc w _ _) ⟨by simp [paint], heap_alloc_new w _⟩⟩)
  rfl

theorem look_run (hb : w.heap[m]? = some (.map (l.map entV).toArray c)) (hT : P.underlying T = some (.map k E)) (hk : KeyTy P k κ) (z : ν) (hz : (P.info? E).bind (·.zero) = some (Enc.val z)) (x : κ) (ok : Bool) :
    (Instr.lookup T (.map (some m)) (Enc.val x) ok).run P w = .ok (if ok then .tuple #[Enc.val ((getE x l).getD z), .bool (getE x l).isSome] else Enc.val ((getE x l).getD z)) w := by
  have hzr : (zeroValue E).run P w = .ok (Enc.val z) w := by
    cases hi : P.info? E with
    | none => rw [hi] at hz; cases hz
    | some i =>
      rw [hi] at hz
      simp only [Option.bind_some] at hz
      simp [zeroValue, typeInfo, hi, hz]
  unfold Instr.lookup
  rw [Sem.run_bind, run_underlying hT]
  simp only [Result.andThen_ok]
  rw [Sem.run_bind]
  simp only [bind_assoc, pure_bind]
  rw [run_getObj hb (by intro a b f h; cases h)]
  simp only [Result.andThen_ok]
  rw [Sem.run_bind, hk.chk]
  simp only [Result.andThen_ok]
  rw [Sem.run_bind, hk.find]
  simp only [Result.andThen_ok]
  unfold getE
  cases hf : findE x l 0 with
  | none => simp [hzr]
  | some p => simp

theorem mapE.look {w : World} (h : (mapE m l c).here w) (hT : P.underlying T = some (.map k E)) (hk : KeyTy P k κ) (z : ν) (hz : (P.info? E).bind (·.zero) = some (Enc.val z)) (x : κ) {xv yv : Value} (hx : xv = Enc.val x := by rfl) (hy : yv = Enc.val ((getE x l).getD z) := by rfl) :
    readK P (sLookup T (.map (some m)) xv false) w Kp = Kp yv := by
  subst hx hy
  exact readK_eq (vN_run (look_run h.2 hT hk z hz x false))
theorem Rel.lookup (h : Rel B w σ) (i : Nat) (hi : σ[i]? = some (mapE m l c)) (hT : P.underlying T = some (.map k E)) (hk : KeyTy P k κ) (z : ν) (hz : (P.info? E).bind (·.zero) = some (Enc.val z)) (x : κ) {xv yv : Value} (hx : xv = Enc.val x := by rfl) (hy : yv = Enc.val ((getE x l).getD z) := by rfl) :
    readK P (sLookup T (.map (some m)) xv false) w Kp = Kp yv := by
  subst hx hy
  exact readK_eq (vN_run (look_run (h.here hi).2 hT hk z hz x false))
theorem Rel.lookupOk (h : Rel B w σ) (i : Nat) (hi : σ[i]? = some (mapE m l c)) (hT : P.underlying T = some (.map k E)) (hk : KeyTy P k κ) (z : ν) (hz : (P.info? E).bind (·.zero) = some (Enc.val z)) (x : κ) {xv yv : Value} (hx : xv = Enc.val x := by rfl) (hy : yv = Enc.val ((getE x l).getD z) := by rfl) :
    readK P (sLookup T (.map (some m)) xv true) w Kp = Kp (.tuple #[yv, .bool (getE x l).isSome]) := by
  subst hx hy
  exact readK_eq (vN_run (look_run (h.here hi).2 hT hk z hz x true))

theorem Rel.mapUpd (h : Rel B w σ) (i : Nat) (hi : σ[i]? = some (mapE m l c)) (hT : P.underlying T = some (.map k E)) (hk : KeyTy P k κ) (x : κ) (y : ν) {xv yv : Value} (kk : ∀ w', Rel B w' (σ.set i (mapE m (setE x y l c).1 (setE x y l c).2)) → K undef w') (hx : xv = Enc.val x := by rfl) (hy : yv = Enc.val y := by rfl) :
    upK P (sMapUpd T (.map (some m)) xv yv) w K := by
  subst hx hy
  have hb := (h.here hi).2
  have hb : w.heap[m]? = some (.map (l.map entV).toArray c) := hb
  refine upK_skip (w' := { w with heap := w.heap.setIfInBounds m (.map ((setE x y l c).1.map entV).toArray (setE x y l c).2) }) (uN_run ?_) (kk _ (h.setObj i hi (fun B hb => mapE.lt hb) fun B h1 h2 => ⟨h1, h2⟩))
  unfold Instr.mapUpdate
  rw [Sem.run_bind, run_underlying hT]
  simp only [Result.andThen_ok]
  rw [Sem.run_bind, run_getObj hb (by intro a b f h; cases h)]
  simp only [Result.andThen_ok]
  rw [Sem.run_bind, hk.chk]
  simp only [Result.andThen_ok]
  rw [Sem.run_bind, hk.find]
  simp only [Result.andThen_ok]
  unfold setE
  cases hf : findE x l 0 with
  | none =>
    simp only [Option.map_none]
    rw [run_setObj hb (by intro a b f h; cases h)]
    congr 4
    simp [entV]
  | some p =>
    obtain ⟨h1, h2, _⟩ := findE_some (i := p.1) (v := p.2) hf
    simp only [Option.map_some]
    have e1 : (((l.map entV).toArray[p.1]?).map (·.key)).getD (Enc.val x) = Enc.val x := by simp [h1, entV, h2]
    have e2 : (Instr.keyThatStays (Enc.val x) (Enc.val x)).run P w = .ok (Enc.val x) w := by
      unfold Instr.keyThatStays
      rw [if_pos (hk.bits x)]
      rfl
    rw [e1, Sem.run_bind, e2]
    simp only [Result.andThen_ok]
    rw [run_setObj hb (by intro a b f h; cases h)]
    congr 4
    apply Array.ext'
    rw [Array.toList_modify]
    apply List.ext_getElem (by simp)
    intro j hj1 hj2
    simp only [List.getElem_modify, List.getElem_map, List.getElem_toArray]
    split
    · rename_i e; subst e; simp [entV, h2]
    · rfl

theorem Rel.mapEntry (h : Rel B w σ) (i : Nat) (hi : σ[i]? = some (mapE m l c)) (hT : P.underlying T = some (.map k E)) (hk : KeyTy P k κ) (z : ν) (hz : (P.info? E).bind (·.zero) = some (Enc.val z)) (x : κ) {xv : Value}
    (kk : ∀ w', Rel B w' (σ.set i (mapE m (entryE x z l c).1 (entryE x z l c).2.1)) → K (.tuple #[Enc.val (entryE x z l c).2.2.2, .int .i64 (entryE x z l c).2.2.1]) w') (hx : xv = Enc.val x := by rfl) :
    upK P (sMapEntry T (.map (some m)) xv) w K := by
  subst hx
  have hb := (h.here hi).2
  have hb : w.heap[m]? = some (.map (l.map entV).toArray c) := hb
  have hzr : (zeroValue E).run P w = .ok (Enc.val z) w := by
    cases hi : P.info? E with
    | none => rw [hi] at hz; cases hz
    | some i =>
      rw [hi] at hz
      simp only [Option.bind_some] at hz
      simp [zeroValue, typeInfo, hi, hz]
  refine upK_of (w' := { w with heap := w.heap.setIfInBounds m (.map ((entryE x z l c).1.map entV).toArray (entryE x z l c).2.1) }) (vN_run ?_) (kk _ (h.setObj i hi (fun B hb => mapE.lt hb) fun B h1 h2 => ⟨h1, h2⟩))
  unfold Instr.mapEntry
  rw [Sem.run_bind, run_underlying hT]
  simp only [Result.andThen_ok]
  rw [Sem.run_bind, run_getObj hb (by intro a b f h; cases h)]
  simp only [Result.andThen_ok]
  rw [Sem.run_bind, hk.chk]
  simp only [Result.andThen_ok]
  rw [Sem.run_bind, hk.find]
  simp only [Result.andThen_ok]
  unfold entryE
  cases hf : findE x l 0 with
  | none =>
    simp only [Option.map_none]
    rw [Sem.run_bind, hzr]
    simp only [Result.andThen_ok]
    rw [Sem.run_bind, run_setObj hb (by intro a b f h; cases h)]
    simp [entV, goInt]
  | some p =>
    obtain ⟨h1, h2, _⟩ := findE_some (i := p.1) (v := p.2) hf
    simp only [Option.map_some]
    have e1 : (((l.map entV).toArray[p.1]?).map (·.key)).getD (Enc.val x) = Enc.val x := by simp [h1, entV, h2]
    have e2 : (Instr.keyThatStays (Enc.val x) (Enc.val x)).run P w = .ok (Enc.val x) w := by
      unfold Instr.keyThatStays
      rw [if_pos (hk.bits x)]
      rfl
    rw [e1, Sem.run_bind, e2]
    simp only [Result.andThen_ok]
    rw [Sem.run_bind, run_setObj hb (by intro a b f h; cases h)]
    have e3 : ((l.map entV).toArray.modify p.1 fun e => { e with key := Enc.val x }) = (l.map entV).toArray := by
      apply Array.ext'
      rw [Array.toList_modify]
      apply List.ext_getElem (by simp)
      intro j hj1 hj2
      simp only [List.getElem_modify, List.getElem_map, List.getElem_toArray]
      split
      · rename_i e; subst e; simp [entV, h2]
      · rfl
    simp only [Result.andThen_ok, e3]
    simp [goInt, h1, entV]

omit [DecidableEq κ] in
theorem Rel.entryStore (h : Rel B w σ) (i : Nat) (hi : σ[i]? = some (mapE m l c)) {b : Nat} (hin : ∃ e ∈ l, e.2.2 = b) (y : ν) {yv : Value} (kk : ∀ w', Rel B w' (σ.set i (mapE m (storeE b y l) c)) → K undef w') (hy : yv = Enc.val y := by rfl) :
    upK P (sEntryStore T (.map (some m)) (.int .i64 b) yv) w K := by
  subst hy
  have hb := (h.here hi).2
  have hb : w.heap[m]? = some (.map (l.map entV).toArray c) := hb
  refine upK_skip (w' := { w with heap := w.heap.setIfInBounds m (.map ((storeE b y l).map entV).toArray c) }) (uN_run ?_) (kk _ (h.setObj i hi (fun B hb => mapE.lt hb) fun B h1 h2 => ⟨h1, h2⟩))
  unfold Instr.entryStore
  rw [Sem.run_bind, run_getObj hb (by intro a b f h; cases h)]
  simp only [Result.andThen_ok]
  have hA : (asInt (.int .i64 b)).run P w = .ok (b : Int) w := by simp [asInt, asIntOf]
  rw [Sem.run_bind, hA]
  simp only [Result.andThen_ok]
  have hf : (l.map entV).toArray.findIdx? (fun e => (e.born : Int) == (b : Int)) = l.findIdx? fun e => e.2.2 == b := by
    simp only [List.findIdx?_toArray, List.findIdx?_map]
    congr 1
    funext e
    simp only [Function.comp_apply, entV]
    rw [Bool.eq_iff_iff]
    simp
    omega
  rw [hf]
  unfold storeE
  cases hfi : l.findIdx? fun e => e.2.2 == b with
  | none =>
    obtain ⟨e, he, h1⟩ := hin
    have := List.findIdx?_eq_none_iff.1 hfi e he
    simp [h1] at this
  | some j =>
    simp only []
    rw [run_setObj hb (by intro a b f h; cases h)]
    congr 4
    apply Array.ext'
    rw [Array.toList_modify]
    apply List.ext_getElem (by simp)
    intro q hj1 hj2
    simp only [List.getElem_modify, List.getElem_map, List.getElem_toArray]
    split <;> rfl

theorem Rel.delete (h : Rel B w σ) (i : Nat) (hi : σ[i]? = some (mapE m l c)) (hT : P.underlying T = some (.map k E)) (hk : KeyTy P k κ) (x : κ) {xv : Value} {U : TypeId} {bs : Array Bool} (kk : ∀ w', Rel B w' (σ.set i (mapE m (delE x l) c)) → K (.tuple #[]) w') (hx : xv = Enc.val x := by rfl) :
    upK P (sBlt .delete #[T, k] U bs #[.map (some m), xv]) w K := by
  subst hx
  have hb := (h.here hi).2
  have hb : w.heap[m]? = some (.map (l.map entV).toArray c) := hb
  refine upK_of (v := .tuple #[]) (w' := { w with heap := w.heap.setIfInBounds m (.map ((delE x l).map entV).toArray c) }) (vN_run ?_) (kk _ (h.setObj i hi (fun B hb => mapE.lt hb) fun B h1 h2 => ⟨h1, h2⟩))
  unfold Builtin.delete_
  simp only [List.getElem?_toArray, List.getElem?_cons_zero, List.getElem?_cons_succ]
  rw [Sem.run_bind, run_underlying hT]
  simp only [Result.andThen_ok]
  rw [Sem.run_bind]
  rw [run_getObj hb (by intro a b f h; cases h)]
  simp only [Result.andThen_ok]
  rw [Sem.run_bind, hk.chk]
  simp only [Result.andThen_ok]
  rw [Sem.run_bind, hk.find]
  simp only [Result.andThen_ok]
  unfold delE
  cases hf : findE x l 0 with
  | none =>
    simp only [Option.map_none]
    rw [Sem.run_bind, run_setObj hb (by intro a b f h; cases h)]
    rfl
  | some p =>
    obtain ⟨h1, h2, _⟩ := findE_some (i := p.1) (v := p.2) hf
    simp only [Option.map_some]
    have : ((l.map entV).toArray.eraseIdxIfInBounds p.1) = ((l.eraseIdx p.1).map entV).toArray := by
      apply Array.ext'
      simp [Array.eraseIdxIfInBounds, h1, map_erase]
    rw [Sem.run_bind, run_setObj hb (by intro a b f h; cases h), this]
    rfl

omit [DecidableEq κ] in
theorem len_map (h : Rel B w σ) (i : Nat) (hi : σ[i]? = some (mapE m l c)) (hT : P.underlying T = some (.map k E)) {U : TypeId} {bs : Array Bool} : readK P (sBlt .len #[T] U bs #[.map (some m)]) w Kp = Kp (.int .i64 l.length) := readK_eq (vN_run (by
  have hb : w.heap[m]? = some (.map (l.map entV).toArray c) := (h.here hi).2
  have hg := run_getObj (P := P) hb (by intro a b f h; cases h)
  simp [Builtin.len_, run_underlying hT, hg, goInt]))

omit [DecidableEq κ] in
theorem Rel.range (h : Rel B w σ) (i : Nat) (hi : σ[i]? = some (mapE m l c)) (hT : P.underlying T = some (.map k E)) (kk : ∀ it w', Rel B w' (σ ++ [iterE it m c #[] c]) → K (.pointer (some ⟨it, 0, none⟩)) w') : upK P (sRange T (.map (some m))) w K := by
  have hb : w.heap[m]? = some (.map (l.map entV).toArray c) := (h.here hi).2
  have hrun := run_range_map (P := P) w T k E m _ c hT hb
  obtain ⟨cc, h⟩ := h
  refine upK_of (vN_run hrun) (kk _ _ ⟨paint cc w.heap.size (σ.length + 1), h.push (Step.alloc nobody cc w _ _) ⟨by simp [paint], heap_alloc_new w _⟩⟩)

omit [DecidableEq κ] in
theorem Rel.next (h : Rel B w σ) (i j it : Nat) {seen : Array Nat} (hi : σ[i]? = some (mapE m l c)) (hj : σ[j]? = some (iterE it m c seen c)) (hb : ∀ e ∈ l, e.2.2 < c)
    (k0 : ∀ w', (∀ e ∈ l, seen.contains e.2.2 = true) → Rel B w' σ → K (.tuple #[.bool false]) w')
    (k1 : ∀ e w', e ∈ l → seen.contains e.2.2 = false → Rel B w' (σ.set j (iterE it m c (seen.push e.2.2) c)) → K (.tuple #[.bool true, Enc.val e.1, Enc.val e.2.1]) w') : upK P (sNext (.pointer (some ⟨it, 0, none⟩)) false T) w K := by
  have hm : w.heap[m]? = some (.map (l.map entV).toArray c) := (h.here hi).2
  have hit : w.heap[it]? = some (.mapIter (some m) c seen c) := (h.here hj).2
  have hold : ∀ x ∈ (l.map entV).toArray.toList, x.born < c := by
    intro x hx
    have hx : x ∈ l.map entV := by simpa only [List.toList_toArray] using hx
    obtain ⟨e, he, rfl⟩ := List.mem_map.1 hx
    exact hb e he
  rcases run_next_at (P := P) w T it m c c seen _ c hit hm hold (Nat.le_refl _) with ⟨h0, hr⟩ | ⟨x, hx, w1, hw, hr⟩
  · refine upK_of (vN_run hr) (k0 w (fun e he => ?_) h)
    have he0 : leftOf (l.map entV).toArray seen = #[] := Array.eq_empty_of_size_eq_zero h0
    cases hc : seen.contains e.2.2 with
    | true => rfl
    | false =>
      have : entV e ∈ (leftOf (l.map entV).toArray seen) := by
        unfold leftOf
        rw [Array.mem_filter]
        refine ⟨by simp; exact ⟨e.1, e.2.1, e.2.2, he, rfl⟩, ?_⟩
        show (!seen.contains e.2.2) = true
        rw [hc]; rfl
      rw [he0] at this
      simp at this
  · have hx' : x ∈ leftOf (l.map entV).toArray seen := by simpa using hx
    unfold leftOf at hx'
    rw [Array.mem_filter] at hx'
    obtain ⟨hx1, hx2⟩ := hx'
    obtain ⟨e, he, rfl⟩ := List.mem_map.1 (List.mem_toArray.1 hx1)
    have hns : seen.contains e.2.2 = false := by
      have : (!seen.contains e.2.2) = true := hx2
      simpa using this
    have h1 : Rel B w1 σ := by
      rcases hw with rfl | rfl
      · exact h
      · exact h.tick
    exact upK_of (vN_run hr) (k1 e _ he hns (h1.setObj j hj (fun B hb => iterE.lt hb) fun B h1 h2 => ⟨h1, h2⟩))

omit [DecidableEq κ] in
theorem Rel.entry (h : Rel B w σ) (i j it : Nat) {seen : Array Nat} (hi : σ[i]? = some (mapE m l c)) {e : Ent κ ν} (hj : σ[j]? = some (iterE it m c (seen.push e.2.2) c)) (he : e ∈ l) (hn : (l.map (·.2.2)).Nodup)
    (kk : ∀ w', Rel B w' σ → K (.tuple #[Enc.val e.1, Enc.val e.2.1]) w') : upK P (sEntry (.pointer (some ⟨it, 0, none⟩))) w K := by
  have hm : w.heap[m]? = some (.map (l.map entV).toArray c) := (h.here hi).2
  have hit : w.heap[it]? = some (.mapIter (some m) c (seen.push e.2.2) c) := (h.here hj).2
  have := run_entry_at (P := P) w it m c seen (l.map entV).toArray c (entV e) hit hm (by simp; exact ⟨e.1, e.2.1, e.2.2, he, rfl⟩) (by simpa [Function.comp_def, entV] using hn)
  exact upK_of (vN_run this) (kk w h)

/-! ### maps.Clone -/
omit [Enc κ] [Enc ν] [DecidableEq κ] in
theorem run_equalIn_map_nil (d : Nat) (hT : P.underlying T = some (.map k E)) : (Op.equalIn (d + 1) T (.map (some m)) (.map none)).run P w = .ok false w := by simp [Op.equalIn, run_underlying hT]
omit [Enc κ] [Enc ν] [DecidableEq κ] in
theorem eql_map_nil {xo yo : Operand} (hT : P.underlying T = some (.map k E)) : pureK P (sBin .eql T xo yo (.map (some m)) (.map none)) Kp = Kp (.bool false) := pureK_eq fun w => sBin_eq rfl (by
  have h2 : (Op.equal T (.map (some m)) (.map none)).run P w = .ok false w := run_equalIn_map_nil 9999 hT
  simp only [binOp]
  simp [h2])
end
end Go.Proofs.YtefinemhfgdpdaaGreatDoor
