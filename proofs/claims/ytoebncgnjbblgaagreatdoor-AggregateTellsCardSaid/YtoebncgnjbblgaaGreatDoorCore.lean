/-
  The core of the proofs of this seat: a weakest precondition that the kernel reckons over a function's code (WP), proved sound over the model's own rules. No condition.
-/
import Derived.OrdersHeld
import Derived.WalkKit
namespace Go.Proofs.YtoebncgnjbblgaaGreatDoor
set_option linter.unusedVariables false

/-- What is known of a slot: a bool that is known, or a value. -/
inductive AV where
  | lit (b : Bool)
  | val (v : Value)
  | und

def AV.v : AV → Value
  | .lit b => .bool b
  | .val v => v
  | .und => undef

abbrev Env := List (Nat × AV)

def look : Env → Nat → Option AV
  | [], _ => none
  | (k, x) :: r, t => match Nat.beq k t with
    | true => some x
    | false => look r t

def knownT (r : Env) (t : Nat) : Bool := (look r t).isSome
def known (r : Env) : Operand → Bool
  | .tmp t => knownT r t
  | _ => true

def avOf (r : Env) : Operand → AV
  | .tmp t => match look r t with
    | some x => x
    | none => .val undef
  | .const (.bool b) => .lit b
  | .const v => .val v
  | .global g => .val (.pointer (some ⟨g, 0, none⟩))
  | .func f => .val (.func (.func f) #[] #[])

def ev (r : Env) (x : Operand) : Value := (avOf r x).v

def setD (r : Env) : Option Nat → AV → Env
  | none, _ => r
  | some d, x => (d, x) :: r

def okd (n : Nat) : Option Nat → Bool
  | none => true
  | some d => Nat.blt d n

structure Fits (n : Nat) (r : Env) (a : Act) : Prop where
  defers : a.defers = []
  size : a.tmps.size = n
  at_ : ∀ t x, look r t = some x → a.tmps[t]? = some x.v

theorem look_cons (k : Nat) (x : AV) (r : Env) (t : Nat) : look ((k, x) :: r) t = if k = t then some x else look r t := by
  simp only [look]
  by_cases h : k = t
  · subst h; simp
  · have : Nat.beq k t = false := by
      cases hb : Nat.beq k t with
      | false => rfl
      | true => exact absurd (Nat.eq_of_beq_eq_true hb) h
    simp [this, h]

theorem Fits.put {n : Nat} {r : Env} {a : Act} {d : Option Nat} {x : AV} (h : Fits n r a) (hd : okd n d = true) : Fits n (setD r d x) (a.put d x.v) := by
  cases d with
  | none => exact h
  | some d =>
    have hlt : d < n := by simpa [okd] using hd
    refine ⟨h.defers, by simp [Act.put, h.size], fun t y hy => ?_⟩
    simp only [setD, look_cons] at hy
    simp only [Act.put]
    by_cases e : d = t
    · subst e
      simp at hy
      subst hy
      simp [h.size, hlt]
    · simp [e] at hy
      rw [Array.getElem?_setIfInBounds_ne e]
      exact h.at_ t y hy

theorem Fits.ev {n : Nat} {r : Env} {a : Act} (h : Fits n r a) {x : Operand} (hk : known r x = true) : a.eval x = ev r x := by
  cases x with
  | tmp t =>
    simp only [known, knownT] at hk
    cases hl : look r t with
    | none => simp [hl] at hk
    | some y =>
      have := h.at_ t y hl
      simp only [Act.eval, Go.Proofs.YtoebncgnjbblgaaGreatDoor.ev, avOf, hl]
      simp [this]
  | const v => cases v <;> rfl
  | global g => rfl
  | func f => rfl

theorem Fits.know {n : Nat} {r : Env} {a : Act} (h : Fits n r a) {t : Nat} {v : Value} {b : Bool} (hl : look r t = some (.val v)) (hv : v = .bool b) :
    Fits n ((t, .lit b) :: r) a := by
  refine ⟨h.defers, h.size, fun s y hy => ?_⟩
  rw [look_cons] at hy
  by_cases e : t = s
  · subst e
    simp at hy
    subst hy
    have := h.at_ t _ hl
    rw [this, hv]; rfl
  · simp [e] at hy; exact h.at_ s y hy

/-! ### What the text speaks in -/

def retK (K : Value → World → Prop) : Ending → World → Prop
  | .returned v, w => K v w
  | _, _ => False

def ifB (v : Value) (A B : Prop) : Prop := ∃ b : Bool, v = .bool b ∧ (match b with | true => A | false => B)

def pureK (P : Program) (s : Sem Next) (K : Value → Prop) : Prop := ∃ v, (∀ w, s.run P w = .ok (.value v) w) ∧ K v
def readK (P : Program) (s : Sem Next) (w : World) (K : Value → Prop) : Prop := ∃ v, s.run P w = .ok (.value v) w ∧ K v
def upR (P : Program) (K : Value → World → Prop) : Result Next → Prop
  | .ok (.value v) w' => K v w'
  | .ok .skip w' => K undef w'
  | .ok (.enter f args) w' => Calls P f args w' (retK K)
  | _ => False
def upK (P : Program) (s : Sem Next) (w : World) (K : Value → World → Prop) : Prop := upR P K (s.run P w)
def Is (P : Program) (s : Sem Next) (v : Value) (w : World) : Prop := s.run P w = .ok (.value v) w
def tick (w : World) : World := { w with drawn := w.drawn + 1 }

/-- It says x. The kernel opens a definition of greater height first: what reckons has to stand above what the text speaks in. -/
def Hi {α : Sort _} (x : α) : α := (fun _ : Unit → Prop => x) (fun _ => ∀ P s w K, upK P s w K)
attribute [reducible] Hi
theorem Hi_eq {α : Sort _} (x : α) : Hi x = x := rfl

def iter {X : Type} (B : X → World → (X → World → Prop) → Prop) : Nat → X → World → Prop
  | 0, _, _ => False
  | k + 1, x, w => B x w (iter B k)
def LOOP {X : Type} (B : X → World → (X → World → Prop) → Prop) (x : X) (w : World) : Prop := ∃ k, iter B k x w

theorem LOOP_intro {X : Type} {B : X → World → (X → World → Prop) → Prop} {x : X} {w : World} (I : X → World → Prop) (m : X → World → Nat) (h0 : I x w)
    (hB : ∀ x w, I x w → ∀ next : X → World → Prop, (∀ x' w', I x' w' → m x' w' < m x w → next x' w') → B x w next) : LOOP B x w := by
  have key : ∀ k x w, I x w → m x w < k → iter B k x w := by
    intro k
    induction k with
    | zero => intro x w _ h; omega
    | succ k ih => intro x w hI hk; exact hB x w hI _ fun x' w' hI' hlt => ih x' w' hI' (by omega)
  exact ⟨m x w + 1, key _ x w h0 (by omega)⟩

/-! ### Operations -/

inductive Kind where
  | pure | read | mover

def kindOf : Op → Kind
  | .load .. | .lookup .. | .waits _ => .read
  | .binOp .. | .unOp .. | .build .. | .nilCheck _ | .fieldAddr .. | .field .. | .indexAddr .. | .index .. | .extract .. | .slice .. | .makeInterface .. | .makeFunc .. | .move _ | .assign _ | .pick .. => .pure
  | .call { callee := .builtin .len, .. } | .call { callee := .builtin .cap, .. } => .read
  | .call { callee := .builtin .min, .. } | .call { callee := .builtin .max, .. } => .pure
  | _ => .mover

def isSelect : Op → Bool
  | .select .. => true
  | _ => false

/-- Run one operation whose guard is met. -/
def runOp (P : Program) (n : Nat) (o : Oper) (r : Env) (w : World) (K : Env → World → Prop) : Prop :=
  match okd n o.dst with
  | false => False
  | true =>
    match o.op with
    | .move x => match known r x with
      | true => K (setD r o.dst (avOf r x)) w
      | false => False
    | .assign x => match known r x with
      | true => K (setD r o.dst (avOf r x)) w
      | false => False
    | .pick c a b => match known r c && (known r a && known r b) with
      | false => False
      | true => match avOf r c with
        | .lit true => K (setD r o.dst (avOf r a)) w
        | .lit false => K (setD r o.dst (avOf r b)) w
        | .val v => ifB v (K (setD r o.dst (avOf r a)) w) (K (setD r o.dst (avOf r b)) w)
        | .und => False
    | .panic _ => False
    | op => match isSelect op with
      | true => False
      | false => match op.operands.toList.all (known r) with
        | false => False
        | true => match kindOf op with
          | .pure => pureK P (execOp (ev r) o) fun v => K (setD r o.dst (.val v)) w
          | .read => readK P (execOp (ev r) o) w fun v => K (setD r o.dst (.val v)) w
          | .mover => upK P (execOp (ev r) o) w fun v w' => K (setD r o.dst (.val v)) w'

def guardK (ops : Array Oper) (r : Env) (o : Oper) (run skip : Env → Prop) : Prop :=
  match o.guard with
  | none => Hi (run r)
  | some (j, want) =>
    match (ops[j]?).bind (·.dst) with
    | none => False
    | some t => match look r t with
      | none => False
      | some (.lit b) => match b == want with
        | true => run r
        | false => skip r
      | some .und => skip r
      | some (.val v) => match want with
        | true => ifB v (run ((t, .lit true) :: r)) (skip ((t, .lit false) :: r))
        | false => ifB v (skip ((t, .lit true) :: r)) (run ((t, .lit false) :: r))

def wpE (P : Program) (n : Nat) (ops : Array Oper) (K : Env → World → Prop) : List Oper → Env → World → Prop
  | [], r, w => K r w
  | o :: rest, r, w => guardK ops r o
      (fun r => runOp P n o r w (wpE P n ops K rest))
      (fun r => match okd n o.dst with
        | true => wpE P n ops K rest (setD r o.dst .und) w
        | false => False)

def QQ (n : Nat) (Q : Exit → Env → World → Prop) : Exit → Act → World → Prop
  | .panic _, _, _ => False
  | .outgrown, _, _ => False
  | e, a, w => ∃ r, Fits n r a ∧ Q e r w

theorem execOp_fits {n : Nat} {r : Env} {a : Act} (h : Fits n r a) {o : Oper} (hs : isSelect o.op = false) (hk : o.op.operands.toList.all (known r) = true) :
    execOp a.eval o = execOp (ev r) o :=
  execOp_congr o (fun cs b e => by rw [e] at hs; cases hs) fun x hx => h.ev (by
    rw [List.all_eq_true] at hk
    exact hk x (by simpa using hx))

/-- The generic step. -/
theorem oper_wp_of {P : Program} {o : Oper} {a : Act} {w : World} {K : Value → World → Prop} {K' : Act → World → Prop} {Q : Exit → Act → World → Prop}
    (h : upR P K ((execOp a.eval o).run P w)) (hK : ∀ v w', K v w' → K' (a.put o.dst v) w') : o.wp P a w K' Q := by
  unfold Oper.wp
  generalize (execOp a.eval o).run P w = res at *
  cases res with
  | ok x w' =>
    cases x <;> simp only [upR] at h <;> simp only [Oper.upon]
    case value v => exact hK _ _ h
    case skip => exact hK _ _ h
    case enter f args =>
      refine h.mono fun e w'' he => ?_
      cases e with
      | returned v => exact hK _ _ he
      | panicked c => exact he.elim
      | outgrown => exact he.elim
  | halt x w' => simp only [upR] at h

theorem pureK.up {P : Program} {s : Sem Next} {K : Value → Prop} (h : pureK P s K) (w : World) : upR P (fun v w' => w' = w ∧ K v) (s.run P w) := by
  obtain ⟨v, h1, h2⟩ := h
  rw [h1 w]
  exact ⟨rfl, h2⟩
theorem readK.up {P : Program} {s : Sem Next} {w : World} {K : Value → Prop} (h : readK P s w K) : upR P (fun v w' => w' = w ∧ K v) (s.run P w) := by
  obtain ⟨v, h1, h2⟩ := h
  rw [h1]
  exact ⟨rfl, h2⟩

theorem runOp_sound {P : Program} {n : Nat} {o : Oper} {r : Env} {w : World} {K : Env → World → Prop} {a : Act} {K' : Act → World → Prop} {Q : Exit → Act → World → Prop}
    (h : runOp P n o r w K) (hf : Fits n r a) (hK : ∀ r v w, Fits n r (a.put o.dst v) → K r w → K' (a.put o.dst v) w) : o.wp P a w K' Q := by
  unfold runOp at h
  cases hd : okd n o.dst with
  | false => simp [hd] at h
  | true =>
    simp only [hd] at h
    have mv : ∀ x, known r x = true → (execOp a.eval o) = pure (.value (a.eval x)) → K (setD r o.dst (avOf r x)) w → o.wp P a w K' Q := by
      intro x hk he hh
      refine oper_wp_of (K := fun v w' => v = ev r x ∧ w' = w) ?_ ?_
      · rw [he, hf.ev hk]; exact ⟨rfl, rfl⟩
      · rintro v w' ⟨rfl, rfl⟩; exact hK _ _ _ (hf.put (x := avOf r x) hd) hh
    have gen : isSelect o.op = false → o.op.operands.toList.all (known r) = true →
        (match kindOf o.op with
          | .pure => pureK P (execOp (ev r) o) fun v => K (setD r o.dst (.val v)) w
          | .read => readK P (execOp (ev r) o) w fun v => K (setD r o.dst (.val v)) w
          | .mover => upK P (execOp (ev r) o) w fun v w' => K (setD r o.dst (.val v)) w') → o.wp P a w K' Q := by
      intro hs hall hh
      have he := execOp_fits hf hs hall
      have fin : ∀ v w', K (setD r o.dst (.val v)) w' → K' (a.put o.dst v) w' := fun v w' hh => hK _ _ _ (hf.put (x := .val v) hd) hh
      cases hkd : kindOf o.op <;> rw [hkd] at hh <;> dsimp only at hh
      · refine oper_wp_of (K := fun v w' => w' = w ∧ K (setD r o.dst (.val v)) w) ?_ ?_
        · rw [he]; exact hh.up w
        · rintro v w' ⟨rfl, h2⟩; exact fin _ _ h2
      · refine oper_wp_of (K := fun v w' => w' = w ∧ K (setD r o.dst (.val v)) w) ?_ ?_
        · rw [he]; exact hh.up
        · rintro v w' ⟨rfl, h2⟩; exact fin _ _ h2
      · refine oper_wp_of (K := fun v w' => K (setD r o.dst (.val v)) w') ?_ fin
        rw [he]; exact hh
    obtain ⟨dst, op, type, pos, after, guard⟩ := o
    dsimp only at h hd mv gen ⊢
    have gen' : isSelect op = false → (match isSelect op with
      | true => False
      | false => match op.operands.toList.all (known r) with
        | false => False
        | true => match kindOf op with
          | .pure => pureK P (execOp (ev r) ⟨dst, op, type, pos, after, guard⟩) fun v => K (setD r dst (.val v)) w
          | .read => readK P (execOp (ev r) ⟨dst, op, type, pos, after, guard⟩) w fun v => K (setD r dst (.val v)) w
          | .mover => upK P (execOp (ev r) ⟨dst, op, type, pos, after, guard⟩) w fun v w' => K (setD r dst (.val v)) w') → Oper.wp P ⟨dst, op, type, pos, after, guard⟩ a w K' Q := by
      intro hs hh
      rw [hs] at hh
      dsimp only at hh
      cases hall : op.operands.toList.all (known r) with
      | false => simp [hall] at hh
      | true => rw [hall] at hh; exact gen hs hall hh
    cases op
    case panic x => exact (h : False).elim
    case move x =>
      dsimp only at h
      cases hk : known r x with
      | false => simp [hk] at h
      | true => rw [hk] at h; exact mv x hk rfl h
    case assign x =>
      dsimp only at h
      cases hk : known r x with
      | false => simp [hk] at h
      | true => rw [hk] at h; exact mv x hk rfl h
    case pick c x y =>
      dsimp only at h
      cases hk : known r c && (known r x && known r y) with
      | false => simp [hk] at h
      | true =>
        rw [hk] at h
        dsimp only at h
        simp only [Bool.and_eq_true] at hk
        obtain ⟨k1, k2, k3⟩ := hk
        have hp : ∀ b : Bool, ev r c = .bool b → K (setD r dst (if b then avOf r x else avOf r y)) w → Oper.wp P ⟨dst, .pick c x y, type, pos, after, guard⟩ a w K' Q := by
          intro b hb hh
          refine oper_wp_of (K := fun v w' => v = (if b then avOf r x else avOf r y).v ∧ w' = w) ?_ ?_
          · have : execOp a.eval (⟨dst, .pick c x y, type, pos, after, guard⟩ : Oper) = pure (.value (if b then a.eval x else a.eval y)) := by
              simp only [execOp, hf.ev k1, hb, asBool]; rfl
            rw [this, hf.ev k2, hf.ev k3]
            cases b <;> exact ⟨rfl, rfl⟩
          · rintro v w' ⟨rfl, rfl⟩; exact hK _ _ _ (hf.put hd) hh
        cases hc : avOf r c with
        | lit b =>
          rw [hc] at h
          cases b
          · exact hp false (by simp [ev, hc, AV.v]) h
          · exact hp true (by simp [ev, hc, AV.v]) h
        | val v =>
          rw [hc] at h
          obtain ⟨b, rfl, hh⟩ := h
          cases b
          · exact hp false (by simp [ev, hc, AV.v]) hh
          · exact hp true (by simp [ev, hc, AV.v]) hh
        | und => rw [hc] at h; exact h.elim
    case select cs b => exact h.elim
    all_goals exact gen' rfl h

theorem yielded_fits {n : Nat} {r : Env} {a : Act} (hf : Fits n r a) {ops : Array Oper} {j t : Nat} {b : Bool} (ht : (ops[j]?).bind (·.dst) = some t) (hl : look r t = some (.lit b)) :
    yielded ops a.tmps j = some b := by
  unfold yielded
  have := hf.at_ t _ hl
  simp [ht, this, AV.v]

theorem wanted_of {n : Nat} {r : Env} {a : Act} (hf : Fits n r a) {ops : Array Oper} {o : Oper} {j t : Nat} {want b : Bool} (hg : o.guard = some (j, want)) (ht : (ops[j]?).bind (·.dst) = some t) (hl : look r t = some (.lit b)) :
    Region.wanted o (yielded ops a.tmps) = (b == want) := by
  unfold Region.wanted
  simp only [hg, yielded_fits hf ht hl]
  cases b <;> cases want <;> rfl

theorem wanted_und {n : Nat} {r : Env} {a : Act} (hf : Fits n r a) {ops : Array Oper} {o : Oper} {j t : Nat} {want : Bool} (hg : o.guard = some (j, want)) (ht : (ops[j]?).bind (·.dst) = some t) (hl : look r t = some .und) :
    Region.wanted o (yielded ops a.tmps) = false := by
  have := hf.at_ t _ hl
  have hy : yielded ops a.tmps j = none := by
    unfold yielded
    simp [ht, this, AV.v, undef]
  unfold Region.wanted
  simp only [hg, hy]
  rfl

theorem guardK_sound {n : Nat} {ops : Array Oper} {r : Env} {o : Oper} {run skip : Env → Prop} {a : Act} {C : Prop} (h : guardK ops r o run skip) (hf : Fits n r a)
    (hrun : ∀ r, Fits n r a → Region.wanted o (yielded ops a.tmps) = true → run r → C) (hskip : ∀ r, Fits n r a → Region.wanted o (yielded ops a.tmps) = false → skip r → C) : C := by
  unfold guardK at h
  cases hg : o.guard with
  | none => rw [hg] at h; exact hrun r hf (by simp [Region.wanted, hg]) h
  | some gw =>
    obtain ⟨j, want⟩ := gw
    rw [hg] at h
    dsimp only at h
    cases ht : (ops[j]?).bind (·.dst) with
    | none => rw [ht] at h; exact h.elim
    | some t =>
      rw [ht] at h
      dsimp only at h
      have go : ∀ (r : Env) (b : Bool), Fits n r a → look r t = some (.lit b) → (if b == want then run r else skip r) → C := by
        intro r b hf hl hh
        have hw := wanted_of hf hg ht hl
        cases hb : b == want with
        | true => rw [hb] at hw hh; exact hrun r hf hw hh
        | false => rw [hb] at hw hh; exact hskip r hf hw (by simpa using hh)
      cases hl : look r t with
      | none => rw [hl] at h; exact h.elim
      | some x =>
        rw [hl] at h
        cases x with
        | lit b =>
          dsimp only at h
          refine go r b hf hl ?_
          cases hb : b == want <;> rw [hb] at h
          · simpa using h
          · simpa using h
        | und => exact hskip r hf (wanted_und hf hg ht hl) h
        | val v =>
          dsimp only at h
          cases want
          · obtain ⟨b, hv, hh⟩ := h
            have hf' := hf.know hl hv
            refine go ((t, .lit b) :: r) b hf' (by rw [look_cons]; simp) ?_
            cases b <;> simpa using hh
          · obtain ⟨b, hv, hh⟩ := h
            have hf' := hf.know hl hv
            refine go ((t, .lit b) :: r) b hf' (by rw [look_cons]; simp) ?_
            cases b <;> simpa using hh

def elemN (t : Nat) : List Nat → Bool
  | [] => false
  | x :: l => match Nat.beq x t with
    | true => true
    | false => elemN t l

def Keep (D : List Nat) (a0 a : Act) : Prop := ∀ t, elemN t D = false → a.tmps[t]? = a0.tmps[t]?

theorem elemN_mem {t : Nat} {D : List Nat} (h : t ∈ D) : elemN t D = true := by
  induction D with
  | nil => cases h
  | cons x D ih =>
    unfold elemN
    cases hb : Nat.beq x t with
    | true => rfl
    | false =>
      cases h with
      | head => simp at hb
      | tail _ h => exact ih h

theorem Keep.put {D : List Nat} {a0 a : Act} {d : Option Nat} {v : Value} (h : Keep D a0 a) (hd : ∀ t, d = some t → t ∈ D) : Keep D a0 (a.put d v) := by
  cases d with
  | none => exact h
  | some d =>
    intro t ht
    have hne : d ≠ t := by
      rintro rfl
      rw [elemN_mem (hd d rfl)] at ht
      cases ht
    simp only [Act.put]
    rw [Array.getElem?_setIfInBounds_ne hne]
    exact h t ht

theorem wpE_sound {P : Program} {n : Nat} {ops : Array Oper} {K : Env → World → Prop} {Q : Exit → Act → World → Prop} {D : List Nat} {a0 : Act} (hQ : ∀ r a w, Fits n r a → Keep D a0 a → K r w → Q .normal a w) (l : List Oper)
    (hD : ∀ o ∈ l, ∀ t, o.dst = some t → t ∈ D) :
    ∀ (r : Env) (a : Act) (w : World), wpE P n ops K l r w → Fits n r a → Keep D a0 a → wpList P ops Q l a w := by
  induction l with
  | nil => intro r a w h hf hk; exact hQ r a w hf hk h
  | cons o l ih =>
    intro r a w h hf hkp
    have ih := ih fun o ho => hD o (List.mem_cons_of_mem _ ho)
    have hdo := hD o List.mem_cons_self
    unfold wpE at h
    refine guardK_sound h hf ?_ ?_
    · intro r hf hw hh
      unfold wpList
      rw [if_pos hw]
      exact .inl (runOp_sound hh hf fun r v w hf hk => ih r _ w hk hf (hkp.put hdo))
    · intro r hf hw hh
      unfold wpList
      rw [if_neg (by simp [hw])]
      cases hd : okd n o.dst with
      | false => simp [hd] at hh
      | true => rw [hd] at hh; exact ih _ _ _ hh (hf.put (x := .und) hd) (hkp.put hdo)

/-! ### A region that draws its order -/

def direct (ops : Array Oper) (i j : Nat) : Bool :=
  match ops[i]? with
  | none => false
  | some o => o.after.toList.any fun e => Region.binds .any e && Nat.beq e.on j

def afterOf (ops : Array Oper) (i : Nat) : List Nat := match ops[i]? with
  | none => []
  | some o => o.after.toList.filterMap fun e => match Region.binds .any e with
    | true => some e.on
    | false => none
def reachK : List Nat → List Nat → List Nat → (List Nat → List Nat → List Nat) → List Nat
  | [], nw, seen, k => k nw seen
  | x :: l, nw, seen, k => match elemN x seen with
    | true => reachK l nw seen k
    | false => reachK l (x :: nw) (x :: seen) k
def reach (ops : Array Oper) : Nat → List Nat → List Nat → List Nat
  | 0, _, seen => seen
  | _ + 1, [], seen => seen
  | f + 1, x :: fr, seen => reachK ((x :: fr).flatMap (afterOf ops)) [] seen (reach ops f)
/-- i waits for j: at once, or through others (a few steps deep). -/
def dep (ops : Array Oper) (f i j : Nat) : Bool := elemN j (reach ops f [i] [])

def DownClosed (ops : Array Oper) (listed : Array Bool) : Prop := ∀ k o, ops[k]? = some o → listed.getD k false = true → ∀ e ∈ o.after, Region.binds .any e = true → listed.getD e.on false = true

theorem direct_listed {ops : Array Oper} {listed : Array Bool} {i j : Nat} (h : direct ops i j = true) (hi : ∀ o, ops[i]? = some o → ∀ e ∈ o.after, Region.binds .any e = true → listed.getD e.on false = true) : listed.getD j false = true := by
  unfold direct at h
  cases ho : ops[i]? with
  | none => rw [ho] at h; cases h
  | some o =>
    rw [ho] at h
    dsimp only at h
    rw [List.any_eq_true] at h
    obtain ⟨e, he, hb⟩ := h
    simp only [Bool.and_eq_true] at hb
    have := Nat.eq_of_beq_eq_true hb.2
    subst this
    exact hi o ho e (by simpa using he) hb.1

theorem elemN_of {t : Nat} : ∀ {l : List Nat}, elemN t l = true → t ∈ l
  | [], h => by cases h
  | a :: l, h => by
    unfold elemN at h
    cases hb : Nat.beq a t with
    | true => rw [Nat.eq_of_beq_eq_true hb]; exact List.mem_cons_self
    | false => rw [hb] at h; exact List.mem_cons_of_mem _ (elemN_of h)
theorem mem_afterOf {ops : Array Oper} {i y : Nat} (h : y ∈ afterOf ops i) : ∃ o, ops[i]? = some o ∧ ∃ e ∈ o.after, Region.binds .any e = true ∧ e.on = y := by
  unfold afterOf at h
  cases ho : ops[i]? with
  | none => rw [ho] at h; cases h
  | some o =>
    rw [ho] at h
    dsimp only at h
    obtain ⟨e, he, hb⟩ := List.mem_filterMap.1 h
    refine ⟨o, rfl, e, by simpa using he, ?_⟩
    cases hbb : Region.binds .any e with
    | true => rw [hbb] at hb; injection hb with hb; exact ⟨rfl, hb⟩
    | false => rw [hbb] at hb; cases hb
theorem reachK_all {Pr : Nat → Prop} {k : List Nat → List Nat → List Nat} (hk : ∀ nw seen, (∀ x ∈ nw, Pr x) → (∀ x ∈ seen, Pr x) → ∀ y ∈ k nw seen, Pr y) : ∀ (l nw seen : List Nat), (∀ x ∈ l, Pr x) → (∀ x ∈ nw, Pr x) → (∀ x ∈ seen, Pr x) → ∀ y ∈ reachK l nw seen k, Pr y
  | [], nw, seen, _, h2, h3 => hk nw seen h2 h3
  | x :: l, nw, seen, h1, h2, h3 => by
    have hx := h1 x List.mem_cons_self
    have hl : ∀ y ∈ l, Pr y := fun y hy => h1 y (List.mem_cons_of_mem _ hy)
    have add : ∀ {m : List Nat}, (∀ y ∈ m, Pr y) → ∀ y ∈ x :: m, Pr y := fun hm y hy => by
      rcases List.mem_cons.1 hy with rfl | hy
      · exact hx
      · exact hm y hy
    unfold reachK
    cases elemN x seen with
    | true => exact reachK_all hk l nw seen hl h2 h3
    | false => exact reachK_all hk l (x :: nw) (x :: seen) hl (add h2) (add h3)
theorem reach_listed {ops : Array Oper} {listed : Array Bool} (hc : DownClosed ops listed) : ∀ (f : Nat) (fr seen : List Nat), (∀ x ∈ fr, ∀ y ∈ afterOf ops x, listed.getD y false = true) → (∀ x ∈ seen, listed.getD x false = true) → ∀ y ∈ reach ops f fr seen, listed.getD y false = true
  | 0, _, seen, _, h2 => h2
  | _ + 1, [], seen, _, h2 => h2
  | f + 1, x :: fr, seen, h1, h2 => by
    unfold reach
    refine reachK_all (Pr := fun y => listed.getD y false = true) (fun nw seen' h3 h4 => reach_listed hc f nw seen' (fun z hz y hy => ?_) h4) _ _ _ (fun y hy => ?_) (fun y hy => by cases hy) h2
    · obtain ⟨o, ho, e, he, hb, rfl⟩ := mem_afterOf hy
      exact hc z o ho (h3 z hz) e he hb
    · obtain ⟨z, hz, hy⟩ := List.mem_flatMap.1 hy
      exact h1 z hz y hy
theorem dep_listed {ops : Array Oper} {listed : Array Bool} (hc : DownClosed ops listed) {f : Nat} {i j : Nat} (h : dep ops f i j = true)
    (hi : ∀ o, ops[i]? = some o → ∀ e ∈ o.after, Region.binds .any e = true → listed.getD e.on false = true) : listed.getD j false = true := by
  refine reach_listed hc f [i] [] (fun x hx y hy => ?_) (fun x hx => by cases hx) j (elemN_of h)
  rw [List.mem_singleton.1 hx] at hy
  obtain ⟨o, ho, e, he, hb, rfl⟩ := mem_afterOf hy
  exact hi o ho e he hb

theorem DownClosed.set {ops : Array Oper} {listed : Array Bool} {i : Nat} (hc : DownClosed ops listed) (hr : i ∈ Region.ready .any ops listed) : DownClosed ops (listed.setIfInBounds i true) := by
  intro k o ho hk e he hb
  refine getD_set_true ?_
  by_cases hki : i = k
  · subst hki
    obtain ⟨_, o', ho', hall⟩ := mem_ready.1 hr
    rw [ho] at ho'
    cases ho'
    exact hall e he hb
  · rw [getD_set_ne false hki] at hk
    exact hc k o ho hk e he hb

theorem DownClosed.start (ops : Array Oper) (n : Nat) : DownClosed ops (Array.replicate n false) := by
  intro k o ho hk
  exfalso
  simp only [Array.getD] at hk
  split at hk
  · simp at hk
  · cases hk

abbrev Held := List (Nat × (World → Prop))
def HoldAll (ops : Array Oper) (i : Nat) (H : Held) (w : World) : Prop := ∀ h ∈ H, dep ops 6 i h.1 = true ∨ h.2 w
def hold (ops : Array Oper) (i : Nat) : Held → World → Prop → Prop
  | [], _, R => Hi R
  | h :: H, w, R => match dep ops 6 i h.1 with
    | true => hold ops i H w R
    | false => h.2 w ∧ hold ops i H w R

theorem hold_spec {ops : Array Oper} {i : Nat} {H : Held} {w : World} {R : Prop} (h : hold ops i H w R) : HoldAll ops i H w ∧ R := by
  induction H with
  | nil => exact ⟨fun _ h => (by cases h), h⟩
  | cons x H ih =>
    unfold hold at h
    cases hd : dep ops 6 i x.1 with
    | true =>
      rw [hd] at h
      obtain ⟨h1, h2⟩ := ih h
      refine ⟨fun y hy => ?_, h2⟩
      cases hy with
      | head => exact .inl hd
      | tail _ hy => exact h1 y hy
    | false =>
      rw [hd] at h
      obtain ⟨h0, h⟩ := h
      obtain ⟨h1, h2⟩ := ih h
      refine ⟨fun y hy => ?_, h2⟩
      cases hy with
      | head => exact .inr h0
      | tail _ hy => exact h1 y hy

def wpAnyD (P : Program) (ops : Array Oper) (Q : Exit → Act → World → Prop) (H : Held) : Nat → Array Bool → Act → World → Prop
  | 0, listed, a, w => Region.ready .any ops listed = [] ∧ Q .normal a w
  | fuel + 1, listed, a, w =>
    (Region.ready .any ops listed = [] → Q .normal a w) ∧
    ∀ i ∈ Region.ready .any ops listed, wpOp P ops Q i (fun a' w' => (w' = w ∨ HoldAll ops i H w') ∧ wpAnyD P ops Q H fuel (listed.setIfInBounds i true) a' w') a w

section
variable {P : Program} {ops : Array Oper} {Q : Exit → Act → World → Prop}

theorem wpAny_of_D {H : Held} : ∀ (fuel : Nat) (listed : Array Bool) (a : Act) (w : World), wpAnyD P ops Q H fuel listed a w → wpAny P .any ops Q fuel listed a w
  | 0, _, _, _, h => h
  | fuel + 1, _, _, _, h => ⟨h.1, fun i hi => wpOp_mono (fun a' w' h' => wpAny_of_D fuel _ a' w' h'.2) (h.2 i hi)⟩

theorem wpAnyD_weaken {H H' : Held} (hh : ∀ j w', HoldAll ops j H' w' → HoldAll ops j H w') : ∀ (fuel : Nat) (listed : Array Bool) (a : Act) (w : World), wpAnyD P ops Q H' fuel listed a w → wpAnyD P ops Q H fuel listed a w
  | 0, _, _, _, h => h
  | fuel + 1, _, _, _, h => ⟨h.1, fun i hi => wpOp_mono (fun a' w' h' => ⟨h'.1.imp id (hh i w'), wpAnyD_weaken hh fuel _ a' w' h'.2⟩) (h.2 i hi)⟩

theorem dep_false {listed : Array Bool} (hc : DownClosed ops listed) {j i : Nat} (hj : j ∈ Region.ready .any ops listed) (hi : i ∈ Region.ready .any ops listed) : dep ops 6 j i = false := by
  cases hd : dep ops 6 j i with
  | false => rfl
  | true =>
    obtain ⟨_, oj, hoj, hall⟩ := mem_ready.1 hj
    have h1 := dep_listed hc hd fun o ho => by rw [hoj] at ho; cases ho; exact hall
    have h0 := (mem_ready.1 hi).1
    rcases Nat.lt_or_ge i listed.size with h' | h'
    · simp [h'] at h0 h1; rw [h0] at h1; cases h1
    · simp [Array.getElem?_eq_none h'] at h1

theorem wpAnyD_first {S : World → Prop} {H H' : Held} {i : Nat} {oi : Oper} {v : Value} (hi : ops[i]? = some oi) (hsel : ∀ (j : Nat) (o : Oper) cs b, ops[j]? = some o → o.op ≠ .select cs b)
    (hQ : ∀ c a w, Q (.panic c) (a.put oi.dst v) w → Q (.panic c) a w)
    (hw : ∀ j w', HoldAll ops j H' w' → HoldAll ops j H w') (hH : ∀ j w', dep ops 6 j i = false → HoldAll ops j H' w' → S w') :
    ∀ (fuel : Nat) (listed : Array Bool) (a : Act) (w : World),
      (∀ j oj, ops[j]? = some oj → j ≠ i → listed.getD j true = false → (∀ e ∈ oj.after, Region.binds .any e = true → e.on ≠ i) → oi.apart ops oj = true) →
      DownClosed ops listed → i ∈ Region.ready .any ops listed → YieldsIf P ops S oi v a → S w →
      wpAnyD P ops Q H' fuel (listed.setIfInBounds i true) (a.put oi.dst v) w → wpAnyD P ops Q H (fuel + 1) listed a w := by
  intro fuel
  induction fuel with
  | zero =>
    intro listed a w _ hc hr hy hS Hyp
    refine ⟨fun h => (by rw [h] at hr; cases hr), fun j hj => ?_⟩
    by_cases hji : j = i
    · subst hji; exact hy.wpOp hi hS ⟨.inl rfl, wpAnyD_weaken hw _ _ _ _ Hyp⟩
    · have := ready_mono hj hji
      rw [Hyp.1] at this
      cases this
  | succ fuel ih =>
    intro listed a w hfree hc hr hy hS Hyp
    refine ⟨fun h => (by rw [h] at hr; cases hr), fun j hj => ?_⟩
    by_cases hji : j = i
    · subst hji; exact hy.wpOp hi hS ⟨.inl rfl, wpAnyD_weaken hw _ _ _ _ Hyp⟩
    · have h1 := Hyp.2 j (ready_mono hj hji)
      obtain ⟨hjun, oj, hoj, hall⟩ := mem_ready.1 hj
      have hnot : ∀ e ∈ oj.after, Region.binds .any e = true → e.on ≠ i := fun e he hb heq => by
        have h1 := hall e he hb
        have h0 := (mem_ready.1 hr).1
        rw [heq] at h1
        rcases Nat.lt_or_ge i listed.size with h' | h'
        · simp [h'] at h0 h1; rw [h0] at h1; cases h1
        · simp [Array.getElem?_eq_none h'] at h1
      have hdir : dep ops 6 j i = false := dep_false hc hj hr
      have h2 := wpOp_putIf hoj (hfree j oj hoj hji hjun hnot) (fun cs b => hsel i oi cs b hi) (fun cs b => hsel j oj cs b hoj) hQ hy h1
      have hfree' : ∀ k ok, ops[k]? = some ok → k ≠ i → (listed.setIfInBounds j true).getD k true = false →
          (∀ e ∈ ok.after, Region.binds .any e = true → e.on ≠ i) → oi.apart ops ok = true := fun k ok hk hki hun hno => by
        refine hfree k ok hk hki ?_ hno
        by_cases hjk : j = k
        · subst hjk; exact hjun
        · rw [getD_set_ne true hjk] at hun; exact hun
      refine wpOp_mono (fun a' w' h3 => ?_) h2
      obtain ⟨hy', hhold, hrest⟩ := h3
      have hS' : S w' := by
        rcases hhold with rfl | hh
        · exact hS
        · exact hH j w' hdir hh
      refine ⟨hhold.imp id (hw j w'), ih (listed.setIfInBounds j true) a' w' hfree' (hc.set hj) (ready_mono hr (Ne.symm hji)) hy' hS' ?_⟩
      rw [Array.setIfInBounds_comm _ _ hji]
      exact hrest
end

def statusOf (ops : Array Oper) (r : Env) (o : Oper) : Option Bool :=
  match o.guard with
  | none => some true
  | some (j, want) => match (ops[j]?).bind (·.dst) with
    | none => none
    | some t => match look r t with
      | some (.lit b) => some (b == want)
      | some .und => some false
      | _ => none

/-- The first of these that waits for a test that is not decided. -/
def undecided (ops : Array Oper) (r : Env) : List Nat → Option (Nat × Value)
  | [] => none
  | i :: l => match ops[i]? with
    | none => undecided ops r l
    | some o => match o.guard with
      | none => undecided ops r l
      | some (j, _) => match (ops[j]?).bind (·.dst) with
        | none => undecided ops r l
        | some t => match look r t with
          | some (.val v) => some (t, v)
          | _ => undecided ops r l

def takeable (ops : Array Oper) (r : Env) (listed : Array Bool) : List Nat → Option Nat
  | [] => none
  | i :: l => match ops[i]? with
    | none => takeable ops r listed l
    | some o => match statusOf ops r o with
      | some false => match Region.free .any ops listed i with
        | true => some i
        | false => takeable ops r listed l
      | some true => match kindOf o.op with
        | .mover => takeable ops r listed l
        | _ => match Region.free .any ops listed i with
          | true => some i
          | false => takeable ops r listed l
      | none => takeable ops r listed l

def allM (f : Nat → Prop) : List Nat → Prop
  | [] => Hi True
  | [i] => f i
  | i :: l => f i ∧ allM f l

/-- Take one operation first. -/
def takeOp (P : Program) (n : Nat) (ops : Array Oper) (i : Nat) (r : Env) (H : Held) (w : World) (K : Env → Held → Prop) : Prop :=
  match ops[i]? with
  | none => Hi False
  | some o => match okd n o.dst with
    | false => False
    | true => match statusOf ops r o with
      | none => False
      | some false => K (setD r o.dst .und) H
      | some true => match o.op with
        | .move x => match known r x with
          | true => K (setD r o.dst (avOf r x)) H
          | false => False
        | .assign x => match known r x with
          | true => K (setD r o.dst (avOf r x)) H
          | false => False
        | .pick c a b => match known r c && (known r a && known r b) with
          | false => False
          | true => match avOf r c with
            | .lit true => K (setD r o.dst (avOf r a)) H
            | .lit false => K (setD r o.dst (avOf r b)) H
            | .val v => ifB v (K (setD r o.dst (avOf r a)) H) (K (setD r o.dst (avOf r b)) H)
            | .und => False
        | op => match isSelect op with
          | true => False
          | false => match op.operands.toList.all (known r) with
            | false => False
            | true => match kindOf op with
              | .pure => pureK P (execOp (ev r) o) fun v => K (setD r o.dst (.val v)) H
              | .read => readK P (execOp (ev r) o) w fun v => K (setD r o.dst (.val v)) ((i, Is P (execOp (ev r) o) v) :: H)
              | .mover => False

def moveOp (P : Program) (n : Nat) (ops : Array Oper) (r : Env) (H : Held) (w : World) (K : Nat → Env → World → Prop) (i : Nat) : Prop :=
  match ops[i]? with
  | none => False
  | some o => match okd n o.dst with
    | false => False
    | true => match statusOf ops r o with
      | some true => match isSelect o.op with
        | true => False
        | false => match o.op.operands.toList.all (known r) with
          | false => False
          | true => upK P (execOp (ev r) o) w fun v w' => hold ops i H w' (K i (setD r o.dst (.val v)) w')
      | _ => False

/-- The list is reckoned before it is used. -/
def forceL : List Bool → (List Bool → Prop) → Prop
  | [], k => Hi (k [])
  | b :: l, k => match b with
    | true => forceL l fun m => k (true :: m)
    | false => forceL l fun m => k (false :: m)
theorem forceL_eq : ∀ (l : List Bool) (k : List Bool → Prop), forceL l k = k l
  | [], _ => rfl
  | true :: l, k => forceL_eq l fun m => k (true :: m)
  | false :: l, k => forceL_eq l fun m => k (false :: m)

def WD (P : Program) (n : Nat) (ops : Array Oper) (K : Env → World → Prop) : Nat → Array Bool → Held → Env → World → Prop
  | 0, _, _, _, _ => False
  | f + 1, listed, H, r, w => forceL listed.toList fun l0 =>
    match Region.ready .any ops ⟨l0⟩ with
    | [] => K r w
    | i :: l => match undecided ops r (i :: l) with
      | some (t, v) => ifB v (WD P n ops K f ⟨l0⟩ H ((t, .lit true) :: r) w) (WD P n ops K f ⟨l0⟩ H ((t, .lit false) :: r) w)
      | none => match takeable ops r ⟨l0⟩ (i :: l) with
        | some i => takeOp P n ops i r H w fun r H => WD P n ops K f ((⟨l0⟩ : Array Bool).setIfInBounds i true) H r w
        | none => allM (moveOp P n ops r H w fun i r w => WD P n ops K f ((⟨l0⟩ : Array Bool).setIfInBounds i true) H r w) (i :: l)

def cnt (listed : Array Bool) : Nat := listed.toList.count false

theorem cnt_set {listed : Array Bool} {i : Nat} (h : listed.getD i true = false) : cnt listed = cnt (listed.setIfInBounds i true) + 1 := by
  have hlt : i < listed.size := by
    rcases Nat.lt_or_ge i listed.size with h' | h'
    · exact h'
    · simp [Array.getElem?_eq_none h'] at h
  have hv : listed.toList[i]? = some false := by
    simp [hlt] at h
    simp [hlt, h]
  unfold cnt
  simp only [Array.toList_setIfInBounds]
  clear h hlt
  revert hv
  generalize listed.toList = l
  induction l generalizing i with
  | nil => intro hv; simp at hv
  | cons x l ih =>
    intro hv
    cases i with
    | zero =>
      simp at hv
      subst hv
      simp
    | succ i =>
      have := ih (i := i) (by simpa using hv)
      simp only [List.set_cons_succ, List.count_cons]
      omega

theorem mem_undecided {ops : Array Oper} {r : Env} {l : List Nat} {t : Nat} {v : Value} (h : undecided ops r l = some (t, v)) : look r t = some (.val v) := by
  induction l with
  | nil => simp [undecided] at h
  | cons i l ih =>
    simp only [undecided] at h
    split at h
    · exact ih h
    · split at h
      · exact ih h
      · split at h
        · exact ih h
        · split at h
          · rename_i hl
            simp only [Option.some.injEq, Prod.mk.injEq] at h
            obtain ⟨rfl, rfl⟩ := h
            exact hl
          · exact ih h

theorem mem_takeable {ops : Array Oper} {r : Env} {listed : Array Bool} {l : List Nat} {i : Nat} (h : takeable ops r listed l = some i) : i ∈ l ∧ Region.free .any ops listed i = true := by
  induction l with
  | nil => simp [takeable] at h
  | cons k l ih =>
    have tl : takeable ops r listed l = some i → i ∈ k :: l ∧ Region.free .any ops listed i = true := fun h => ⟨List.mem_cons_of_mem _ (ih h).1, (ih h).2⟩
    simp only [takeable] at h
    split at h
    · exact tl h
    · split at h
      · split at h
        · rename_i hf; simp only [Option.some.injEq] at h; subst h; exact ⟨List.mem_cons_self, hf⟩
        · exact tl h
      · split at h
        · exact tl h
        · split at h
          · rename_i hf; simp only [Option.some.injEq] at h; subst h; exact ⟨List.mem_cons_self, hf⟩
          · exact tl h
      · exact tl h

theorem allM_spec {f : Nat → Prop} {l : List Nat} (h : allM f l) : ∀ i ∈ l, f i := by
  induction l with
  | nil => intro i hi; cases hi
  | cons x l ih =>
    cases l with
    | nil => intro i hi; simp at hi; subst hi; exact h
    | cons y l =>
      intro i hi
      obtain ⟨h1, h2⟩ := h
      cases hi with
      | head => exact h1
      | tail _ hi => exact ih h2 i hi

theorem status_true {n : Nat} {ops : Array Oper} {r : Env} {o : Oper} {a : Act} {b : Bool} (hf : Fits n r a) (h : statusOf ops r o = some b) : Region.wanted o (yielded ops a.tmps) = b := by
  unfold statusOf at h
  cases hg : o.guard with
  | none => rw [hg] at h; simp at h; subst h; simp [Region.wanted, hg]
  | some gw =>
    obtain ⟨j, want⟩ := gw
    rw [hg] at h
    dsimp only at h
    cases ht : (ops[j]?).bind (·.dst) with
    | none => rw [ht] at h; simp at h
    | some t =>
      rw [ht] at h
      dsimp only at h
      split at h
      · rename_i b' hl
        simp at h
        subst h
        exact wanted_of hf hg ht hl
      · rename_i hl
        simp at h
        subst h
        exact wanted_und hf hg ht hl
      · cases h

theorem takeOp_sound {P : Program} {n : Nat} {ops : Array Oper} {i : Nat} {r : Env} {H : Held} {w : World} {K : Env → Held → Prop} {Q : Exit → Act → World → Prop} {f : Nat} {listed : Array Bool} {a : Act}
    (hs : Region.noSelect ops = true) (hQp : ∀ c a w, ¬ Q (.panic c) a w) (h : takeOp P n ops i r H w K) (hf : Fits n r a) (hfree : Region.free .any ops listed i = true)
    (hc : DownClosed ops listed) (hr : i ∈ Region.ready .any ops listed)
    (hK : ∀ r H o v, ops[i]? = some o → Fits n r (a.put o.dst v) → K r H → wpAnyD P ops Q H f (listed.setIfInBounds i true) (a.put o.dst v) w) : wpAnyD P ops Q H (f + 1) listed a w := by
  unfold takeOp at h
  cases ho : ops[i]? with
  | none => rw [ho] at h; exact h.elim
  | some o =>
    rw [ho] at h
    dsimp only at h
    cases hd : okd n o.dst with
    | false => rw [hd] at h; exact h.elim
    | true =>
      rw [hd] at h
      dsimp only at h
      have first : ∀ (x : AV), YieldsIf P ops (fun _ => True) o x.v a → K (setD r o.dst x) H → wpAnyD P ops Q H (f + 1) listed a w := by
        intro x hy hk
        exact wpAnyD_first (S := fun _ => True) (H' := H) ho (Region.noSelect_spec hs) (fun c a w hh => absurd hh (hQp c _ w)) (fun _ _ h => h) (fun _ _ _ _ => trivial)
          f listed a w (Region.free_spec ho hfree) hc hr hy trivial (hK _ _ _ _ ho (hf.put hd) hk)
      cases hst : statusOf ops r o with
      | none => rw [hst] at h; exact h.elim
      | some b =>
        rw [hst] at h
        have hwant := status_true hf hst
        cases b with
        | false => exact first .und (.inr ⟨hwant, rfl⟩) h
        | true =>
          dsimp only at h
          have mv : ∀ x, known r x = true → (execOp a.eval o) = pure (.value (a.eval x)) → K (setD r o.dst (avOf r x)) H → wpAnyD P ops Q H (f + 1) listed a w := by
            intro x hk he hh
            refine first (avOf r x) (.inl ⟨hwant, fun w _ => ?_⟩) hh
            rw [he, hf.ev hk]; rfl
          have gen : isSelect o.op = false → o.op.operands.toList.all (known r) = true → (match kindOf o.op with
              | .pure => pureK P (execOp (ev r) o) fun v => K (setD r o.dst (.val v)) H
              | .read => readK P (execOp (ev r) o) w fun v => K (setD r o.dst (.val v)) ((i, Is P (execOp (ev r) o) v) :: H)
              | .mover => False) → wpAnyD P ops Q H (f + 1) listed a w := by
            intro hsl hall hh
            have he := execOp_fits hf hsl hall
            cases hkd : kindOf o.op <;> rw [hkd] at hh <;> dsimp only at hh
            · obtain ⟨v, h1, h2⟩ := hh
              exact first (.val v) (.inl ⟨hwant, fun w _ => by rw [he]; exact h1 w⟩) h2
            · obtain ⟨v, h1, h2⟩ := hh
              refine wpAnyD_first (S := Is P (execOp (ev r) o) v) (H' := (i, Is P (execOp (ev r) o) v) :: H) (v := v) ho (Region.noSelect_spec hs) (fun c a w hh => absurd hh (hQp c _ w)) ?_ ?_
                f listed a w (Region.free_spec ho hfree) hc hr (.inl ⟨hwant, fun w hw => by rw [he]; exact hw⟩) h1 (hK _ _ _ _ ho (hf.put (x := .val v) hd) h2)
              · intro j w' hh y hy; exact hh y (List.mem_cons_of_mem _ hy)
              · intro j w' hdir hh
                rcases hh _ List.mem_cons_self with h | h
                · dsimp only at h; rw [hdir] at h; cases h
                · exact h
          obtain ⟨dst, op, type, pos, after, guard⟩ := o
          dsimp only at h hd mv gen first
          have gen' : isSelect op = false → (match isSelect op with
            | true => False
            | false => match op.operands.toList.all (known r) with
              | false => False
              | true => match kindOf op with
                | .pure => pureK P (execOp (ev r) ⟨dst, op, type, pos, after, guard⟩) fun v => K (setD r dst (.val v)) H
                | .read => readK P (execOp (ev r) ⟨dst, op, type, pos, after, guard⟩) w fun v => K (setD r dst (.val v)) ((i, Is P (execOp (ev r) ⟨dst, op, type, pos, after, guard⟩) v) :: H)
                | .mover => False) → wpAnyD P ops Q H (f + 1) listed a w := by
            intro hsl hh
            rw [hsl] at hh
            dsimp only at hh
            cases hall : op.operands.toList.all (known r) with
            | false => simp [hall] at hh
            | true => rw [hall] at hh; exact gen hsl hall hh
          cases op
          case move x =>
            dsimp only at h
            cases hk : known r x with
            | false => simp [hk] at h
            | true => rw [hk] at h; exact mv x hk rfl h
          case assign x =>
            dsimp only at h
            cases hk : known r x with
            | false => simp [hk] at h
            | true => rw [hk] at h; exact mv x hk rfl h
          case pick c x y =>
            dsimp only at h
            cases hk : known r c && (known r x && known r y) with
            | false => simp [hk] at h
            | true =>
              rw [hk] at h
              dsimp only at h
              simp only [Bool.and_eq_true] at hk
              obtain ⟨k1, k2, k3⟩ := hk
              have hp : ∀ b : Bool, ev r c = .bool b → K (setD r dst (if b then avOf r x else avOf r y)) H → wpAnyD P ops Q H (f + 1) listed a w := by
                intro b hb hh
                refine first (if b then avOf r x else avOf r y) (.inl ⟨hwant, fun w _ => ?_⟩) hh
                have : execOp a.eval (⟨dst, .pick c x y, type, pos, after, guard⟩ : Oper) = pure (.value (if b then a.eval x else a.eval y)) := by
                  simp only [execOp, hf.ev k1, hb, asBool]; rfl
                rw [this, hf.ev k2, hf.ev k3]
                cases b <;> rfl
              cases hc : avOf r c with
              | lit b =>
                rw [hc] at h
                cases b
                · exact hp false (by simp [ev, hc, AV.v]) h
                · exact hp true (by simp [ev, hc, AV.v]) h
              | val v =>
                rw [hc] at h
                obtain ⟨b, rfl, hh⟩ := h
                cases b
                · exact hp false (by simp [ev, hc, AV.v]) hh
                · exact hp true (by simp [ev, hc, AV.v]) hh
              | und => rw [hc] at h; exact h.elim
          case select cs b => exact h.elim
          all_goals exact gen' rfl h

theorem moveOp_sound {P : Program} {n : Nat} {ops : Array Oper} {i : Nat} {r : Env} {H : Held} {w : World} {K : Nat → Env → World → Prop} {Q : Exit → Act → World → Prop} {a : Act} {K' : Act → World → Prop}
    (h : moveOp P n ops r H w K i) (hf : Fits n r a) (hK : ∀ r o v w', ops[i]? = some o → Fits n r (a.put o.dst v) → HoldAll ops i H w' → K i r w' → K' (a.put o.dst v) w') : wpOp P ops Q i K' a w := by
  unfold moveOp at h
  unfold wpOp
  cases ho : ops[i]? with
  | none => rw [ho] at h; exact h.elim
  | some o =>
    rw [ho] at h
    dsimp only at h ⊢
    cases hd : okd n o.dst with
    | false => rw [hd] at h; exact h.elim
    | true =>
      rw [hd] at h
      dsimp only at h
      split at h
      · rename_i hst
        rw [if_pos (status_true hf hst)]
        cases hsl : isSelect o.op with
        | true => rw [hsl] at h; exact h.elim
        | false =>
          rw [hsl] at h
          dsimp only at h
          cases hall : o.op.operands.toList.all (known r) with
          | false => rw [hall] at h; exact h.elim
          | true =>
            rw [hall] at h
            dsimp only at h
            have he := execOp_fits hf hsl hall
            refine .inl (oper_wp_of (K := fun v w' => hold ops i H w' (K i (setD r o.dst (.val v)) w')) ?_ ?_)
            · rw [he]; exact h
            · intro v w' hh
              obtain ⟨h1, h2⟩ := hold_spec hh
              exact hK _ _ _ _ ho (hf.put (x := .val v) hd) h1 h2
      · exact h.elim

theorem WD_sound {P : Program} {n : Nat} {ops : Array Oper} {K : Env → World → Prop} {Q : Exit → Act → World → Prop} (hs : Region.noSelect ops = true) (hQp : ∀ c a w, ¬ Q (.panic c) a w)
    {D : List Nat} {a0 : Act} (hQ : ∀ r a w, Fits n r a → Keep D a0 a → K r w → Q .normal a w) (hD : ∀ (i : Nat) (o : Oper), ops[i]? = some o → ∀ t, o.dst = some t → t ∈ D) (f : Nat) :
    ∀ (listed : Array Bool) (H : Held) (r : Env) (a : Act) (w : World), WD P n ops K f listed H r w → Fits n r a → Keep D a0 a → DownClosed ops listed → wpAnyD P ops Q H (cnt listed) listed a w := by
  induction f with
  | zero => intro listed H r a w h _ _ _; exact h.elim
  | succ f ih =>
    intro listed H r a w h hf hkp hcl
    unfold WD at h
    rw [forceL_eq] at h
    rw [show (Array.mk listed.toList) = listed from rfl] at h
    cases hr : Region.ready .any ops listed with
    | nil =>
      rw [hr] at h
      have hq := hQ r a w hf hkp h
      cases hc : cnt listed with
      | zero => exact ⟨hr, hq⟩
      | succ k => exact ⟨fun _ => hq, by rw [hr]; simp⟩
    | cons i l =>
      rw [hr] at h
      dsimp only at h
      cases hu : undecided ops r (i :: l) with
      | some tv =>
        obtain ⟨t, v⟩ := tv
        rw [hu] at h
        obtain ⟨b, hv, hh⟩ := h
        have hf' := hf.know (mem_undecided hu) hv
        cases b
        · exact ih _ _ _ _ _ hh hf' hkp hcl
        · exact ih _ _ _ _ _ hh hf' hkp hcl
      | none =>
        rw [hu] at h
        dsimp only at h
        cases ht : takeable ops r listed (i :: l) with
        | some k =>
          rw [ht] at h
          obtain ⟨hm, hfree⟩ := mem_takeable ht
          have hready : k ∈ Region.ready .any ops listed := hr ▸ hm
          rw [cnt_set (mem_ready.1 hready).1]
          exact takeOp_sound hs hQp h hf hfree hcl hready fun r H o v ho hf hk => ih _ _ _ _ _ hk hf (hkp.put (hD _ o ho)) (hcl.set hready)
        | none =>
          rw [ht] at h
          dsimp only at h
          have hi0 : i ∈ Region.ready .any ops listed := hr ▸ List.mem_cons_self
          rw [cnt_set (mem_ready.1 hi0).1]
          refine ⟨fun h0 => (by rw [h0] at hr; cases hr), fun k hk => ?_⟩
          have hc : cnt (listed.setIfInBounds i true) = cnt (listed.setIfInBounds k true) := by
            have h1 := cnt_set (mem_ready.1 hi0).1
            have h2 := cnt_set (mem_ready.1 hk).1
            omega
          rw [hc]
          exact moveOp_sound (allM_spec h k (hr ▸ hk)) hf fun r o v w' ho hf hh hk' => ⟨.inr hh, ih _ _ _ _ _ hk' hf (hkp.put (hD _ o ho)) (hcl.set hk)⟩

/-! ### Code -/

def dsts : Code → List Nat
  | .region _ ops _ => ops.toList.filterMap (·.dst)
  | .seq a b => dsts a ++ dsts b
  | .cond _ a b => dsts a ++ dsts b
  | .block _ b => dsts b
  | .loop b => dsts b
  | _ => []

/-- The slots that a loop carries round: written in it, known before it, not given up; each once. -/
def carried (r : Env) : List Nat → List Nat → List Nat
  | _, [] => []
  | seen, t :: l => match knownT r t && !elemN t seen with
    | true => t :: carried r (t :: seen) l
    | false => carried r seen l

def Tup : List Nat → Type
  | [] => Unit
  | _ :: l => Value × Tup l

def toEnv : (L : List Nat) → Tup L → Env
  | [], _ => []
  | t :: l, x => (t, .val x.1) :: toEnv l x.2

def toTup (r : Env) : (L : List Nat) → Tup L
  | [] => ()
  | t :: l => (ev r (.tmp t), toTup r l)

def without (r : Env) (D : List Nat) : Env :=
  match r with
  | [] => []
  | p :: r => match elemN p.1 D with
    | true => without r D
    | false => p :: without r D

def isReg : Code → Bool
  | .region .. => true
  | _ => false

def AV.plain : AV → AV
  | .lit b => .val (.bool b)
  | x => x
theorem AV.plain_v (x : AV) : x.plain.v = x.v := by cases x <;> rfl

def delit : Env → Env
  | [] => []
  | (t, x) :: r => (t, x.plain) :: delit r

theorem look_delit {r : Env} {t : Nat} {x : AV} (h : look (delit r) t = some x) : ∃ y, look r t = some y ∧ y.v = x.v := by
  induction r with
  | nil => cases h
  | cons p r ih =>
    obtain ⟨k, y⟩ := p
    unfold delit at h
    rw [look_cons] at h ⊢
    split at h
    · rename_i e
      simp only [Option.some.injEq] at h
      subst h
      exact ⟨y, by simp [e], (AV.plain_v y).symm⟩
    · rename_i e
      simpa [e] using ih h

theorem Fits.delit {n : Nat} {r : Env} {a : Act} (h : Fits n r a) : Fits n (delit r) a :=
  ⟨h.defers, h.size, fun t x hx => by
    obtain ⟨y, hy, he⟩ := look_delit hx
    rw [← he]
    exact h.at_ t y hy⟩

/-- A place where ways of the code meet again: what is behind it is told once. -/
def LETJ {X : Type} (f : X → World → Prop) (g : (X → World → Prop) → Prop) : Prop := g f
theorem LETJ_intro {X : Type} {f : X → World → Prop} {g : (X → World → Prop) → Prop} (h : ∀ J : X → World → Prop, (∀ x w, f x w → J x w) → g J) : LETJ f g := h f fun _ _ h => h

/-- Which ways meet, and with which slots. -/
inductive Plan where
  | leaf
  | node (j : Option (List Nat)) (l r : Plan)
def Plan.j : Plan → Option (List Nat)
  | .leaf => none
  | .node j _ _ => j
def Plan.l : Plan → Plan
  | .leaf => .leaf
  | .node _ l _ => l
def Plan.r : Plan → Plan
  | .leaf => .leaf
  | .node _ _ r => r

def WP (P : Program) (n : Nat) (dead : List Nat) (pl : Plan) : Code → (Exit → Env → World → Prop) → Env → World → Prop
  | .skip, Q, r, w => Q .normal r w
  | .region _ ops false, Q, r, w => wpE P n ops (Q .normal) ops.toList r w
  | .region _ ops true, Q, r, w => match P.follows .mixedOrders && Region.noSelect ops with
    | true => WD P n ops (Q .normal) (3 * ops.size + 3) (Array.replicate ops.size false) [] r (tick w)
    | false => False
  | .seq a b, Q, r, w => match pl.j with
    | none => WP P n dead pl.l a (fun e r w => match e with
      | .normal => match isReg a with
        | true => WP P n dead pl.r b Q r w
        | false => WP P n dead pl.r b Q (delit r) w
      | e => Q e r w) r w
    | some L => LETJ (X := Tup L) (fun x w => WP P n dead pl.r b Q (toEnv L x ++ without r (dsts a)) w) (fun J => WP P n dead pl.l a (fun e r w => match e with
      | .normal => match L.all (knownT r) with
        | true => J (toTup r L) w
        | false => False
      | e => Q e r w) r w)
  | .cond c a b, Q, r, w => match known r c with
    | false => False
    | true => match avOf r c with
      | .lit true => WP P n dead pl.l a Q r w
      | .lit false => WP P n dead pl.r b Q r w
      | .val v => ifB v (WP P n dead pl.l a Q r w) (WP P n dead pl.r b Q r w)
      | .und => False
  | .block id c, Q, r, w => WP P n dead pl.l c (fun e r w => match e with
      | .exit k => match Nat.beq k id with
        | true => Q .normal r w
        | false => Q (.exit k) r w
      | e => Q e r w) r w
  | .exit id, Q, r, w => Q (.exit id) r w
  | .ret, Q, r, w => Q .ret r w
  | .loop c, Q, r, w =>
    LOOP (X := Tup (carried r dead (dsts c))) (fun x w next =>
      WP P n dead pl.l c (fun e r' w => match e with
        | .normal => match (carried r dead (dsts c)).all (knownT r') with
          | true => next (toTup r' (carried r dead (dsts c))) w
          | false => False
        | e => Q e r' w) (toEnv (carried r dead (dsts c)) x ++ without r (dsts c)) w) (toTup r (carried r dead (dsts c))) w
  | _, _, _, _ => False

theorem look_append (r s : Env) (t : Nat) : look (r ++ s) t = (look r t).or (look s t) := by
  induction r with
  | nil => simp [look]
  | cons p r ih =>
    obtain ⟨k, x⟩ := p
    rw [List.cons_append, look_cons, look_cons, ih]
    split <;> simp

theorem look_without {r : Env} {D : List Nat} {t : Nat} {x : AV} (h : look (without r D) t = some x) : look r t = some x := by
  induction r with
  | nil => exact h
  | cons p r ih =>
    obtain ⟨k, y⟩ := p
    unfold without at h
    rw [look_cons]
    cases he : elemN k D with
    | true =>
      rw [he] at h
      dsimp only at h
      by_cases e : k = t
      · -- a slot that was dropped: what is further down is not looked at
        exfalso
        subst e
        have : ∀ r : Env, look (without r D) k = none := by
          intro r
          induction r with
          | nil => rfl
          | cons q r ih =>
            unfold without
            cases hq : elemN q.1 D with
            | true => exact ih
            | false =>
              dsimp only
              obtain ⟨m, z⟩ := q
              rw [look_cons]
              have hne : m ≠ k := by rintro rfl; rw [he] at hq; cases hq
              simp [hne, ih]
        rw [this] at h; cases h
      · simp [e, ih h]
    | false =>
      rw [he] at h
      dsimp only at h
      rw [look_cons] at h
      split at h
      · rename_i e; simp [e, h]
      · rename_i e; simp [e, ih h]

theorem look_toEnv {L : List Nat} {r : Env} {t : Nat} {x : AV} (hall : L.all (knownT r) = true) (h : look (toEnv L (toTup r L)) t = some x) : ∃ y, look r t = some y ∧ y.v = x.v := by
  induction L with
  | nil => simp [toEnv, look] at h
  | cons k L ih =>
    simp only [List.all_cons, Bool.and_eq_true] at hall
    simp only [toEnv, toTup] at h
    rw [look_cons] at h
    split at h
    · rename_i e
      subst e
      simp only [Option.some.injEq] at h
      subst h
      have := hall.1
      unfold knownT at this
      cases hl : look r k with
      | none => rw [hl] at this; cases this
      | some y => exact ⟨y, rfl, by simp [AV.v, ev, avOf, hl]⟩
    · exact ih hall.2 h

theorem carried_known (r : Env) (l seen : List Nat) : (carried r seen l).all (knownT r) = true := by
  induction l generalizing seen with
  | nil => rfl
  | cons t l ih =>
    unfold carried
    cases h : knownT r t && !elemN t seen with
    | true =>
      simp only [List.all_cons, Bool.and_eq_true]
      simp only [Bool.and_eq_true] at h
      exact ⟨h.1, ih _⟩
    | false => exact ih _

theorem look_none_of_not {L : List Nat} {x : Tup L} {t : Nat} (h : elemN t L = false) : look (toEnv L x) t = none := by
  induction L with
  | nil => rfl
  | cons k L ih =>
    unfold elemN at h
    simp only [toEnv]
    rw [look_cons]
    cases hb : Nat.beq k t with
    | true => rw [hb] at h; cases h
    | false =>
      rw [hb] at h
      have : k ≠ t := by rintro rfl; simp at hb
      simp [this, ih h]

theorem look_without_not {r : Env} {D : List Nat} {t : Nat} (h : elemN t D = true) : look (without r D) t = none := by
  induction r with
  | nil => rfl
  | cons q r ih =>
    unfold without
    cases hq : elemN q.1 D with
    | true => exact ih
    | false =>
      dsimp only
      obtain ⟨m, z⟩ := q
      rw [look_cons]
      have hne : m ≠ t := by rintro rfl; rw [h] at hq; cases hq
      simp [hne, ih]

/-- What a loop's next round may start from. -/
theorem Fits.round {n : Nat} {r r' : Env} {a a' : Act} {L D : List Nat} (hf : Fits n r a) (hf' : Fits n r' a') (hk : Keep D a a') (hall : L.all (knownT r') = true) :
    Fits n (toEnv L (toTup r' L) ++ without r D) a' := by
  refine ⟨hf'.defers, hf'.size, fun t x h => ?_⟩
  rw [look_append] at h
  cases h1 : look (toEnv L (toTup r' L)) t with
  | some y =>
    rw [h1] at h
    simp only [Option.some_or, Option.some.injEq] at h
    subst h
    obtain ⟨z, hz, he⟩ := look_toEnv hall h1
    rw [← he]
    exact hf'.at_ t z hz
  | none =>
    rw [h1] at h
    simp only [Option.none_or] at h
    cases ht : elemN t D with
    | true => rw [look_without_not ht] at h; cases h
    | false => rw [hk t ht]; exact hf.at_ t x (look_without h)

theorem exists_least {p : Nat → Prop} (h : ∃ k, p k) : ∃ k, p k ∧ ∀ j, p j → k ≤ j := by
  obtain ⟨k, hk⟩ := h
  induction k using Nat.strongRecOn with
  | _ k ih =>
    by_cases hx : ∃ j, j < k ∧ p j
    · obtain ⟨j, hj, hp⟩ := hx
      exact ih j hj hp
    · refine ⟨k, hk, fun j hp => ?_⟩
      rcases Nat.lt_or_ge j k with h | h
      · exact absurd ⟨j, h, hp⟩ hx
      · exact h

open Classical in
noncomputable def least (p : Nat → Prop) : Nat := if h : ∃ k, p k then Classical.choose (exists_least h) else 0
theorem least_spec {p : Nat → Prop} (h : ∃ k, p k) : p (least p) ∧ ∀ j, p j → least p ≤ j := by
  unfold least
  rw [dif_pos h]
  exact Classical.choose_spec (exists_least h)

/-- How the code may end: as Q says, with what is known of the slots, and the slots of D alone written. -/
def QK (n : Nat) (D : List Nat) (a0 : Act) (Q : Exit → Env → World → Prop) : Exit → Act → World → Prop
  | .panic _, _, _ => False
  | .outgrown, _, _ => False
  | e, a, w => Keep D a0 a ∧ ∃ r, Fits n r a ∧ Q e r w

theorem elemN_append {t : Nat} {l m : List Nat} : elemN t (l ++ m) = (elemN t l || elemN t m) := by
  induction l with
  | nil => rfl
  | cons x l ih =>
    simp only [List.cons_append, elemN]
    split <;> simp [ih]

theorem Keep.refl (D : List Nat) (a : Act) : Keep D a a := fun _ _ => rfl
theorem Keep.trans {D : List Nat} {a b c : Act} (h : Keep D a b) (h' : Keep D b c) : Keep D a c := fun t ht => (h' t ht).trans (h t ht)
theorem Keep.left {D E : List Nat} {a b : Act} (h : Keep D a b) : Keep (D ++ E) a b := fun t ht => h t (by rw [elemN_append] at ht; simp at ht; exact ht.1)
theorem Keep.right {D E : List Nat} {a b : Act} (h : Keep E a b) : Keep (D ++ E) a b := fun t ht => h t (by rw [elemN_append] at ht; simp at ht; exact ht.2)

theorem QK.mono {n : Nat} {D D' : List Nat} {a0 a0' : Act} {Q Q' : Exit → Env → World → Prop} {e : Exit} {a : Act} {w : World} (h : QK n D a0 Q e a w)
    (hk : Keep D a0 a → Keep D' a0' a) (hq : ∀ r, Q e r w → Q' e r w) : QK n D' a0' Q' e a w := by
  cases e <;> first | exact h.elim | exact ⟨hk h.1, let ⟨r, hf, hh⟩ := h.2; ⟨r, hf, hq r hh⟩⟩

theorem WP_sound {P : Program} {n : Nat} {dead : List Nat} (c : Code) : ∀ (pl : Plan) (Q : Exit → Env → World → Prop) (r : Env) (a : Act) (w : World), WP P n dead pl c Q r w → Fits n r a → c.wp P (QK n (dsts c) a Q) a w := by
  induction c with
  | skip => intro pl Q r a w h hf; exact wp_skip ⟨Keep.refl _ _, r, hf, h⟩
  | exit id => intro pl Q r a w h hf; exact wp_exit ⟨Keep.refl _ _, r, hf, h⟩
  | ret => intro pl Q r a w h hf; exact wp_ret ⟨Keep.refl _ _, r, hf, h⟩
  | region id ops draw =>
    intro pl Q r a w h hf
    have hD : ∀ (i : Nat) (o : Oper), ops[i]? = some o → ∀ t, o.dst = some t → t ∈ dsts (.region id ops draw) := fun i o ho t ht =>
      List.mem_filterMap.2 ⟨o, by simpa using Array.mem_of_getElem? ho, ht⟩
    cases draw with
    | false =>
      refine wp_region_list (wpE_sound (D := dsts (.region id ops false)) (a0 := a) ?_ ops.toList ?_ r a w h hf (Keep.refl _ _))
      · intro r a w hf hk hq; exact ⟨hk, r, hf, hq⟩
      · intro o ho t ht; exact List.mem_filterMap.2 ⟨o, ho, ht⟩
    | true =>
      unfold WP at h
      cases hm : P.follows .mixedOrders && Region.noSelect ops with
      | false => rw [hm] at h; exact h.elim
      | true =>
        rw [hm] at h
        simp only [Bool.and_eq_true] at hm
        have hc : cnt (Array.replicate ops.size false) = ops.size := by simp [cnt]
        have := WD_sound (Q := QK n (dsts (.region id ops true)) a Q) (D := dsts (.region id ops true)) (a0 := a) hm.2 (fun _ _ _ h => h) (fun r a w hf hk hq => ⟨hk, r, hf, hq⟩) hD _ _ _ _ _ _ h hf (Keep.refl _ _) (DownClosed.start ops _)
        rw [hc] at this
        exact wp_region_any hm.1 (wpAny_of_D _ _ _ _ this)
  | seq x y ihx ihy =>
    intro pl Q r a w h hf
    have out : ∀ (e : Exit) (a' : Act) (w' : World) (Q' : Exit → Env → World → Prop), (∀ e r w, e ≠ .normal → Q' e r w → Q e r w) → e ≠ .normal → QK n (dsts x) a Q' e a' w' → QK n (dsts (.seq x y)) a Q e a' w' := by
      intro e a' w' Q' hQ hne hq
      cases e with
      | normal => exact absurd rfl hne
      | panic c => exact hq.elim
      | outgrown => exact hq.elim
      | exit id => exact QK.mono (e := .exit id) hq Keep.left fun r h => hQ _ r _ hne h
      | goto l => exact QK.mono (e := .goto l) hq Keep.left fun r h => hQ _ r _ hne h
      | ret => exact QK.mono (e := .ret) hq Keep.left fun r h => hQ _ r _ hne h
    unfold WP at h
    cases hj : pl.j with
    | none =>
      rw [hj] at h
      dsimp only at h
      refine wp_seq (Code.wp_mono (fun e a' w' hq => ?_) (ihx pl.l _ r a w h hf))
      by_cases hne : e = .normal
      · subst hne
        obtain ⟨hk, r', hf', hh⟩ := hq
        have hy : y.wp P (QK n (dsts y) a' Q) a' w' := by
          dsimp only at hh
          cases hreg : isReg x with
          | true => rw [hreg] at hh; exact ihy pl.r Q r' a' w' hh hf'
          | false => rw [hreg] at hh; exact ihy pl.r Q _ a' w' hh hf'.delit
        refine Code.wp_mono (fun e a'' w'' hq => ?_) hy
        exact hq.mono (fun hk' => (Keep.left hk).trans (Keep.right hk')) (fun _ h => h)
      · have := out e a' w' _ (fun e r w hne h => by cases e <;> first | exact absurd rfl hne | exact h) hne hq
        cases e <;> first | exact absurd rfl hne | exact this
    | some L =>
      rw [hj] at h
      dsimp only at h
      refine wp_seq (Code.wp_mono (fun e a' w' hq => ?_) (ihx pl.l _ r a w h hf))
      by_cases hne : e = .normal
      · subst hne
        obtain ⟨hk, r', hf', hh⟩ := hq
        dsimp only at hh
        cases hall : L.all (knownT r') with
        | false => rw [hall] at hh; exact hh.elim
        | true =>
          rw [hall] at hh
          have hy : y.wp P (QK n (dsts y) a' Q) a' w' := ihy pl.r Q _ a' w' hh (hf.round hf' hk hall)
          refine Code.wp_mono (fun e a'' w'' hq => ?_) hy
          exact hq.mono (fun hk' => (Keep.left hk).trans (Keep.right hk')) (fun _ h => h)
      · have := out e a' w' _ (fun e r w hne h => by cases e <;> first | exact absurd rfl hne | exact h) hne hq
        cases e <;> first | exact absurd rfl hne | exact this
  | cond c x y ihx ihy =>
    intro pl Q r a w h hf
    unfold WP at h
    cases hk : known r c with
    | false => rw [hk] at h; exact h.elim
    | true =>
      rw [hk] at h
      dsimp only at h
      have go : ∀ b : Bool, ev r c = .bool b → (if b then WP P n dead pl.l x Q r w else WP P n dead pl.r y Q r w) → (Code.cond c x y).wp P (QK n (dsts (.cond c x y)) a Q) a w := by
        intro b hb hh
        refine wp_cond (t := b) (by rw [hf.ev hk, hb]) ?_
        cases b with
        | true => exact Code.wp_mono (fun e a' w' hq => hq.mono Keep.left fun _ h => h) (ihx pl.l Q r a w hh hf)
        | false => exact Code.wp_mono (fun e a' w' hq => hq.mono Keep.right fun _ h => h) (ihy pl.r Q r a w hh hf)
      cases hc : avOf r c with
      | lit b =>
        rw [hc] at h
        cases b
        · exact go false (by simp [ev, hc, AV.v]) h
        · exact go true (by simp [ev, hc, AV.v]) h
      | val v =>
        rw [hc] at h
        obtain ⟨b, rfl, hh⟩ := h
        cases b
        · exact go false (by simp [ev, hc, AV.v]) hh
        · exact go true (by simp [ev, hc, AV.v]) hh
      | und => rw [hc] at h; exact h.elim
  | block id c ih =>
    intro pl Q r a w h hf
    refine wp_block (Code.wp_mono (fun e a' w' hq => ?_) (ih pl.l _ r a w h hf))
    cases e with
    | exit k =>
      obtain ⟨hk, r', hf', hh⟩ := hq
      dsimp only at hh
      cases hb : Nat.beq k id with
      | true =>
        rw [hb] at hh
        have := Nat.eq_of_beq_eq_true hb
        subst this
        simp only [Exit.inBlock, if_true]
        exact ⟨hk, r', hf', hh⟩
      | false =>
        rw [hb] at hh
        have : k ≠ id := by rintro rfl; simp at hb
        simp only [Exit.inBlock, this, if_false]
        exact ⟨hk, r', hf', hh⟩
    | panic c => exact hq.elim
    | outgrown => exact hq.elim
    | normal => exact hq
    | goto l => exact hq
    | ret => exact hq
  | loop c ih =>
    intro pl Q r a w h hf
    unfold WP at h
    obtain ⟨k0, hk0⟩ := h
    let L := carried r dead (dsts c)
    let B := fun (x : Tup L) (w : World) (next : Tup L → World → Prop) =>
      WP P n dead pl.l c (fun e r' w => match e with
        | .normal => match L.all (knownT r') with
          | true => next (toTup r' L) w
          | false => False
        | e => Q e r' w) (toEnv L x ++ without r (dsts c)) w
    let p := fun (a' : Act) (w' : World) (k : Nat) => Keep (dsts c) a a' ∧ ∃ x : Tup L, iter B k x w' ∧ Fits n (toEnv L x ++ without r (dsts c)) a'
    have hstart : ∃ k, p a w k := ⟨k0, Keep.refl _ _, toTup r L, hk0, hf.round hf (Keep.refl _ _) (carried_known r _ _)⟩
    refine wp_loop (fun a' w' => ∃ k, p a' w' k) (fun a' w' => least (p a' w')) hstart ?_
    intro a1 w1 hex
    obtain ⟨⟨hkp, x, hit, hfx⟩, hleast⟩ := least_spec hex
    cases hl : least (p a1 w1) with
    | zero => rw [hl] at hit; exact hit.elim
    | succ k =>
      rw [hl] at hit
      have hb : B x w1 (iter B k) := hit
      refine Code.wp_mono (fun e a2 w2 hq => ?_) (ih pl.l _ _ a1 w1 hb hfx)
      cases e with
      | normal =>
        obtain ⟨hk2, r', hf', hh⟩ := hq
        dsimp only at hh
        cases hall : L.all (knownT r') with
        | false => rw [hall] at hh; exact hh.elim
        | true =>
          rw [hall] at hh
          have hp : p a2 w2 k := ⟨hkp.trans hk2, toTup r' L, hh, hf.round hf' (hkp.trans hk2) hall⟩
          refine ⟨⟨k, hp⟩, ?_⟩
          have := (least_spec ⟨k, hp⟩).2 k hp
          show least (p a2 w2) < k + 1
          omega
      | panic c => exact hq.elim
      | outgrown => exact hq.elim
      | exit id => exact QK.mono (e := .exit id) hq (fun h => hkp.trans h) fun _ h => h
      | goto l => exact QK.mono (e := .goto l) hq (fun h => hkp.trans h) fun _ h => h
      | ret => exact QK.mono (e := .ret) hq (fun h => hkp.trans h) fun _ h => h
  | rangeFunc f ps x y ihx ihy => intro pl Q r a w h hf; exact h.elim
  | scope c ih => intro pl Q r a w h hf; exact h.elim
  | label l => intro pl Q r a w h hf; exact h.elim
  | goto l => intro pl Q r a w h hf; exact h.elim
  | refuse y => intro pl Q r a w h hf; exact h.elim

/-! ### A function -/

def readV (P : Program) (s : Sem Value) (w : World) (K : Value → Prop) : Prop := ∃ v, s.run P w = .ok v w ∧ K v

def resK (P : Program) (r : Env) (w : World) : List ResultVar → (List Value → Prop) → Prop
  | [], K => K []
  | .tmp t :: l, K => match knownT r t with
    | true => resK P r w l fun vs => K (ev r (.tmp t) :: vs)
    | false => False
  | .cell a T :: l, K => match knownT r a with
    | true => readV P (do loadVar T (← asAddr (ev r (.tmp a)))) w fun v => resK P r w l fun vs => K (v :: vs)
    | false => False

def retV : List Value → Value
  | [v] => v
  | vs => .tuple vs.toArray

def inits : Nat → List Value → Env
  | _, [] => []
  | k, v :: l => (k, .val v) :: inits (k + 1) l

def FN (P : Program) (fn : Func) (c : Code) (dead : List Nat) (pl : Plan) (args : List Value) (w : World) (K : Value → World → Prop) : Prop :=
  match Nat.ble args.length fn.ntmps with
  | false => False
  | true => WP P fn.ntmps dead pl c (fun e r w => match e with
    | .normal => resK P r w fn.results.toList fun vs => K (retV vs) w
    | .ret => resK P r w fn.results.toList fun vs => K (retV vs) w
    | _ => False) (inits 0 args) w

def resOne (tmps : Array Value) : ResultVar → Sem Value
  | .tmp t => pure (tmps.getD t undef)
  | .cell a t => do loadVar t (← asAddr (tmps.getD a undef))

theorem resK_sound {P : Program} {n : Nat} {r : Env} {a : Act} {w : World} (hf : Fits n r a) (l : List ResultVar) : ∀ (K : List Value → Prop), resK P r w l K →
    ∃ vs, K vs ∧ (l.mapM (resOne a.tmps)).run P w = .ok vs w := by
  induction l with
  | nil => intro K h; exact ⟨[], h, rfl⟩
  | cons x l ih =>
    intro K h
    cases x with
    | tmp t =>
      unfold resK at h
      cases hk : knownT r t with
      | false => rw [hk] at h; exact h.elim
      | true =>
        rw [hk] at h
        obtain ⟨vs, h1, h2⟩ := ih _ h
        refine ⟨_, h1, ?_⟩
        have he : a.tmps.getD t undef = ev r (.tmp t) := hf.ev (x := .tmp t) hk
        rw [List.mapM_cons]
        simp only [resOne, he]
        simp [h2]
    | cell x T =>
      unfold resK at h
      cases hk : knownT r x with
      | false => rw [hk] at h; exact h.elim
      | true =>
        rw [hk] at h
        obtain ⟨v, hrun, hh⟩ := h
        obtain ⟨vs, h1, h2⟩ := ih _ hh
        refine ⟨_, h1, ?_⟩
        have he : a.tmps.getD x undef = ev r (.tmp x) := hf.ev (x := .tmp x) hk
        rw [List.mapM_cons]
        simp only [resOne, he]
        rw [Sem.run_bind, hrun]
        simp [h2]

theorem retV_eq (vs : List Value) : (if h : vs.toArray.size = 1 then vs.toArray[0] else .tuple vs.toArray) = retV vs := by
  match vs with
  | [] => rfl
  | [v] => rfl
  | v :: u :: l => rw [dif_neg (by simp)]; rfl

theorem results_run {P : Program} {fn : Func} {n : Nat} {r : Env} {a : Act} {w : World} {K : Value → Prop} (hf : Fits n r a) (h : resK P r w fn.results.toList fun vs => K (retV vs)) :
    ∃ v, (results fn a.tmps).run P w = .ok v w ∧ K v := by
  obtain ⟨vs, h1, h2⟩ := resK_sound hf _ _ h
  refine ⟨retV vs, ?_, h1⟩
  have he : results fn a.tmps = (do let vs ← fn.results.mapM (resOne a.tmps); pure (if h : vs.size = 1 then vs[0] else .tuple vs)) := by
    unfold results
    congr 1
  rw [he, Array.mapM_eq_mapM_toList]
  simp only [bind_map_left]
  rw [Sem.run_bind, h2]
  simp only [Result.andThen_ok]
  show Result.ok (if h : vs.toArray.size = 1 then vs.toArray[0] else .tuple vs.toArray) w = _
  rw [retV_eq]

theorem inits_look (l : List Value) : ∀ (k t : Nat) (x : AV), look (inits k l) t = some x → k ≤ t ∧ ∃ v, x = .val v ∧ l[t - k]? = some v := by
  induction l with
  | nil => intro k t x h; simp [inits, look] at h
  | cons v l ih =>
    intro k t x h
    unfold inits at h
    rw [look_cons] at h
    split at h
    · rename_i e
      subst e
      simp only [Option.some.injEq] at h
      exact ⟨Nat.le_refl _, v, h.symm, by simp⟩
    · rename_i e
      obtain ⟨h1, u, h2, h3⟩ := ih _ _ _ h
      refine ⟨by omega, u, h2, ?_⟩
      rw [show t - k = (t - (k + 1)) + 1 by omega]
      simpa using h3

/-- **A call of a function that has a body does what the reckoned condition asks.** -/
theorem calls_FN {P : Program} {f : FuncId} {fn : Func} {c : Code} {dead : List Nat} {pl : Plan} {args : List Value} {w : World} {K : Value → World → Prop} (hf : P.funcs[f]? = some fn) (hb : fn.body = some c)
    (h : FN P fn c dead pl args w K) : Calls P f args.toArray w (retK K) := by
  unfold FN at h
  cases hle : Nat.ble args.length fn.ntmps with
  | false => rw [hle] at h; exact h.elim
  | true =>
    rw [hle] at h
    have hle := Nat.le_of_ble_eq_true hle
    refine calls_of_wp hf hb ?_
    have fits : Fits fn.ntmps (inits 0 args) { tmps := args.toArray ++ Array.replicate (fn.ntmps - args.toArray.size) undef, defers := [] } := by
      refine ⟨rfl, by simp; omega, fun t x hx => ?_⟩
      obtain ⟨_, v, rfl, hv⟩ := inits_look _ _ _ _ hx
      have hv : args[t]? = some v := by simpa using hv
      have hlt : t < args.length := by
        rcases Nat.lt_or_ge t args.length with h | h
        · exact h
        · simp [List.getElem?_eq_none h] at hv
      rw [Array.getElem?_append_left (by simpa using hlt)]
      simpa [AV.v] using hv
    refine Code.wp_mono (fun e a w' hq => ?_) (WP_sound c _ _ _ _ w h fits)
    cases e with
    | normal =>
      obtain ⟨_, r, hfr, hh⟩ := hq
      obtain ⟨v, h1, h2⟩ := results_run (K := fun v => K v w') hfr hh
      exact ⟨hfr.defers, v, h1, h2⟩
    | ret =>
      obtain ⟨_, r, hfr, hh⟩ := hq
      obtain ⟨v, h1, h2⟩ := results_run (K := fun v => K v w') hfr hh
      exact ⟨hfr.defers, v, h1, h2⟩
    | exit id => obtain ⟨_, r, hfr, hh⟩ := hq; exact hh.elim
    | goto l => obtain ⟨_, r, hfr, hh⟩ := hq; exact hh.elim
    | panic c => exact hq.elim
    | outgrown => exact hq.elim

end Go.Proofs.YtoebncgnjbblgaaGreatDoor
