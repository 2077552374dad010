/-
  Comparing values and rows: an order. No condition.
-/
import Derived.Test.YtoebncgnjbblgaaGreatDoorValC
import Derived.Test.YtoebncgnjbblgaaGreatDoorWireP
--@auto
namespace Go.Proofs.YtoebncgnjbblgaaGreatDoor
open Go.RowKit
set_option maxRecDepth 100000

/-- A comparison that orders. -/
structure Ord3 {α : Type} (c : α → α → Int) : Prop where
  range : ∀ a b, c a b = -1 ∨ c a b = 0 ∨ c a b = 1
  anti : ∀ a b, c b a = -c a b
  eq : ∀ a b, c a b = 0 ↔ a = b
  trans : ∀ a b d, c a b ≤ 0 → c b d ≤ 0 → c a d ≤ 0
theorem Ord3.strict {α : Type} {c : α → α → Int} (h : Ord3 c) {a b d : α} (h1 : c a b ≤ 0) (h2 : c b d ≤ 0) (h3 : c a b < 0 ∨ c b d < 0) : c a d < 0 := by
  have h4 := h.trans a b d h1 h2
  by_cases h5 : c a d = 0
  · have := (h.eq a d).1 h5
    subst this
    have := h.anti a b
    omega
  · omega
theorem cmpI_ord : Ord3 cmpI := by
  refine ⟨fun a b => ?_, fun a b => ?_, fun a b => ?_, fun a b d h1 h2 => ?_⟩
  all_goals unfold cmpI at *
  · split
    · exact .inl rfl
    · split
      · exact .inr (.inr rfl)
      · exact .inr (.inl rfl)
  · by_cases h1 : a < b
    · rw [if_neg (by omega), if_pos h1, if_pos h1]; rfl
    · rw [if_neg h1]
      by_cases h2 : b < a
      · rw [if_pos h2, if_pos h2, if_neg h1]
      · rw [if_neg h2, if_neg h2, if_neg h1]; rfl
  · by_cases h1 : a < b
    · rw [if_pos h1]; exact ⟨fun h => by omega, fun h => by omega⟩
    · rw [if_neg h1]
      by_cases h2 : b < a
      · rw [if_pos h2]; exact ⟨fun h => by omega, fun h => by omega⟩
      · rw [if_neg h2]; exact ⟨fun h => by omega, fun h => rfl⟩
  · have l1 : a ≤ b := by
      by_cases c : b < a
      · rw [if_neg (by omega), if_pos c] at h1; omega
      · omega
    have l2 : b ≤ d := by
      by_cases c : d < b
      · rw [if_neg (by omega), if_pos c] at h2; omega
      · omega
    by_cases c : a < d
    · rw [if_pos c]; decide
    · rw [if_neg c, if_neg (by omega)]; decide
/-- First the one, then the other. -/
theorem Ord3.then {α β γ : Type} {c1 : β → β → Int} {c2 : γ → γ → Int} (h1 : Ord3 c1) (h2 : Ord3 c2) (f : α → β) (g : α → γ) (hfg : ∀ a b, f a = f b → g a = g b → a = b) :
    Ord3 fun a b => if c1 (f a) (f b) ≠ 0 then c1 (f a) (f b) else c2 (g a) (g b) := by
  refine ⟨fun a b => ?_, fun a b => ?_, fun a b => ?_, fun a b d k1 k2 => ?_⟩
  · show (if _ then _ else _) = _ ∨ (if _ then _ else _) = _ ∨ (if _ then _ else _) = _
    split
    · exact h1.range _ _
    · exact h2.range _ _
  · show (if c1 (f b) (f a) ≠ 0 then c1 (f b) (f a) else c2 (g b) (g a)) = -(if c1 (f a) (f b) ≠ 0 then c1 (f a) (f b) else c2 (g a) (g b))
    have e := h1.anti (f a) (f b)
    by_cases c : c1 (f a) (f b) = 0
    · rw [if_neg (fun hh => hh (by omega)), if_neg (fun hh => hh c)]; exact h2.anti _ _
    · rw [if_pos (fun hh => c (by omega)), if_pos c]; exact e
  · show (if c1 (f a) (f b) ≠ 0 then c1 (f a) (f b) else c2 (g a) (g b)) = 0 ↔ a = b
    by_cases c : c1 (f a) (f b) = 0
    · rw [if_neg (fun hh => hh c)]
      exact ⟨fun h => hfg a b ((h1.eq _ _).1 c) ((h2.eq _ _).1 h), fun h => by rw [h]; exact (h2.eq _ _).2 rfl⟩
    · rw [if_pos c]
      exact ⟨fun h => absurd h c, fun h => absurd ((h1.eq _ _).2 (by rw [h])) c⟩
  · replace k1 : (if c1 (f a) (f b) ≠ 0 then c1 (f a) (f b) else c2 (g a) (g b)) ≤ 0 := k1
    replace k2 : (if c1 (f b) (f d) ≠ 0 then c1 (f b) (f d) else c2 (g b) (g d)) ≤ 0 := k2
    show (if c1 (f a) (f d) ≠ 0 then c1 (f a) (f d) else c2 (g a) (g d)) ≤ 0
    by_cases c : c1 (f a) (f b) = 0
    · rw [if_neg (fun hh => hh c)] at k1
      have e := (h1.eq _ _).1 c
      rw [e]
      by_cases c' : c1 (f b) (f d) = 0
      · rw [if_neg (fun hh => hh c')] at k2 ⊢
        exact h2.trans _ _ _ k1 k2
      · rw [if_pos c'] at k2 ⊢; exact k2
    · rw [if_pos c] at k1
      have k3 : c1 (f b) (f d) ≤ 0 := by
        by_cases c' : c1 (f b) (f d) = 0
        · omega
        · rw [if_pos c'] at k2; exact k2
      have := h1.strict k1 k3 (.inl (by omega))
      rw [if_pos (by omega)]
      omega
/-- Lists, from the front on. -/
def lexL {α : Type} (c : α → α → Int) : List α → List α → Int
  | [], [] => 0
  | [], _ :: _ => -1
  | _ :: _, [] => 1
  | a :: r, b :: q => if c a b ≠ 0 then c a b else lexL c r q
theorem lex_nil {α : Type} {c : α → α → Int} (l : List α) : lexL c [] l ≤ 0 := by cases l <;> simp [lexL]
theorem lexL_ord {α : Type} {c : α → α → Int} (h : Ord3 c) : Ord3 (lexL c) := by
  refine ⟨fun a => ?_, fun a => ?_, fun a => ?_, fun a => ?_⟩
  · induction a with
    | nil => intro b; cases b <;> simp [lexL]
    | cons x a ih =>
      intro b
      cases b with
      | nil => simp [lexL]
      | cons y b =>
        rw [lexL]
        split
        · exact h.range _ _
        · exact ih b
  · induction a with
    | nil => intro b; cases b <;> simp [lexL]
    | cons x a ih =>
      intro b
      cases b with
      | nil => simp [lexL]
      | cons y b =>
        rw [lexL, lexL]
        have e := h.anti x y
        by_cases k : c x y = 0
        · rw [if_neg (fun hh => hh (by omega)), if_neg (fun hh => hh k)]; exact ih b
        · rw [if_pos (by omega), if_pos k]; exact e
  · induction a with
    | nil => intro b; cases b <;> simp [lexL]
    | cons x a ih =>
      intro b
      cases b with
      | nil => simp [lexL]
      | cons y b =>
        rw [lexL]
        by_cases k : c x y = 0
        · rw [if_neg (fun hh => hh k), ih b, (h.eq x y).1 k]; simp
        · rw [if_pos k]
          exact ⟨fun hh => absurd hh k, fun hh => by injection hh with hh _; exact absurd ((h.eq _ _).2 hh) k⟩
  · induction a with
    | nil => intro b d _ _; exact lex_nil d
    | cons x a ih =>
      intro b d k1 k2
      cases b with
      | nil => simp [lexL] at k1
      | cons y b =>
        cases d with
        | nil => simp [lexL] at k2
        | cons z d =>
          rw [lexL] at k1 k2 ⊢
          by_cases k : c x y = 0
          · rw [if_neg (fun hh => hh k)] at k1
            rw [(h.eq x y).1 k]
            by_cases k' : c y z = 0
            · rw [if_neg (fun hh => hh k')] at k2 ⊢; exact ih b d k1 k2
            · rw [if_pos k'] at k2 ⊢; exact k2
          · rw [if_pos k] at k1
            have k3 : c y z ≤ 0 := by
              by_cases k' : c y z = 0
              · omega
              · rw [if_pos k'] at k2; exact k2
            have := h.strict k1 k3 (.inl (by omega))
            rw [if_pos (by omega)]
            omega
theorem lex_same {α : Type} {c : α → α → Int} : ∀ {a b : List α} (i : Nat), (∀ j (h1 : j < a.length) (h2 : j < b.length), j < i → c a[j] b[j] = 0) → i ≤ a.length → i ≤ b.length → lexL c a b = lexL c (a.drop i) (b.drop i)
  | a, b, 0, _, _, _ => rfl
  | [], b, i + 1, _, h1, _ => absurd h1 (Nat.not_succ_le_zero _)
  | a, [], i + 1, _, _, h2 => absurd h2 (Nat.not_succ_le_zero _)
  | x :: a, y :: b, i + 1, h, h1, h2 => by
    have e := h 0 (Nat.succ_pos _) (Nat.succ_pos _) (Nat.succ_pos _)
    rw [lexL, if_neg (fun hh => hh e), List.drop_succ_cons, List.drop_succ_cons]
    exact lex_same i (fun j k1 k2 k3 => h (j + 1) (by simpa using k1) (by simpa using k2) (by omega)) (by simpa using h1) (by simpa using h2)
/-- The first place at which they differ. -/
theorem lex_first {α : Type} {c : α → α → Int} {a b : List α} (i : Nat) (h1 : i < a.length) (h2 : i < b.length) (hs : ∀ j (h1 : j < a.length) (h2 : j < b.length), j < i → c a[j] b[j] = 0) (hd : c a[i] b[i] ≠ 0) : lexL c a b = c a[i] b[i] := by
  rw [lex_same i hs (by omega) (by omega), List.drop_eq_getElem_cons h1, List.drop_eq_getElem_cons h2, lexL, if_pos hd]
theorem lex_longer {α : Type} {c : α → α → Int} {a b e : List α} (hd : ∃ j, ∃ (h1 : j < a.length) (h2 : j < b.length), c a[j] b[j] ≠ 0) : lexL c (a ++ e) b = lexL c a b := by
  obtain ⟨j, h1, h2, hd⟩ := hd
  induction a generalizing b j with
  | nil => exact absurd h1 (Nat.not_lt_zero _)
  | cons x a ih =>
    cases b with
    | nil => exact absurd h2 (Nat.not_lt_zero _)
    | cons y b =>
      rw [List.cons_append, lexL, lexL]
      by_cases k : c x y = 0
      · rw [if_neg (fun hh => hh k), if_neg (fun hh => hh k)]
        cases j with
        | zero => exact absurd k hd
        | succ j => exact ih j (by simpa using h1) (by simpa using h2) hd
      · rw [if_pos k, if_pos k]
theorem lex_behind {α : Type} {c : α → α → Int} (h : Ord3 c) {e : List α} (he : e ≠ []) : ∀ a : List α, lexL c a (a ++ e) = -1
  | [] => by cases e with
    | nil => exact absurd rfl he
    | cons x e => rfl
  | x :: a => by
    rw [List.cons_append, lexL, if_neg (fun hh => hh ((h.eq x x).2 rfl))]
    exact lex_behind h he a
/-! ### Values and rows -/
def cmp8 (a b : UInt8) : Int := if a < b then -1 else if b < a then 1 else 0
theorem cmp8_eq (a b : UInt8) : cmp8 a b = cmpI a.toNat b.toNat := by
  unfold cmp8 cmpI
  simp only [UInt8.lt_iff_toNat_lt, Int.ofNat_lt]
theorem cmp8_ord : Ord3 cmp8 := by
  have e : cmp8 = fun a b => cmpI a.toNat b.toNat := by funext a b; exact cmp8_eq a b
  rw [e]
  refine ⟨fun a b => cmpI_ord.range _ _, fun a b => cmpI_ord.anti _ _, fun a b => ?_, fun a b d => cmpI_ord.trans _ _ _⟩
  refine (cmpI_ord.eq _ _).trans ⟨fun h => UInt8.toNat_inj.1 (by omega), fun h => by rw [h]⟩
theorem bytes_lex : ∀ a b : Bs, Go.Lib.compareBytes a b = lexL cmp8 a b
  | [], [] => rfl
  | [], _ :: _ => rfl
  | _ :: _, [] => rfl
  | a :: r, b :: q => by
    rw [lexL, Go.Lib.compareBytes, bytes_lex r q]
    unfold cmp8
    by_cases h1 : a < b
    · simp [h1]
    · by_cases h2 : b < a <;> simp [h1, h2]
theorem bytes_ord : Ord3 Go.Lib.compareBytes := by
  have e : Go.Lib.compareBytes = lexL cmp8 := by funext a b; exact bytes_lex a b
  rw [e]; exact lexL_ord cmp8_ord
theorem bytesLess_eq : ∀ a b : Bs, Op.bytesLess a b = decide (Go.Lib.compareBytes a b < 0)
  | [], [] => rfl
  | [], _ :: _ => rfl
  | _ :: _, [] => rfl
  | a :: r, b :: q => by
    rw [Op.bytesLess, Go.Lib.compareBytes, bytesLess_eq r q]
    by_cases h1 : a < b
    · simp [h1]
    · by_cases h2 : b < a
      · have h3 : ¬ a = b := fun hh => by subst hh; exact h1 h2
        simp [h1, h2, h3]
      · have h3 : a = b := UInt8.toNat_inj.1 (by rw [UInt8.lt_iff_toNat_lt] at h1 h2; omega)
        simp [h2, h3]
theorem compareV_ord : Ord3 compareV := by
  have h2 := cmpI_ord.then bytes_ord (fun p : Int × Bs => p.1) (fun p => p.2) fun a b h1 h2 => Prod.ext h1 h2
  exact cmpI_ord.then h2 (fun v : ValD => v.kind) (fun v => (v.n, bl v.s)) fun a b h1 h2 => by
    obtain ⟨k, n, s⟩ := a
    obtain ⟨k', n', s'⟩ := b
    simp only [Prod.mk.injEq] at h1 h2
    obtain ⟨h2, h3⟩ := h2
    rw [h1, h2, bl_inj h3]
theorem rows_lex : ∀ l m : List ValD, compareRows l m = lexL compareV l m
  | [], [] => rfl
  | [], _ :: _ => rfl
  | _ :: _, [] => rfl
  | a :: r, b :: q => by rw [lexL, compareRows, rows_lex r q]
theorem rows_ord : Ord3 compareRows := by
  have e : compareRows = lexL compareV := by funext a b; exact rows_lex a b
  rw [e]; exact lexL_ord compareV_ord
end Go.Proofs.YtoebncgnjbblgaaGreatDoor
