/-
  Plain laws of decimal numerals and of the wire encoding, over lists of bytes. No condition.
-/
import Derived.Test.YtoebncgnjbblgaaGreatDoorStrs
import Derived.Lib.ItoaNum
import Derived.Lib.AtoiAll
import Derived.Lib.AtoiAllCases
namespace Go.Proofs.YtoebncgnjbblgaaGreatDoor
open Go.Lib

abbrev Bs := List UInt8
abbrev inI (n : Int) : Prop := -9223372036854775808 ≤ n ∧ n ≤ 9223372036854775807

/-! ### Numerals -/
theorem dec_small {u : Nat} (h : u < 10) : decDigits u = [UInt8.ofNat (48 + u)] := by rw [decDigits, dif_pos h]
theorem dec_big {u : Nat} (h : ¬ u < 10) : decDigits u = decDigits (u / 10) ++ [UInt8.ofNat (48 + u % 10)] := by rw [decDigits, dif_neg h]
theorem dig_toNat {d : Nat} (h : d < 10) : (UInt8.ofNat (48 + d)).toNat = 48 + d := by
  rw [UInt8.toNat_ofNat_of_lt' (by show 48 + d < 256; omega)]
theorem dec_digit : ∀ (u : Nat), ∀ b ∈ decDigits u, 48 ≤ b.toNat ∧ b.toNat ≤ 57 := by
  intro u
  induction u using Nat.strongRecOn with
  | _ u ih =>
    intro b hb
    by_cases h : u < 10
    · rw [dec_small h, List.mem_singleton] at hb
      subst hb
      rw [dig_toNat h]; omega
    · rw [dec_big h] at hb
      rcases List.mem_append.1 hb with hb | hb
      · exact ih (u / 10) (by omega) b hb
      · rw [List.mem_singleton] at hb
        subst hb
        rw [dig_toNat (by omega)]; omega
theorem dec_ne (u : Nat) : decDigits u ≠ [] := by
  by_cases h : u < 10
  · rw [dec_small h]; simp
  · rw [dec_big h]; simp
def valD (l : Bs) : Nat := l.foldl (fun a c => a * 10 + (c.toNat - 48)) 0
theorem valD_dec (u : Nat) : valD (decDigits u) = u := by
  induction u using Nat.strongRecOn with
  | _ u ih =>
    by_cases h : u < 10
    · rw [dec_small h]
      simp only [valD, List.foldl_cons, List.foldl_nil]
      rw [dig_toNat h]; omega
    · rw [dec_big h]
      have := ih (u / 10) (by omega)
      unfold valD at this ⊢
      rw [List.foldl_append, this]
      simp only [List.foldl_cons, List.foldl_nil]
      rw [dig_toNat (by omega)]; omega
theorem dec_inj {u v : Nat} (h : decDigits u = decDigits v) : u = v := by rw [← valD_dec u, h, valD_dec]
theorem nDigits_le (k : Nat) : ∀ u, u < 10 ^ (k + 1) → nDigits u ≤ k + 1 := by
  induction k with
  | zero => intro u h; rw [nDigits_small (by simpa using h)]; exact Nat.le_refl _
  | succ k ih =>
    intro u h
    by_cases h1 : u < 10
    · rw [nDigits_small h1]; omega
    · rw [nDigits_big h1]
      have := ih (u / 10) (by rw [Nat.pow_succ] at h; omega)
      omega
theorem parse_append : ∀ (l r : Bs) (acc v : Nat), parseUint10 acc l = .ok v → parseUint10 acc (l ++ r) = parseUint10 v r
  | [], r, acc, v, h => by
    simp only [parseUint10] at h
    injection h with h
    rw [h]; rfl
  | c :: l, r, acc, v, h => by
    simp only [parseUint10] at h
    rw [List.cons_append, parseUint10]
    split at h
    · rename_i h1
      rw [if_pos h1]
      split at h
      · cases h
      · rename_i h2
        rw [if_neg h2]
        split at h
        · cases h
        · rename_i h3
          rw [if_neg h3]
          exact parse_append l r _ v h
    · cases h
theorem parse_dec (u : Nat) (hu : u < 18446744073709551616) : parseUint10 0 (decDigits u) = .ok u := by
  induction u using Nat.strongRecOn with
  | _ u ih =>
    have one : ∀ v d : Nat, d < 10 → v * 10 + d < 18446744073709551616 → parseUint10 v [UInt8.ofNat (48 + d)] = .ok (v * 10 + d) := by
      intro v d hd hv
      rw [parseUint10, if_pos (by rw [dig_toNat hd]; omega), if_neg (by omega), dig_toNat hd, if_neg (by omega)]
      rw [parseUint10]
      congr 1
      omega
    by_cases h : u < 10
    · rw [dec_small h]
      have := one 0 u h (by omega)
      simpa using this
    · rw [dec_big h, parse_append _ _ _ _ (ih (u / 10) (by omega) (by omega)), one _ _ (by omega) (by omega)]
      congr 1
      omega
theorem itoa_cases (n : Int) : (0 ≤ n ∧ itoa n = decDigits n.toNat) ∨ (n < 0 ∧ itoa n = 45 :: decDigits n.natAbs) := by
  unfold itoa
  by_cases h : n < 0
  · exact .inr ⟨h, if_pos h⟩
  · exact .inl ⟨by omega, if_neg h⟩
theorem itoa_byte {n : Int} {b : UInt8} (h : b ∈ itoa n) : b = 45 ∨ (48 ≤ b.toNat ∧ b.toNat ≤ 57) := by
  rcases itoa_cases n with ⟨_, e⟩ | ⟨_, e⟩ <;> rw [e] at h
  · exact .inr (dec_digit _ b h)
  · rcases List.mem_cons.1 h with h | h
    · exact .inl h
    · exact .inr (dec_digit _ b h)
theorem itoa_not {n : Int} {e : UInt8} (h : e = 59 ∨ e = 58 ∨ e = 91) : e ∉ itoa n := by
  intro hm
  rcases itoa_byte hm with rfl | ⟨h1, h2⟩
  · rcases h with h | h | h <;> exact absurd h (by decide)
  · rcases h with rfl | rfl | rfl
    · exact absurd h2 (by decide)
    · exact absurd h2 (by decide)
    · exact absurd h2 (by decide)
theorem itoa_ne (n : Int) : itoa n ≠ [] := by
  rcases itoa_cases n with ⟨_, e⟩ | ⟨_, e⟩ <;> rw [e]
  · exact dec_ne _
  · simp
theorem itoa_inj {n m : Int} (h : itoa n = itoa m) : n = m := by
  have no : ∀ u (l : Bs), decDigits u ≠ 45 :: l := fun u l e => by
    have := dec_digit u 45 (by rw [e]; exact List.mem_cons_self)
    exact absurd this.1 (by decide)
  rcases itoa_cases n with ⟨h1, e1⟩ | ⟨h1, e1⟩ <;> rcases itoa_cases m with ⟨h2, e2⟩ | ⟨h2, e2⟩ <;> rw [e1, e2] at h
  · have := dec_inj h; omega
  · exact absurd h (no _ _)
  · exact absurd h.symm (no _ _)
  · injection h with _ h
    have := dec_inj h
    omega
theorem itoa_len {n : Int} (h : inI n) : (itoa n).length ≤ 20 := by
  have h1 := h.1
  have h2 := h.2
  have e19 : (10 : Nat) ^ (18 + 1) = 10000000000000000000 := by decide
  rcases itoa_cases n with ⟨h3, e⟩ | ⟨h3, e⟩ <;> rw [e]
  · rw [decDigits_length]
    have := nDigits_le 18 n.toNat (by rw [e19]; omega)
    omega
  · rw [List.length_cons, decDigits_length]
    have := nDigits_le 18 n.natAbs (by rw [e19]; omega)
    omega
theorem itoa_pos (n : Int) : 0 < (itoa n).length := List.length_pos_iff.2 (itoa_ne n)
theorem atoi_itoa {n : Int} (h : inI n) : atoiAll (itoa n) = .ok n := by
  have h1 := h.1
  have h2 := h.2
  have pm : ∀ u : Nat, u < 18446744073709551616 → parseMag (decDigits u) = .ok u := fun u hu => by
    unfold parseMag
    rw [if_neg (dec_ne u), parse_dec u hu]
  rcases itoa_cases n with ⟨h3, e⟩ | ⟨h3, e⟩ <;> rw [e]
  · cases hd : decDigits n.toNat with
    | nil => exact absurd hd (dec_ne _)
    | cons c r =>
      have hc := dec_digit n.toNat c (by rw [hd]; exact List.mem_cons_self)
      rw [atoiAll_plain c r (by omega) (by omega), ← hd, pm _ (by omega)]
      simp only [signless]
      rw [if_neg (by omega)]
      congr 1
      omega
  · rw [atoiAll_minus, pm _ (by omega)]
    simp only [signed]
    rw [if_neg (by omega)]
    congr 1
    omega

/-! ### The first place of a byte -/
theorem split_first {e : UInt8} : ∀ {a a' r r' : Bs}, e ∉ a → e ∉ a' → a ++ e :: r = a' ++ e :: r' → a = a' ∧ r = r'
  | [], [], r, r', _, _, h => by
    injection h with _ h
    exact ⟨rfl, h⟩
  | [], x :: a', r, r', _, h2, h => by
    injection h with h _
    exact absurd (by rw [h]; exact List.mem_cons_self) h2
  | x :: a, [], r, r', h1, _, h => by
    injection h with h _
    exact absurd (by rw [h]; exact List.mem_cons_self) h1
  | x :: a, y :: a', r, r', h1, h2, h => by
    injection h with hx h
    subst hx
    obtain ⟨e1, e2⟩ := split_first (fun hh => h1 (List.mem_cons_of_mem _ hh)) (fun hh => h2 (List.mem_cons_of_mem _ hh)) h
    exact ⟨by rw [e1], e2⟩

/-! ### Encodings -/
def encI (n : Int) : Bs := itoa n ++ [59]
def encN (n : Int) : Bs := if n < 0 then [] else encI n
def encT (s : Bs) : Bs := itoa s.length ++ 58 :: (s ++ [44])
def encL {α : Type} (one : α → Bs) (l : List α) : Bs := itoa l.length ++ 91 :: (l.flatMap one ++ [93])

/-! ### A reader -/
structure RS where
  rest : Bs
  bad : Bool
def failR : RS := ⟨[], true⟩
open Classical in
noncomputable def numS (e : UInt8) (lo : Int) (s : Bs) : Option (Int × Bs) :=
  if h : ∃ p : Int × Bs, s = itoa p.1 ++ e :: p.2 ∧ lo ≤ p.1 ∧ inI p.1 then some h.choose else none
abbrev isEnd (e : UInt8) : Prop := e = 59 ∨ e = 58 ∨ e = 91
theorem numS_some {e : UInt8} (he : isEnd e) {lo : Int} {s : Bs} {n : Int} {r : Bs} : numS e lo s = some (n, r) ↔ s = itoa n ++ e :: r ∧ lo ≤ n ∧ inI n := by
  unfold numS
  constructor
  · intro h
    split at h
    · rename_i hh
      have := hh.choose_spec
      injection h with h
      rw [h] at this
      exact this
    · cases h
  · intro h
    have hh : ∃ p : Int × Bs, s = itoa p.1 ++ e :: p.2 ∧ lo ≤ p.1 ∧ inI p.1 := ⟨(n, r), h⟩
    rw [dif_pos hh]
    have h2 := hh.choose_spec
    generalize hh.choose = p at h2
    obtain ⟨n2, r2⟩ := p
    have h3 : itoa n2 ++ e :: r2 = itoa n ++ e :: r := h2.1.symm.trans h.1
    obtain ⟨e1, e2⟩ := split_first (itoa_not he) (itoa_not he) h3
    rw [itoa_inj e1, e2]
theorem numS_none {e : UInt8} {lo : Int} {s : Bs} : numS e lo s = none ↔ ∀ n r, s = itoa n ++ e :: r → lo ≤ n → ¬ inI n := by
  unfold numS
  constructor
  · intro h n r h1 h2 h3
    split at h
    · cases h
    · rename_i hh
      exact hh ⟨(n, r), h1, h2, h3⟩
  · intro h
    rw [dif_neg]
    rintro ⟨⟨n, r⟩, h1, h2, h3⟩
    exact h n r h1 h2 h3
noncomputable def numR (e : UInt8) (lo : Int) (s : RS) : Int × RS := match numS e lo s.rest with
  | some p => (p.1, ⟨p.2, s.bad⟩)
  | none => (0, failR)
def closeR (e : UInt8) (s : RS) : RS := match s.rest with
  | [] => failR
  | x :: r => if x = e then ⟨r, s.bad⟩ else failR
noncomputable def intR (s : RS) : Int × RS := numR 59 (-9223372036854775808) s
noncomputable def natR (s : RS) : Int × RS := numR 59 0 s
noncomputable def textR (s : RS) : Bs × RS :=
  let p := numR 58 0 s
  if p.2.rest.length < p.1 then ([], failR)
  else
    let c := closeR 44 ⟨p.2.rest.drop p.1.toNat, p.2.bad⟩
    (if c.bad = true then [] else p.2.rest.take p.1.toNat, c)
def loopR {α : Type} (one : RS → α × RS) : Nat → List α → RS → List α × RS
  | 0, acc, s => (acc, s)
  | k + 1, acc, s => if s.bad = true then (acc, s) else loopR one k (acc ++ [(one s).1]) (one s).2
noncomputable def itemsR {α : Type} (one : RS → α × RS) (s : RS) : List α × RS :=
  let p := numR 91 0 s
  let q := loopR one p.1.toNat [] p.2
  let c := closeR 93 q.2
  (if c.bad = true then [] else q.1, c)
noncomputable abbrev intsR := itemsR intR
noncomputable abbrev textsR := itemsR textR

/-! ### Reading back -/
theorem numR_enc {e : UInt8} (he : isEnd e) {lo n : Int} (h1 : lo ≤ n) (h2 : inI n) (r : Bs) (b : Bool) : numR e lo ⟨itoa n ++ e :: r, b⟩ = (n, ⟨r, b⟩) := by
  unfold numR
  rw [(numS_some he (s := itoa n ++ e :: r)).2 ⟨rfl, h1, h2⟩]
theorem intR_enc {n : Int} (h : inI n) (r : Bs) (b : Bool) : intR ⟨encI n ++ r, b⟩ = (n, ⟨r, b⟩) := by
  unfold intR encI
  rw [List.append_assoc]
  exact numR_enc (.inl rfl) h.1 h r b
theorem natR_enc {n : Int} (h0 : 0 ≤ n) (h : inI n) (r : Bs) (b : Bool) : natR ⟨encI n ++ r, b⟩ = (n, ⟨r, b⟩) := by
  unfold natR encI
  rw [List.append_assoc]
  exact numR_enc (.inl rfl) h0 h r b
theorem closeR_cons (e : UInt8) (r : Bs) (b : Bool) : closeR e ⟨e :: r, b⟩ = ⟨r, b⟩ := by simp [closeR]
theorem textR_enc {t : Bs} (h : t.length ≤ 9223372036854775807) (r : Bs) : textR ⟨encT t ++ r, false⟩ = (t, ⟨r, false⟩) := by
  unfold textR encT
  rw [List.append_assoc, List.cons_append, numR_enc (.inr (.inl rfl)) (by omega) ⟨by omega, by omega⟩]
  simp only [Int.toNat_natCast]
  rw [if_neg (by simp; omega), List.append_assoc, List.drop_left, List.take_left]
  simp [closeR]
theorem loopR_enc {α : Type} {enc : α → Bs} {one : RS → α × RS} : ∀ (l acc : List α) (r : Bs), (∀ x ∈ l, ∀ r, one ⟨enc x ++ r, false⟩ = (x, ⟨r, false⟩)) → loopR one l.length acc ⟨l.flatMap enc ++ r, false⟩ = (acc ++ l, ⟨r, false⟩)
  | [], acc, r, _ => by simp [loopR]
  | x :: l, acc, r, h => by
    rw [List.length_cons, loopR, if_neg Bool.false_ne_true, List.flatMap_cons, List.append_assoc, h x List.mem_cons_self]
    rw [loopR_enc l _ r fun y hy => h y (List.mem_cons_of_mem _ hy)]
    simp
theorem itemsR_enc {α : Type} {enc : α → Bs} {one : RS → α × RS} {l : List α} (hl : l.length ≤ 9223372036854775807) (h : ∀ x ∈ l, ∀ r, one ⟨enc x ++ r, false⟩ = (x, ⟨r, false⟩)) (r : Bs) :
    itemsR one ⟨encL enc l ++ r, false⟩ = (l, ⟨r, false⟩) := by
  unfold itemsR encL
  rw [List.append_assoc, List.cons_append, numR_enc (.inr (.inr rfl)) (by omega) ⟨by omega, by omega⟩]
  simp only [Int.toNat_natCast]
  rw [List.append_assoc, loopR_enc _ _ _ h]
  simp [closeR]
theorem intsR_enc {l : List Int} (hl : l.length ≤ 9223372036854775807) (h : ∀ n ∈ l, inI n) (r : Bs) : intsR ⟨encL encI l ++ r, false⟩ = (l, ⟨r, false⟩) := itemsR_enc hl (fun n hn r => intR_enc (h n hn) r false) r
theorem textsR_enc {l : List Bs} (hl : l.length ≤ 9223372036854775807) (h : ∀ t ∈ l, t.length ≤ 9223372036854775807) (r : Bs) : textsR ⟨encL encT l ++ r, false⟩ = (l, ⟨r, false⟩) := itemsR_enc hl (fun t ht r => textR_enc (h t ht) r) r

/-! ### What was read is what is there -/
/-- A call of a reader: it fails, or it has read an encoding. -/
structure Ok1 {α : Type} (enc : α → Bs) (good : α → Prop) (one : RS → α × RS) : Prop where
  key : ∀ l : Bs, (∃ x r, l = enc x ++ r ∧ good x ∧ one ⟨l, false⟩ = (x, ⟨r, false⟩)) ∨ (one ⟨l, false⟩).2 = failR
  bad : (one failR).2 = failR
theorem Ok1.back {α : Type} {enc : α → Bs} {good : α → Prop} {one : RS → α × RS} (h : Ok1 enc good one) {s : RS} (h1 : s.bad = false) (h2 : (one s).2.bad = false) : s.rest = enc (one s).1 ++ (one s).2.rest ∧ good (one s).1 := by
  obtain ⟨l, b⟩ := s
  have h1 : b = false := h1
  subst h1
  rcases h.key l with ⟨x, r, e1, e2, e3⟩ | e
  · rw [e3]; exact ⟨e1, e2⟩
  · rw [e] at h2; cases h2
theorem Ok1.fail {α : Type} {enc : α → Bs} {good : α → Prop} {one : RS → α × RS} (h : Ok1 enc good one) {s : RS} (h1 : s.bad = false) (h2 : (one s).2.bad = true) : (one s).2 = failR := by
  obtain ⟨l, b⟩ := s
  have h1 : b = false := h1
  subst h1
  rcases h.key l with ⟨x, r, e1, e2, e3⟩ | e
  · rw [e3] at h2; cases h2
  · exact e
theorem numR_cases {e : UInt8} (he : isEnd e) (lo : Int) (s : RS) : (∃ n r, s.rest = itoa n ++ e :: r ∧ lo ≤ n ∧ inI n ∧ numR e lo s = (n, ⟨r, s.bad⟩)) ∨ ((∀ n r, s.rest = itoa n ++ e :: r → lo ≤ n → ¬ inI n) ∧ numR e lo s = (0, failR)) := by
  unfold numR
  cases h : numS e lo s.rest with
  | none => exact .inr ⟨numS_none.1 h, rfl⟩
  | some p =>
    obtain ⟨n, r⟩ := p
    obtain ⟨h1, h2, h3⟩ := (numS_some he).1 h
    exact .inl ⟨n, r, h1, h2, h3, rfl⟩
theorem numR_fail {e : UInt8} (he : isEnd e) (lo : Int) : numR e lo failR = (0, failR) := by
  rcases numR_cases he lo failR with ⟨n, r, e1, _⟩ | ⟨_, e4⟩
  · exact absurd e1.symm (by simp [failR])
  · exact e4
theorem numR_ok {e : UInt8} (he : isEnd e) (lo : Int) : Ok1 (fun n => itoa n ++ [e]) (fun n => lo ≤ n ∧ inI n) (numR e lo) := by
  refine ⟨fun l => ?_, by rw [numR_fail he]⟩
  rcases numR_cases he lo ⟨l, false⟩ with ⟨n, r, e1, e2, e3, e4⟩ | ⟨_, e4⟩
  · refine .inl ⟨n, r, ?_, ⟨e2, e3⟩, e4⟩
    rw [List.append_assoc]
    exact e1
  · exact .inr (by rw [e4])
theorem intR_ok : Ok1 encI (fun n => -9223372036854775808 ≤ n ∧ inI n) intR := numR_ok (.inl rfl) _
theorem natR_ok : Ok1 encI (fun n => 0 ≤ n ∧ inI n) natR := numR_ok (.inl rfl) _
theorem closeR_cases (e : UInt8) (s : RS) : (∃ r, s.rest = e :: r ∧ closeR e s = ⟨r, s.bad⟩) ∨ ((∀ r, s.rest ≠ e :: r) ∧ closeR e s = failR) := by
  unfold closeR
  cases h : s.rest with
  | nil => exact .inr ⟨fun r => by simp, rfl⟩
  | cons x r =>
    by_cases hx : x = e
    · subst hx
      exact .inl ⟨r, rfl, by simp⟩
    · refine .inr ⟨fun r' hh => ?_, by simp [hx]⟩
      injection hh with hh _
      exact hx hh
theorem closeR_fail (e : UInt8) : closeR e failR = failR := rfl
theorem textR_ok : Ok1 encT (fun t => t.length ≤ 9223372036854775807) textR := by
  refine ⟨fun l => ?_, ?_⟩
  · unfold textR
    rcases numR_cases (.inr (.inl rfl) : isEnd 58) 0 ⟨l, false⟩ with ⟨n, r, e1, e2, e3, e4⟩ | ⟨_, e4⟩ <;> rw [e4]
    · by_cases hc : (r.length : Int) < n
      · right
        simp only [if_pos hc]
      · simp only [if_neg hc]
        rcases closeR_cases 44 ⟨r.drop n.toNat, false⟩ with ⟨r2, c1, c2⟩ | ⟨_, c2⟩ <;> rw [c2]
        · left
          have c1 : r.drop n.toNat = 44 :: r2 := c1
          have hl : (r.take n.toNat).length = n.toNat := by rw [List.length_take]; omega
          refine ⟨r.take n.toNat, r2, ?_, by rw [hl]; omega, rfl⟩
          have e1 : l = itoa n ++ 58 :: r := e1
          rw [e1]
          unfold encT
          rw [hl, Int.toNat_of_nonneg e2, List.append_assoc, List.cons_append, List.append_assoc]
          congr 2
          rw [List.singleton_append, ← c1, List.take_append_drop]
        · right
          rfl
    · right
      simp [failR, closeR]
  · unfold textR
    rw [numR_fail (.inr (.inl rfl))]
    simp [failR, closeR]
theorem loopR_ok {α : Type} {enc : α → Bs} {good : α → Prop} {one : RS → α × RS} (h : Ok1 enc good one) : ∀ (k : Nat) (acc : List α) (s : RS), s.bad = false → (loopR one k acc s).2.bad = false →
    ∃ l, l.length = k ∧ (loopR one k acc s).1 = acc ++ l ∧ s.rest = l.flatMap enc ++ (loopR one k acc s).2.rest ∧ ∀ x ∈ l, good x
  | 0, acc, s, _, _ => ⟨[], rfl, by simp [loopR], by simp [loopR], fun x hx => by cases hx⟩
  | k + 1, acc, s, h1, h2 => by
    have hb1 : ¬ s.bad = true := by rw [h1]; decide
    rw [loopR, if_neg hb1] at h2 ⊢
    have h3 : (one s).2.bad = false := by
      cases hb : (one s).2.bad
      · rfl
      · exfalso
        cases k with
        | zero => rw [loopR] at h2; rw [hb] at h2; cases h2
        | succ k => rw [loopR, if_pos hb, hb] at h2; cases h2
    obtain ⟨l, e1, e2, e3, e4⟩ := loopR_ok h k (acc ++ [(one s).1]) (one s).2 h3 h2
    obtain ⟨b1, b2⟩ := h.back h1 h3
    refine ⟨(one s).1 :: l, by rw [List.length_cons, e1], by rw [e2]; simp, ?_, fun x hx => ?_⟩
    · rw [List.flatMap_cons, List.append_assoc, ← e3]
      exact b1
    · rcases List.mem_cons.1 hx with rfl | hx
      · exact b2
      · exact e4 x hx
theorem loopR_fail {α : Type} {enc : α → Bs} {good : α → Prop} {one : RS → α × RS} (h : Ok1 enc good one) : ∀ (k : Nat) (acc : List α) (s : RS), s.bad = false → (loopR one k acc s).2.bad = true → (loopR one k acc s).2 = failR
  | 0, acc, s, h1, h2 => by rw [loopR] at h2; rw [h1] at h2; cases h2
  | k + 1, acc, s, h1, h2 => by
    have hb1 : ¬ s.bad = true := by rw [h1]; decide
    rw [loopR, if_neg hb1] at h2 ⊢
    cases hb : (one s).2.bad
    · exact loopR_fail h k _ _ hb h2
    · have := h.fail h1 hb
      cases k with
      | zero => rw [loopR]; exact this
      | succ k => rw [loopR, if_pos hb]; exact this
theorem itemsR_ok {α : Type} {enc : α → Bs} {good : α → Prop} {one : RS → α × RS} (h : Ok1 enc good one) : Ok1 (encL enc) (fun l => l.length ≤ 9223372036854775807 ∧ ∀ x ∈ l, good x) (itemsR one) := by
  refine ⟨fun l => ?_, ?_⟩
  · unfold itemsR
    rcases numR_cases (.inr (.inr rfl) : isEnd 91) 0 ⟨l, false⟩ with ⟨n, r, e1, e2, e3, e4⟩ | ⟨_, e4⟩ <;> rw [e4]
    · simp only
      have e1 : l = itoa n ++ 91 :: r := e1
      rcases closeR_cases 93 (loopR one n.toNat [] ⟨r, false⟩).2 with ⟨r2, c1, c2⟩ | ⟨_, c2⟩ <;> rw [c2]
      · cases hb : (loopR one n.toNat [] ⟨r, false⟩).2.bad
        · left
          obtain ⟨l2, l1, l2', l3, l4⟩ := loopR_ok h n.toNat [] ⟨r, false⟩ rfl hb
          have l3 : r = l2.flatMap enc ++ (loopR one n.toNat [] ⟨r, false⟩).2.rest := l3
          have hln : (l2.length : Int) = n := by omega
          refine ⟨l2, r2, ?_, ⟨by omega, l4⟩, ?_⟩
          · rw [e1]
            unfold encL
            rw [hln, List.append_assoc, List.cons_append, List.append_assoc, List.singleton_append, ← c1, ← l3]
          · rw [l2']; rfl
        · right
          have := loopR_fail h n.toNat [] ⟨r, false⟩ rfl hb
          rw [this] at c1
          cases c1
      · right
        rfl
    · right
      simp [failR, closeR, loopR]
  · unfold itemsR
    rw [numR_fail (.inr (.inr rfl))]
    simp [failR, closeR, loopR]
theorem intsR_ok : Ok1 (encL encI) (fun l => l.length ≤ 9223372036854775807 ∧ ∀ x ∈ l, -9223372036854775808 ≤ x ∧ inI x) intsR := itemsR_ok intR_ok
theorem textsR_ok : Ok1 (encL encT) (fun l => l.length ≤ 9223372036854775807 ∧ ∀ x ∈ l, x.length ≤ 9223372036854775807) textsR := itemsR_ok textR_ok
end Go.Proofs.YtoebncgnjbblgaaGreatDoor
