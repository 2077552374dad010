/-
  The cell of chapter 5: what Open and Set make of a disk and a cell, in plain words, and the given functions. No condition.
-/
import Derived.Test.YtmkigdkhpdeaeaaDoorDiskK
namespace Go.Proofs.YtmkigdkhpdeaeaaDoor
open Go.RowKit

structure CS where
  slot : Int
  value : ByteArray
  sure : Bool
def c0S : CS := ⟨0, ⟨#[]⟩, false⟩
def offs (k : Int) : Int := if k = 2 then 131072 else 64
def headL (k n : Nat) : List UInt8 := [UInt8.ofNat k, UInt8.ofNat n, UInt8.ofNat (n / 256), UInt8.ofNat (n / 65536), UInt8.ofNat (n / 16777216)]
def hnum (l : List UInt8) : Nat := (l.getD 1 0).toNat + 256 * (l.getD 2 0).toNat + 65536 * (l.getD 3 0).toNat + 16777216 * (l.getD 4 0).toNat
def numN (l : List UInt8) : Nat → Nat
  | 0 => 0
  | j + 1 => numN l j * 256 + (l.getD (4 - j) 0).toNat
theorem numN_4 (l : List UInt8) : numN l 4 = hnum l := by
  show (((0 * 256 + (l.getD 4 0).toNat) * 256 + (l.getD 3 0).toNat) * 256 + (l.getD 2 0).toNat) * 256 + (l.getD 1 0).toNat = _
  unfold hnum
  omega
theorem u8_lt (x : UInt8) : x.toNat < 256 := x.toNat_lt
theorem numN_lt (l : List UInt8) (j : Nat) (hj : j ≤ 4) : numN l j ≤ 4294967296 := by
  have h0 := u8_lt (l.getD 4 0)
  have h1 := u8_lt (l.getD 3 0)
  have h2 := u8_lt (l.getD 2 0)
  have h3 := u8_lt (l.getD 1 0)
  have : j = 0 ∨ j = 1 ∨ j = 2 ∨ j = 3 ∨ j = 4 := by omega
  rcases this with rfl | rfl | rfl | rfl | rfl
  · exact Nat.zero_le _
  · show 0 * 256 + (l.getD 4 0).toNat ≤ _; omega
  · show (0 * 256 + (l.getD 4 0).toNat) * 256 + (l.getD 3 0).toNat ≤ _; omega
  · show ((0 * 256 + (l.getD 4 0).toNat) * 256 + (l.getD 3 0).toNat) * 256 + (l.getD 2 0).toNat ≤ _; omega
  · show (((0 * 256 + (l.getD 4 0).toNat) * 256 + (l.getD 3 0).toNat) * 256 + (l.getD 2 0).toNat) * 256 + (l.getD 1 0).toNat ≤ _; omega

/-- Open, once the header is there. -/
def open2 (s : DS) (f : Int) (l : List UInt8) : Option CS × Int :=
  if l.length < 5 then (none, 2) else if l.getD 0 0 ≠ 1 ∧ l.getD 0 0 ≠ 2 then (none, 2) else if 65536 < hnum l then (none, 2)
  else if (readT s f (offs (l.getD 0 0).toNat) (hnum l)).2 ≠ 0 then (none, (readT s f (offs (l.getD 0 0).toNat) (hnum l)).2)
  else if (readT s f (offs (l.getD 0 0).toNat) (hnum l)).1.size < hnum l then (none, 2)
  else (some ⟨(l.getD 0 0).toNat, (readT s f (offs (l.getD 0 0).toNat) (hnum l)).1, false⟩, 0)
def openS (s : DS) (f : Int) : Option CS × Int :=
  if (readT s f 0 5).2 ≠ 0 then (none, (readT s f 0 5).2) else if (readT s f 0 5).1 = ⟨#[]⟩ then (some c0S, 0) else if (bl (readT s f 0 5).1).getD 0 0 = 0 then (some c0S, 0)
  else open2 s f (bl (readT s f 0 5).1)
theorem readT_size (s : DS) (f a n : Int) : (readT s f a n).1.size ≤ n.toNat := by
  unfold readT
  split
  · exact Nat.zero_le _
  · split
    · exact Nat.zero_le _
    · split
      · exact Nat.zero_le _
      · show (ofL _).size ≤ _
        rw [ofL_size, List.length_take]
        omega

def nextK (st : CS) : Int := if st.slot = 1 then 2 else 1
def sure1 (s : DS) (st : CS) (f : Int) : DS × Int := if st.sure = false ∧ 0 < st.slot then syncT s f else (s, 0)
def st1 (st : CS) : CS := { st with sure := st.sure || decide (0 < st.slot) }
def headB (st : CS) (v : ByteArray) : ByteArray := ofL (headL (nextK st).toNat v.size)
def set3 (s : DS) (st : CS) (f : Int) (v : ByteArray) : (DS × CS) × Int :=
  if (writeT s f 0 (headB st v)).2 ≠ 0 then (((writeT s f 0 (headB st v)).1, st), (writeT s f 0 (headB st v)).2)
  else (((syncT (writeT s f 0 (headB st v)).1 f).1, ⟨nextK st, v, decide ((syncT (writeT s f 0 (headB st v)).1 f).2 = 0)⟩), (syncT (writeT s f 0 (headB st v)).1 f).2)
def set2 (s : DS) (st : CS) (f : Int) (v : ByteArray) : (DS × CS) × Int := if (syncT s f).2 ≠ 0 then (((syncT s f).1, st), (syncT s f).2) else set3 (syncT s f).1 st f v
def set1 (s : DS) (st : CS) (f : Int) (v : ByteArray) : (DS × CS) × Int := if (writeT s f (offs (nextK st)) v).2 ≠ 0 then (((writeT s f (offs (nextK st)) v).1, st), (writeT s f (offs (nextK st)) v).2) else set2 (writeT s f (offs (nextK st)) v).1 st f v
def setS (s : DS) (st : CS) (f : Int) (v : ByteArray) : (DS × CS) × Int :=
  if 65536 < v.size then ((s, st), 6) else if (sure1 s st f).2 ≠ 0 then (((sure1 s st f).1, st), (sure1 s st f).2) else set1 (sure1 s st f).1 (st1 st) f v
theorem keep_sure1 (s : DS) (st : CS) (f : Int) : (sure1 s st f).1.keep = s.keep := by unfold sure1; split; exact keep_syncT s f; rfl
theorem keep_set3 (s : DS) (st : CS) (f : Int) (v : ByteArray) : (set3 s st f v).1.1.keep = s.keep := by
  unfold set3
  split
  · exact keep_writeT _ _ _ _
  · show (syncT _ _).1.keep = _; rw [keep_syncT, keep_writeT]
theorem keep_set2 (s : DS) (st : CS) (f : Int) (v : ByteArray) : (set2 s st f v).1.1.keep = s.keep := by
  unfold set2
  split
  · exact keep_syncT _ _
  · rw [keep_set3, keep_syncT]
theorem keep_set1 (s : DS) (st : CS) (f : Int) (v : ByteArray) : (set1 s st f v).1.1.keep = s.keep := by
  unfold set1
  split
  · exact keep_writeT _ _ _ _
  · rw [keep_set2, keep_writeT]
theorem keep_setS (s : DS) (st : CS) (f : Int) (v : ByteArray) : (setS s st f v).1.1.keep = s.keep := by
  unfold setS
  split
  · rfl
  · split
    · exact keep_sure1 _ _ _
    · rw [keep_set1, keep_sure1]
theorem nextK_range (st : CS) : nextK st = 1 ∨ nextK st = 2 := by unfold nextK; split; exact .inr rfl; exact .inl rfl
def slotOk (st : CS) : Prop := st.slot = 0 ∨ st.slot = 1 ∨ st.slot = 2
theorem open_slot {s : DS} {f : Int} {st : CS} {e : Int} (h : openS s f = (some st, e)) : slotOk st := by
  unfold openS at h
  split at h
  · cases h
  split at h
  · cases h; exact .inl rfl
  split at h
  · cases h; exact .inl rfl
  unfold open2 at h
  split at h
  · cases h
  split at h
  · cases h
  rename_i hc
  split at h
  · cases h
  split at h
  · cases h
  split at h
  · cases h
  generalize (bl (readT s f 0 5).1).getD 0 0 = x at h hc
  cases h
  by_cases h1 : x = 1
  · subst h1; exact .inr (.inl rfl)
  · by_cases h2 : x = 2
    · subst h2; exact .inr (.inr rfl)
    · exact absurd ⟨h1, h2⟩ hc

theorem wrap_u8 (m : Nat) : IntKind.u8.wrap (m : Int) = ((UInt8.ofNat m).toNat : Int) := by
  have : (UInt8.ofNat m).toNat = m % 256 := by simp
  rw [this]
  simp [IntKind.wrap, IntKind.bits, IntKind.signed]
theorem or_byte (n b : Nat) (hn : n < 1099511627776) (hb : b < 256) : IntKind.wrap .i64 (BitVec.ofInt IntKind.i64.bits ((n * 256 : Nat) : Int) ||| BitVec.ofInt IntKind.i64.bits (b : Int)).toNat = ((n * 256 + b : Nat) : Int) := by
  have h1 : (n * 256) ||| b = n * 256 + b := by
    have := Nat.shiftLeft_add_eq_or_of_lt (i := 8) (b := b) (by omega) n
    rw [Nat.shiftLeft_eq] at this
    exact this.symm
  rw [BitVec.toNat_or, BitVec.ofInt_natCast, BitVec.ofInt_natCast, BitVec.toNat_ofNat, BitVec.toNat_ofNat]
  show IntKind.wrap .i64 (((n * 256 % 2 ^ 64) ||| (b % 2 ^ 64) : Nat) : Int) = _
  rw [Nat.mod_eq_of_lt (by omega), Nat.mod_eq_of_lt (by omega), h1]
  exact wrap_id (by omega) (by omega)

section
variable {P : Program} {Kp : Value → Prop} {s : ByteArray} {T : TypeId}
theorem str_idz {z : Int} (i : Nat) (hT : P.underlying T = some .string) (hi : i < s.size) (hz : z = i := by rfl) : pureK P (sIdx T (.string s) (.int .i64 z)) Kp = Kp (.int .u8 ((bl s).getD i 0).toNat) := by
  subst hz
  rw [str_idx hT hi]
  have : (bl s).getD i 0 = (bl s)[i]'(by rw [bl_length]; exact hi) := by
    rw [List.getD_eq_getElem?_getD, List.getElem?_eq_getElem (by rw [bl_length]; exact hi)]; rfl
  rw [this]
theorem u8_eqz {T : TypeId} {xo yo : Operand} {x : UInt8} (n : Nat) (hn : n < 256) : pureK P (sBin .eql T xo yo (.int .u8 x.toNat) (.int .u8 (n : Int))) Kp = Kp (.bool (decide (x = UInt8.ofNat n))) := by
  rw [bin_eql]
  congr 2
  refine decide_eq_decide.2 ⟨fun h => UInt8.toNat_inj.1 ?_, fun h => ?_⟩
  · have : (UInt8.ofNat n).toNat = n % 256 := by simp
    omega
  · rw [h]
    have : (UInt8.ofNat n).toNat = n % 256 := by simp
    omega
end

section
variable {B : Base} {w : World} {p : Nat} {s : DS} {kv : Value}
theorem header_g {k : Nat} {t : ByteArray} (hs : t.size ≤ 1000000) : Gives Tryd.prog B (sCall F_cell_header #[.int .i64 k, .string t]) (.string (ofL (headL k t.size))) := by
  refine Gives.intro fun B' w K base h fin => ?_
  refine cell_header.up (cell_header.call ?_)
  unfold cell_header.pt
  have hb := bl_length t
  rw [conv_int U_int U_uint8, wrap_u8]
  refine h.build1 (α := UInt8) (UInt8.ofNat k) sl_s_uint8 (by decide) fun v1 w1 h => ?_
  rw [str_len U_string, hb]
  refine LOOP_intro (fun x w' => ∃ (j : Nat) (v : Value), j ≤ 4 ∧ x = (v, .int .i64 ((t.size / 256 ^ j : Nat) : Int), ()) ∧ Rel B' w' [rowD T_uint8 v ((headL k t.size).take (j + 1))]) (fun x _ => 5 - (match x.1 with | .slice _ n _ => n | _ => 0))
    ⟨0, v1, by omega, by simp, h⟩ ?_
  clear h
  rintro x w2 ⟨j, v, hj, rfl, h⟩ next hnext
  have hl : ((headL k t.size).take (j + 1)).length = j + 1 := by rw [List.length_take]; show min (j + 1) 5 = j + 1; omega
  obtain ⟨g, cap, hv⟩ := h.open_ (i := 0) rfl (by rw [hl]; omega)
  have hr := rowD.read (h.here (i := 0) rfl)
  simp -zeta only [rowR.len hr sl_s_uint8, bin_lss, ifB_dec]
  rw [hl]
  refine ⟨fun hlt => ?_, fun hge => ?_⟩
  · rw [conv_int U_int U_uint8, wrap_u8]
    refine h.push1 (α := UInt8) 0 rfl (UInt8.ofNat (t.size / 256 ^ j)) sl_s_uint8 (by decide) (by rw [hl]; omega) (by rw [hl]; omega) fun v2 w3 h => ?_
    have e : (headL k t.size).take (j + 1) ++ [UInt8.ofNat (t.size / 256 ^ j)] = (headL k t.size).take (j + 2) := by
      have : j = 0 ∨ j = 1 ∨ j = 2 ∨ j = 3 := by omega
      rcases this with rfl | rfl | rfl | rfl <;> simp [headL]
    have h : Rel B' w3 [rowD T_uint8 v2 ((headL k t.size).take (j + 1) ++ [UInt8.ofNat (t.size / 256 ^ j)])] := h
    rw [e] at h
    rw [bin_shr (by decide)]
    have e2 : (((t.size / 256 ^ j : Nat) : Int).fdiv (2 ^ min (8 : Int).toNat IntKind.i64.bits)) = ((t.size / 256 ^ (j + 1) : Nat) : Int) := by
      show (((t.size / 256 ^ j : Nat) : Int).fdiv 256) = _
      rw [Int.fdiv_eq_ediv_of_nonneg _ (by omega), Nat.pow_succ, ← Nat.div_div_eq_div_mul]
      omega
    rw [e2]
    have hl2 : ((headL k t.size).take (j + 2)).length = j + 2 := by rw [List.length_take]; show min (j + 2) 5 = j + 2; omega
    obtain ⟨g2, cap2, hv2⟩ := h.open_ (i := 0) rfl (by rw [hl2]; omega)
    refine hnext _ _ ⟨j + 1, v2, by omega, rfl, h⟩ ?_
    rw [hv, hv2]
    simp only
    omega
  · have hj4 : j = 4 := by omega
    subst hj4
    exact upK_of (conv_row (rowD.read (h.here (i := 0) rfl)) U_s_uint8 U_uint8 U_string) (fin _ _ h)

abbrev ccs (p : Nat) (f : Int) (st : CS) : Array Value := #[ptr p, .int .i64 f, .int .i64 st.slot, .string st.value, .bool st.sure]
def offD : Dat := cellsR 0 0 [.int .i64 0, .int .i64 64, .int .i64 131072]
theorem off_1 {Kp : Value → Prop} : pureK Tryd.prog (sIdxAddr T_3_int (.pointer (some ⟨0, 0, none⟩)) (.int .i64 1)) Kp = Kp (.pointer (some ⟨0, 1, none⟩)) := pureK_eq fun w => by kernel_rfl
theorem off_2 {Kp : Value → Prop} : pureK Tryd.prog (sIdxAddr T_3_int (.pointer (some ⟨0, 0, none⟩)) (.int .i64 2)) Kp = Kp (.pointer (some ⟨0, 2, none⟩)) := pureK_eq fun w => by kernel_rfl
theorem off_ld {σ : List Dat} (hT : offD B) (h : Rel B w σ) {k : Int} (hk : k = 1 ∨ k = 2) {Kp : Value → Prop} :
    pureK Tryd.prog (sIdxAddr T_3_int (.pointer (some ⟨0, 0, none⟩)) (.int .i64 k)) (fun t => readK Tryd.prog (sLoad T_int t) w Kp) = Kp (.int .i64 (offs k)) := by
  have hT : cellsR 0 0 [.int .i64 0, .int .i64 64, .int .i64 131072] B := hT
  rcases hk with rfl | rfl
  · rw [off_1]
    exact cellsR.ld (h.hereB hT) sc_int (j := 1) rfl
  · rw [off_2]
    exact cellsR.ld (h.hereB hT) sc_int (j := 2) rfl

theorem Get_g {c : Nat} {f : Int} {st : CS} (hc : cellD c T_cell_Cell (ccs p f st) B) : Gives Tryd.prog B (sCall F_cell_Cell_Get #[ptr c]) (.tuple #[.string st.value, .bool (decide (0 < st.slot))]) := by
  refine Gives.intro fun B' w K base h k => ?_
  replace hc := base hc
  refine cell_Cell_Get.up (cell_Cell_Get.call ?_)
  unfold cell_Cell_Get.pt
  have h := h.tick
  simp -zeta only [nil_ptr, field_addr f_cell_Cell_3, field_addr f_cell_Cell_2, Nat.zero_add, cellD.ld (h.hereB hc) sc_string (o := 3) rfl, cellD.ld (h.hereB hc) sc_int (o := 2) rfl, bin_gtr]
  exact k _ _ h

theorem open_m (hT : offD B) (hd : diskD p s kv B) (f : Int) : Makes Tryd.prog B (sCall F_cell_Open #[ptr p, .int .i64 f])
    fun v τ => (∃ c st, openS s f = (some st, 0) ∧ v = .tuple #[ptr c, .int .i64 0] ∧ τ = [cellD c T_cell_Cell (ccs p f st)]) ∨ ((openS s f).1 = none ∧ v = .tuple #[.pointer none, .int .i64 (openS s f).2] ∧ τ = []) := by
  refine Makes.intro fun B' w K base h k => ?_
  replace hT := base hT
  replace hd := base hd
  refine cell_Open.up (cell_Open.call ?_)
  unfold cell_Open.pt
  have no : ∀ w' σ e, Rel B' w' σ → openS s f = (none, e) → K (.tuple #[.pointer none, .int .i64 e]) w' := fun w' σ e h he => k _ _ _ (.inr ⟨by rw [he], by rw [he], rfl⟩) h.nil
  have yes : ∀ w' c st, Rel B' w' [cellD c T_cell_Cell (ccs p f st)] → openS s f = (some st, 0) → K (.tuple #[ptr c, .int .i64 0]) w' := fun w' c st h he => k _ _ _ (.inl ⟨c, st, he, rfl, rfl⟩) h
  clear k
  rw [bd_cell_Cell_0_1]
  refine h.box fun c w1 h => ?_
  have h : Rel B' w1 [cellD c T_cell_Cell (ccs p f c0S)] := h
  refine h.ask (fun B2 own base2 => Read_g (base2 hd) f 0 5) fun w2 h => ?_
  unfold openS at no yes
  have hsz := readT_size s f 0 5
  generalize hR : readT s f 0 5 = R at no yes hsz
  obtain ⟨hd0, e0⟩ := R
  have hsz : hd0.size ≤ 5 := hsz
  dsimp only at no yes
  simp -zeta only [ext_2_0, ext_2_1, bin_neq, ifB_not, ifB_dec]
  refine ⟨fun z => ?_, fun z => no _ _ _ h (by rw [if_pos z])⟩
  have z : e0 = 0 := z
  subst z
  rw [if_neg (fun hh => hh rfl)] at no yes
  rw [eql_str, ifB_dec]
  refine ⟨fun e1 => yes _ _ _ h (by rw [if_pos e1]), fun e1 => ?_⟩
  rw [if_neg e1] at no yes
  have hpos := size_pos e1
  have hbl := bl_length hd0
  simp -zeta only [str_idz (z := 0) 0 U_string hpos]
  rw [show ((.int .u8 0 : Value)) = .int .u8 ((0 : Nat) : Int) from rfl, u8_eqz 0 (by decide), show UInt8.ofNat 0 = 0 from rfl, ifB_dec]
  refine ⟨fun e2 => yes _ _ _ h (by rw [if_pos e2]), fun e2 => ?_⟩
  rw [if_neg e2] at no yes
  unfold open2 at no yes
  refine LETJ_intro fun J hJ => ?_
  replace hJ : (bl hd0).length = 5 → ((bl hd0).getD 0 0 = 1 ∨ (bl hd0).getD 0 0 = 2) → J () w2 := by
    intro hl hk
    refine hJ _ _ ?_
    clear hJ
    rw [if_neg (by omega), if_neg (by rintro ⟨a, b⟩; rcases hk with hk | hk; exact a hk; exact b hk)] at no yes
    refine LOOP_intro (fun x w' => ∃ j : Nat, j ≤ 4 ∧ x = (.int .i64 (numN (bl hd0) j), .int .i64 ((4 - j : Nat) : Int), ()) ∧ Rel B' w' [cellD c T_cell_Cell (ccs p f c0S)]) (fun x _ => (match x.2.1 with | .int _ n => n.toNat | _ => 0))
      ⟨0, by omega, rfl, h⟩ ?_
    clear h
    rintro x w3 ⟨j, hj, rfl, h⟩ next hnext
    have hlt := numN_lt (bl hd0) j hj
    simp -zeta only [bin_gtr, ifB_dec]
    refine ⟨fun hg => ?_, fun hg => ?_⟩
    · have hb := u8_lt ((bl hd0).getD (4 - j) 0)
      have hw : IntKind.i64.wrap ((numN (bl hd0) j : Int) * 2 ^ min (8 : Int).toNat IntKind.i64.bits) = ((numN (bl hd0) j * 256 : Nat) : Int) := by
        show IntKind.i64.wrap ((numN (bl hd0) j : Int) * 256) = _
        rw [wrap_id (by omega) (by omega)]
        omega
      rw [bin_shl (by decide), hw, str_idz (4 - j) U_string (by omega), conv_int U_uint8 U_int, wrap_id (by omega) (by omega), bin_or, or_byte _ _ (by omega) hb, bin_sub, wrap_id (by omega) (by omega)]
      exact hnext _ _ ⟨j + 1, by omega, by rw [show ((4 - j : Nat) : Int) - 1 = ((4 - (j + 1) : Nat) : Int) by omega]; rfl, h⟩ (by simp only; omega)
    · have hj4 : j = 4 := by omega
      subst hj4
      rw [numN_4] at hlt ⊢
      clear hnext hg
      generalize hn : hnum (bl hd0) = n at hlt no yes
      refine ⟨fun e3 => no _ _ _ h (by rw [if_pos (by omega)]), fun e3 => ?_⟩
      rw [if_neg (by omega)] at no yes
      have hk0 : (((bl hd0).getD 0 0).toNat : Int) = 1 ∨ (((bl hd0).getD 0 0).toNat : Int) = 2 := by
        rcases hk with hk | hk
        · rw [hk]; exact .inl rfl
        · rw [hk]; exact .inr rfl
      rw [conv_int U_uint8 U_int]
      generalize (((bl hd0).getD 0 0).toNat : Int) = x at hk0 no yes
      rw [wrap_id (by omega) (by omega)]
      simp -zeta only [nil_ptr, field_addr f_cell_Cell_2, field_addr f_cell_Cell_3, Nat.zero_add]
      refine h.st 0 rfl sc_int (show 2 < 5 by omega) rfl fun w4 h => ?_
      simp -zeta only [h.ld 0 rfl sc_int (o := 2) rfl]
      rw [off_ld hT h hk0]
      refine h.ask (fun B2 own base2 => Read_g (base2 hd) f (offs x) (n : Int)) fun w5 h => ?_
      have hsz2 := readT_size s f (offs x) (n : Int)
      generalize readT s f (offs x) (n : Int) = R2 at no yes hsz2
      obtain ⟨t, e4⟩ := R2
      dsimp only at no yes
      simp -zeta only [ext_2_0, ext_2_1]
      refine h.st 0 rfl sc_string (show 3 < 5 by omega) rfl fun w6 h => ?_
      have hbt := bl_length t
      refine LETJ_intro fun J2 hJ2 => ?_
      simp -zeta only [bin_eql, ifB_dec, h.ld 0 rfl sc_string (o := 3) rfl, str_len U_string, bin_lss]
      refine ⟨fun e5 => ⟨fun e6 => hJ2 _ _ ?_, fun e6 => hJ2 _ _ ?_⟩, fun e5 => hJ2 _ _ ?_⟩
      · have e5 : e4 = 0 := e5
        subst e5
        rw [if_neg (fun hh => hh rfl), if_pos (by show t.size < n; omega)] at no
        rw [bin_neq, decide_eq_false (by decide), Bool.not_false, ifB_true]
        exact no _ _ _ h rfl
      · have e5 : e4 = 0 := e5
        subst e5
        rw [if_neg (fun hh => hh rfl), if_neg (by show ¬ t.size < n; omega)] at yes
        rw [bin_neq, decide_eq_true rfl, Bool.not_true, ifB_false]
        exact yes _ c ⟨x, t, false⟩ h rfl
      · have e5 : ¬ e4 = 0 := e5
        rw [if_pos e5] at no
        rw [bin_neq, decide_eq_false e5, Bool.not_false, ifB_true]
        exact no _ _ _ h rfl
  simp -zeta only [str_len U_string, bin_lss, ifB_dec, str_idz (z := 0) 0 U_string hpos]
  refine ⟨fun e3 => no _ _ _ h (by rw [if_pos (by omega)]), fun e3 => ?_⟩
  have h5 : (bl hd0).length = 5 := by omega
  rw [if_neg (by omega)] at no
  have n1 : ∀ {Kp : Value → Prop} {a b : Operand}, pureK Tryd.prog (sBin .neq T_uint8 a b (.int .u8 ((bl hd0).getD 0 0).toNat) (.int .u8 1)) Kp = Kp (.bool (!decide ((bl hd0).getD 0 0 = 1))) := by
    intro Kp a b
    rw [bin_neq]
    congr 3
    exact decide_eq_decide.2 ⟨fun h => UInt8.toNat_inj.1 (by have : (1 : UInt8).toNat = 1 := rfl; omega), fun h => by rw [h]; rfl⟩
  have n2 : ∀ {Kp : Value → Prop} {a b : Operand}, pureK Tryd.prog (sBin .neq T_uint8 a b (.int .u8 ((bl hd0).getD 0 0).toNat) (.int .u8 2)) Kp = Kp (.bool (!decide ((bl hd0).getD 0 0 = 2))) := by
    intro Kp a b
    rw [bin_neq]
    congr 3
    exact decide_eq_decide.2 ⟨fun h => UInt8.toNat_inj.1 (by have : (2 : UInt8).toNat = 2 := rfl; omega), fun h => by rw [h]; rfl⟩
  rw [n1, ifB_not, ifB_dec]
  refine ⟨fun k1 => hJ h5 (.inl k1), fun k1 => ?_⟩
  rw [n2, ifB_not, ifB_dec]
  exact ⟨fun k2 => hJ h5 (.inr k2), fun k2 => no _ _ _ h (by rw [if_pos ⟨k1, k2⟩])⟩
end
end Go.Proofs.YtmkigdkhpdeaeaaDoor
