/-
  strconv.Itoa, strconv.Atoi, strings.IndexByte, strings.CutPrefix, strings.Builder as calls over what one owns. No condition.
-/
import Derived.Test.YtoebncgnjbblgaaGreatDoorWireP
import Derived.Test.YtoebncgnjbblgaaGreatDoorWire0
import Derived.Test.YtoebncgnjbblgaaGreatDoorTypes
import Derived.Test.YtoebncgnjbblgaaGreatDoorPt0
import Derived.Test.YtoebncgnjbblgaaGreatDoorPt1
import Derived.Test.YtoebncgnjbblgaaGreatDoorPt2
import Derived.WideLaws
import Derived.Lib.LaidTab
--@auto
namespace Go.Proofs.YtoebncgnjbblgaaGreatDoor
open Go.RowKit Go.Shelf
set_option maxRecDepth 100000

/-! ### What the base has to hold -/
/-- A package-level variable: its cells. -/
def varD (g : Nat) (cs : List Value) : Dat := ⟨fun B => B.keep g ∧ ∃ E fz, B.W.heap[g]? = some (.cells cs.toArray E fz), fun {B B'} hl ⟨h1, E, fz, h2⟩ => by
  obtain ⟨h3, h4⟩ := hl g h1 (Array.getElem?_eq_some_iff.1 h2).1
  exact ⟨h3, E, fz, h4.trans h2⟩⟩
theorem gPow_eq : Tryz.prog.globalNamed "internal/strconv.uint64pow10" = some G_internal_strconv_uint64pow10 := by kernel_rfl
def powD : Dat := varD G_internal_strconv_uint64pow10 (Lib.pow10Tab.map (Value.int .u64))
def wireD : Dat := powD.and ((Dat.ex fun e : TypeId × Value => varD G_strconv_ErrSyntax [.iface e.1 e.2]).and (Dat.ex fun e : TypeId × Value => varD G_strconv_ErrRange [.iface e.1 e.2]))

/-! ### The shelf's contracts, at this program's numbers -/
set_option maxRecDepth 100000 in
theorem sItoa {n : Int} (h0 : -9223372036854775808 ≤ n) (h1 : n ≤ 9223372036854775807) (w : World) (htab : Lib.TabIs Tryz.prog w "internal/strconv.uint64pow10" .u64 Lib.pow10Tab) :
    Calls Tryz.prog F_strconv_Itoa #[.int .i64 n] w fun e w' => e = .returned (.string ⟨(Lib.itoa n).toArray⟩) ∧ ∃ k os, w' = Go.Sort.grow (w.drewN k) os := Any.strconv_Itoa Tryz.laysItoa n h0 h1 w htab
set_option maxRecDepth 100000 in
theorem sAtoiOk (s : ByteArray) (hmax : s.size ≤ 9223372036854775806) (v : Int) (h : Lib.atoiAll s.data.toList = .ok v) (w : World) :
    Calls Tryz.prog F_strconv_Atoi #[.string s] w fun e w' => e = .returned (.tuple #[.int .i64 v, .nilIface]) ∧ (w' = w ∨ ∃ t, w' = Lib.bytesWorld w T_uint8 t) := Any.strconv_Atoi_ok Tryz.laysAtoi s hmax v h w
set_option maxRecDepth 100000 in
theorem sAtoiSyn (s : ByteArray) (hlim : s.size ≤ 281474976710656) (h0 : ∀ v, Lib.atoiAll s.data.toList ≠ .ok v) (h1 : Lib.atoiAll s.data.toList ≠ .range) (ev : Value) (w : World) (hv : w.cell? ⟨G_strconv_ErrSyntax, 0, none⟩ = some ev) (hev : ev = .nilIface ∨ ∃ te pe, ev = .iface te pe) :
    Calls Tryz.prog F_strconv_Atoi #[.string s] w fun e w' => ∃ n t p, e = .returned (.tuple #[.int .i64 n, .iface t p]) ∧ Below w.heap.size w w' := by
  have h := Any.strconv_Atoi_syntax Tryz.laysAtoi s hlim (by rcases e : Lib.atoiAll s.data.toList with v | _ | _ <;> first | rfl | exact absurd e h1 | exact absurd e (h0 _)) ev w hv hev
  refine Calls.mono (f := F_strconv_Atoi) h ?_
  rintro e w' ⟨N, rfl, _, _, hb⟩
  exact ⟨_, _, _, rfl, hb⟩
set_option maxRecDepth 100000 in
theorem sAtoiRng (s : ByteArray) (hlim : s.size ≤ 281474976710656) (h : Lib.atoiAll s.data.toList = .range) (ev : Value) (w : World) (hv : w.cell? ⟨G_strconv_ErrRange, 0, none⟩ = some ev) (hev : ev = .nilIface ∨ ∃ te pe, ev = .iface te pe) :
    Calls Tryz.prog F_strconv_Atoi #[.string s] w fun e w' => ∃ n t p, e = .returned (.tuple #[.int .i64 n, .iface t p]) ∧ Below w.heap.size w w' := by
  have h := Any.strconv_Atoi_range Tryz.laysAtoi s hlim h ev w hv hev
  refine Calls.mono (f := F_strconv_Atoi) h ?_
  rintro e w' ⟨N, rfl, _, _, hb⟩
  exact ⟨_, _, _, rfl, hb⟩
set_option maxRecDepth 100000 in
theorem sIndex (s : ByteArray) (c : Int) (w : World) :
    Calls Tryz.prog F_strings_IndexByte #[.string s, .int .u8 c] w fun e w' => e = .returned (.int .i64 (Lib.indexByte s.data.toList c.toNat.toUInt8)) ∧ w' = w := Any.strings_IndexByte Tryz.laysIndex s c w
set_option maxRecDepth 100000 in
theorem sCut (s p : ByteArray) (w : World) :
    Calls Tryz.prog F_strings_CutPrefix #[.string s, .string p] w fun e w' => e = .returned (.tuple #[.string ⟨(Lib.trimPrefix s.data.toList p.data.toList).toArray⟩, .bool (Lib.hasPrefix s.data.toList p.data.toList)]) ∧ w' = w := Any.strings_CutPrefix Tryz.laysCut s p w

section
variable {B : Base} {w w' : World} {σ : List Dat}
/-- What was there stays; there may be more. -/
theorem Rel.below (h : Rel B w σ) (hb : Below w.heap.size w w') : Rel B w' σ := by
  obtain ⟨c, h⟩ := h
  refine ⟨paint c w.heap.size 0, hb.os.trans h.os, hb.tape.trans h.tape, hb.output.trans h.output, Nat.le_trans h.size hb.size, fun k hk hs => ?_, fun k hk hs => ?_, fun j d hj => ?_⟩
  · have := Nat.lt_of_lt_of_le hs h.size
    rw [paint, if_pos this]; exact h.keepc k hk hs
  · have := Nat.lt_of_lt_of_le hs h.size
    rw [hb.block k this]; exact h.same k hk hs
  · refine d.mono (fun k hk hs => ?_) (h.own j d hj)
    have hk : c k = j + 1 := hk
    have hs : k < w.heap.size := hs
    exact ⟨by show paint c w.heap.size 0 k = j + 1; rw [paint, if_pos hs]; exact hk, hb.block k hs⟩
theorem below_grow (w : World) (k : Nat) (os : Array Obj) : Below w.heap.size w (Go.Sort.grow (w.drewN k) os) := by
  refine ⟨rfl, rfl, rfl, ?_, fun j hj => ?_⟩
  · rw [Go.Sort.size_grow]
    exact Nat.le_add_right _ _
  · exact Go.Sort.heap_grow_old _ _ hj
theorem varD.cell {g : Nat} {cs : List Value} {v : Value} (h : (varD g cs).here w) (hv : cs[0]? = some v) : w.cell? ⟨g, 0, none⟩ = some v := by
  obtain ⟨_, E, fz, h2⟩ := h
  have h2 : w.heap[g]? = some (.cells cs.toArray E fz) := h2
  simp only [World.cell?, h2]
  simpa using hv
theorem powD.pow (h : powD.here w) : Lib.TabIs Tryz.prog w "internal/strconv.uint64pow10" .u64 Lib.pow10Tab := by
  obtain ⟨_, E, fz, h2⟩ := h
  have h2 : w.heap[G_internal_strconv_uint64pow10]? = some (.cells (Lib.pow10Tab.map (Value.int .u64)).toArray E fz) := h2
  unfold Lib.TabIs World.var?
  rw [gPow_eq]
  simp only [Option.bind_some, h2]
theorem wireD.syn (h : wireD.here w) : ∃ t p, w.cell? ⟨G_strconv_ErrSyntax, 0, none⟩ = some (.iface t p) := by
  obtain ⟨_, ⟨e, h2⟩, _⟩ := h
  exact ⟨e.1, e.2, varD.cell h2 rfl⟩
theorem wireD.rng (h : wireD.here w) : ∃ t p, w.cell? ⟨G_strconv_ErrRange, 0, none⟩ = some (.iface t p) := by
  obtain ⟨_, _, ⟨e, h2⟩⟩ := h
  exact ⟨e.1, e.2, varD.cell h2 rfl⟩

/-! ### Numerals -/
instance wireD.coe {B : Base} : Coe (wireD B) (powD B) := ⟨fun h => h.1⟩
theorem itoa_g (hB : powD B) {n : Int} (hn : inI n) : Gives Tryz.prog B (sCall F_strconv_Itoa #[.int .i64 n]) (.string (ofL (Lib.itoa n))) := by
  refine Gives.intro fun B' w K base h k => ?_
  have hw := h.hereB (base hB)
  refine strconv_Itoa.up (Calls.mono (sItoa hn.1 hn.2 w (powD.pow hw)) ?_)
  rintro e w' ⟨rfl, m, os, rfl⟩
  exact k _ _ (h.below (below_grow w m os))
/-- What Atoi answers: the number and no error, or an error. -/
def AtoiV (s : Bs) (v : Value) : Prop := (∃ n, Lib.atoiAll s = .ok n ∧ v = .tuple #[.int .i64 n, .nilIface]) ∨ ((∀ n, Lib.atoiAll s ≠ .ok n) ∧ ∃ n t p, v = .tuple #[.int .i64 n, .iface t p])
theorem atoi_r {K : Value → World → Prop} (hB : wireD B) (h : Rel B w σ) {s : ByteArray} (hs : s.size ≤ 281474976710656) (k : ∀ v w', AtoiV (bl s) v → Rel B w' σ → K v w') : upK Tryz.prog (sCall F_strconv_Atoi #[.string s]) w K := by
  have hw := h.hereB hB
  rcases ha : Lib.atoiAll s.data.toList with n | _ | _
  · skip
    refine strconv_Atoi.up (Calls.mono (sAtoiOk s (by omega) n ha w) ?_)
    rintro e w' ⟨rfl, hw'⟩
    refine k _ _ (.inl ⟨n, ha, rfl⟩) ?_
    rcases hw' with rfl | ⟨t, rfl⟩
    · exact h
    · exact h.below (Lib.bytesWorld_below _ _ _)
  · skip
    obtain ⟨t, p, hc⟩ := wireD.syn hw
    refine strconv_Atoi.up (Calls.mono (sAtoiSyn s hs (fun v hv => by rw [ha] at hv; cases hv) (fun hv => by rw [ha] at hv; cases hv) _ w hc (.inr ⟨t, p, rfl⟩)) ?_)
    rintro e w' ⟨n, t, p, rfl, hb⟩
    exact k _ _ (.inr ⟨fun n hn => (by rw [show Lib.atoiAll (bl s) = _ from ha] at hn; cases hn), _, _, _, rfl⟩) (h.below hb)
  · skip
    obtain ⟨t, p, hc⟩ := wireD.rng hw
    refine strconv_Atoi.up (Calls.mono (sAtoiRng s hs ha _ w hc (.inr ⟨t, p, rfl⟩)) ?_)
    rintro e w' ⟨n, t, p, rfl, hb⟩
    exact k _ _ (.inr ⟨fun n hn => (by rw [show Lib.atoiAll (bl s) = _ from ha] at hn; cases hn), _, _, _, rfl⟩) (h.below hb)
theorem index_g (s : ByteArray) (c : Int) : Gives Tryz.prog B (sCall F_strings_IndexByte #[.string s, .int .u8 c]) (.int .i64 (Lib.indexByte (bl s) c.toNat.toUInt8)) := by
  refine Gives.intro fun B' w K base h k => ?_
  refine strings_IndexByte.up (Calls.mono (sIndex s c w) ?_)
  rintro e w' ⟨rfl, rfl⟩
  exact k _ _ h
theorem cut_g (s p : ByteArray) : Gives Tryz.prog B (sCall F_strings_CutPrefix #[.string s, .string p]) (.tuple #[.string (ofL (Lib.trimPrefix (bl s) (bl p))), .bool (Lib.hasPrefix (bl s) (bl p))]) := by
  refine Gives.intro fun B' w K base h k => ?_
  refine strings_CutPrefix.up (Calls.mono (sCut s p w) ?_)
  rintro e w' ⟨rfl, rfl⟩
  exact k _ _ h
theorem index_first {e : UInt8} : ∀ {a : Bs} (r : Bs), e ∉ a → Lib.indexByte (a ++ e :: r) e = a.length
  | [], r, _ => by simp [Lib.indexByte]
  | x :: a, r, h => by
    have hx : ¬ x = e := fun hh => h (by rw [hh]; exact List.mem_cons_self)
    have ih := index_first (a := a) r fun hh => h (List.mem_cons_of_mem _ hh)
    rw [List.cons_append, Lib.indexByte, ih]
    simp only [beq_iff_eq, hx, if_false]
    rw [if_neg (by omega), List.length_cons]
    omega
theorem index_none {e : UInt8} : ∀ {a : Bs}, e ∉ a → Lib.indexByte a e = -1
  | [], _ => rfl
  | x :: a, h => by
    have hx : ¬ x = e := fun hh => h (by rw [hh]; exact List.mem_cons_self)
    have ih := index_none (a := a) fun hh => h (List.mem_cons_of_mem _ hh)
    rw [Lib.indexByte, ih]
    simp [hx]
theorem first_split {e : UInt8} : ∀ {l : Bs}, e ∈ l → ∃ a r, l = a ++ e :: r ∧ e ∉ a
  | x :: l, h => by
    by_cases hx : x = e
    · subst hx; exact ⟨[], l, rfl, by simp⟩
    · rcases List.mem_cons.1 h with h | h
      · exact absurd h.symm hx
      · obtain ⟨a, r, rfl, ha⟩ := first_split h
        refine ⟨x :: a, r, rfl, fun hh => ?_⟩
        rcases List.mem_cons.1 hh with hh | hh
        · exact hx hh.symm
        · exact ha hh

/-! ### Interface values and nil -/
theorem neq_iface_nil {T u : TypeId} {x : Value} {xo yo : Operand} {Kp : Value → Prop} (hT : Tryz.prog.underlying T = some (.interface (Tryz.prog.methodsAt T))) : pureK Tryz.prog (sBin .neq T xo yo (.iface u x) .nilIface) Kp = Kp (.bool true) :=
  pureK_eq fun w => sBin_eq rfl (run_neq_held_nil w T u x hT)
theorem neq_nil_nil {T : TypeId} {xo : Operand} {v : Value} {Kp : Value → Prop} (hT : Tryz.prog.underlying T = some (.interface (Tryz.prog.methodsAt T))) : pureK Tryz.prog (sBin .neq T xo (.const v) .nilIface .nilIface) Kp = Kp (.bool false) :=
  pureK_eq fun w => sBin_eq (by unfold eqGuard; cases xo <;> rfl) (run_neq_nil_nil w T hT)

/-! ### strings.Builder -/
theorem zero_run {P : Program} {T : TypeId} {v : Value} (h : (P.info? T).bind (·.zero) = some v) (w : World) : (zeroValue T).run P w = .ok v w := by
  cases hi : P.info? T with
  | none => rw [hi] at h; cases h
  | some i =>
    rw [hi] at h
    have h : i.zero = some v := h
    simp [zeroValue, typeInfo, hi, h]
theorem exS : Builder.Extra Tryz.prog Tryz.laysString_ren where
  sizeBuilder := by kernel_rfl
  liesBuilder := by kernel_rfl
  t5 := (by kernel_rfl : Tryz.prog.underlying T_uint8 = some (.int .u8))
  a5 := fun w => isAgg_sc (by kernel_rfl : scB Tryz.prog T_uint8 = true)
  z5 := fun w => size_sc (by kernel_rfl : scB Tryz.prog T_uint8 = true)
  v5 := fun w => zero_run (by kernel_rfl : (Tryz.prog.info? T_uint8).bind (·.zero) = some (.int .u8 0)) w
  infoByte := by kernel_rfl
  cellsByte := by kernel_rfl
  sizeByte := by kernel_rfl
  neB5 := by decide
/-- A builder at b that holds the bytes l; it and its buffer lie from lo on. -/
def bldD (lo b : Nat) (l : Bs) : Dat := ⟨fun B => B.keep b ∧ lo ≤ b ∧ ∃ p v, (p = .pointer none ∨ p = .pointer (some ⟨b, 0, none⟩)) ∧ B.W.heap[b]? = some (.cells #[p, v] T_strings_Builder (0, 0)) ∧
    ((v = .slice none 0 0 ∧ l = []) ∨ ∃ g cap cur fz, v = .slice (some ⟨g, 0, none⟩) l.length cap ∧ lo ≤ g ∧ g ≠ b ∧ B.keep g ∧ B.W.heap[g]? = some (.cells cur T_uint8 fz) ∧ fz.2 ≤ l.length ∧ l.length ≤ cap ∧ cap ≤ maxLen ∧ cur.size = cap ∧ cur.toList.take l.length = Lib.byteCells l),
  fun {B B'} hl ⟨h1, h2, p, v, h3, h4, h5⟩ => by
    obtain ⟨h6, h7⟩ := hl b h1 (Array.getElem?_eq_some_iff.1 h4).1
    refine ⟨h6, h2, p, v, h3, h7.trans h4, ?_⟩
    rcases h5 with h5 | ⟨g, cap, cur, fz, e1, e2, e3, e4, e5, e6⟩
    · exact .inl h5
    · obtain ⟨h8, h9⟩ := hl g e4 (Array.getElem?_eq_some_iff.1 e5).1
      exact .inr ⟨g, cap, cur, fz, e1, e2, e3, h8, h9.trans e5, e6⟩⟩
theorem byteCells_len (l : Bs) : (Lib.byteCells l).length = l.length := Lib.byteCells_length l
theorem bldD.is {lo b : Nat} {l : Bs} (h : (bldD lo b l).here w) : Lib.IsBuilderF T_strings_Builder T_uint8 lo b (Lib.byteCells l) w := by
  obtain ⟨_, h2, p, v, h3, h4, h5⟩ := h
  have h4 : w.heap[b]? = some (.cells #[p, v] T_strings_Builder (0, 0)) := h4
  have key : Lib.BuilderAtF T_strings_Builder T_uint8 lo b p (Lib.byteCells l) w := by
    refine ⟨h2, v, h4, ⟨by rw [Nat.mul_one], ?_⟩, ?_⟩
    · rw [byteCells_len]
      rcases h5 with ⟨e1, e2⟩ | ⟨g, cap, cur, fz, e1, e2, e3, e4, e5, e6, e7, e8, e9, e10⟩
      · exact .inl ⟨e1, by rw [e2]; rfl⟩
      · exact .inr ⟨g, cap, cur, fz, e1, e2, e5, by rw [Nat.mul_one]; exact e6, e7, e8, by rw [Nat.mul_one]; exact e9, by rw [Nat.mul_one]; exact e10⟩
    · rcases h5 with ⟨e1, e2⟩ | ⟨g, cap, cur, fz, e1, e2, e3, e4, e5, e6, e7, e8, e9, e10⟩
      · rw [e1]; simp [Value.ownBlock]
      · rw [e1]; simp [Value.ownBlock, e3]
  rcases h3 with rfl | rfl
  · exact .inl key
  · exact .inr key
/-- Back from the shelf's words: all that lies from lo on is the builder's. -/
theorem bldD.of {lo b : Nat} {l : Bs} (h : Lib.IsBuilderF T_strings_Builder T_uint8 lo b (Lib.byteCells l) w) (hs : lo ≤ w.heap.size) : (bldD lo b l) ⟨w, fun k => (if k < lo then 0 else 1) = 1⟩ := by
  have key : ∀ p, (p = .pointer none ∨ p = .pointer (some ⟨b, 0, none⟩)) → Lib.BuilderAtF T_strings_Builder T_uint8 lo b p (Lib.byteCells l) w → (bldD lo b l) ⟨w, fun k => (if k < lo then 0 else 1) = 1⟩ := by
    rintro p hp ⟨h1, v, h2, ⟨_, h3⟩, h4⟩
    have kp : ∀ g, lo ≤ g → (if g < lo then (0 : Nat) else 1) = 1 := fun g hg => if_neg (by omega)
    refine ⟨kp b h1, h1, p, v, hp, h2, ?_⟩
    rw [byteCells_len] at h3
    rcases h3 with ⟨e1, e2⟩ | ⟨g, cap, cur, fz, e1, e2, e3, e4, e5, e6, e7, e8⟩
    · exact .inl ⟨e1, List.eq_nil_of_length_eq_zero e2⟩
    · refine .inr ⟨g, cap, cur, fz, e1, e2, fun hh => h4 ?_, kp g e2, e3, by omega, e5, e6, by omega, by rw [Nat.mul_one] at e8; exact e8⟩
      rw [e1, hh]; rfl
  rcases h with h | h
  · exact key _ (.inl rfl) h
  · exact key _ (.inr rfl) h
theorem Rel.bldStep {lo b : Nat} {l l' : Bs} (h : Rel B w [bldD lo b l]) (hlo : B.W.heap.size ≤ lo) (hs : lo ≤ w.heap.size) (hb : Below lo w w') (hn : Lib.IsBuilderF T_strings_Builder T_uint8 lo b (Lib.byteCells l') w') : Rel B w' [bldD lo b l'] := by
  obtain ⟨c, h⟩ := h
  refine ⟨fun k => if k < lo then 0 else 1, hb.os.trans h.os, hb.tape.trans h.tape, hb.output.trans h.output, Nat.le_trans h.size hb.size, fun k hk hs => if_pos (by omega), fun k hk hs => ?_, fun j d hj => ?_⟩
  · rw [hb.block k (by omega)]; exact h.same k hk hs
  · cases j with
    | zero =>
      cases hj
      exact bldD.of hn (Nat.le_trans hs hb.size)
    | succ j => simp at hj
theorem bytes_str (s : ByteArray) : Lib.strCells s = Lib.byteCells (bl s) := rfl
theorem Rel.bldLo {lo b : Nat} {l : Bs} (h : Rel B w [bldD lo b l]) : lo ≤ w.heap.size := by
  obtain ⟨_, h2, p, v, _, h4, _⟩ := h.here (i := 0) rfl
  have h4 : w.heap[b]? = some (.cells #[p, v] T_strings_Builder (0, 0)) := h4
  have := (Array.getElem?_eq_some_iff.1 h4).1
  omega
theorem eql_pnil_pnil {T : TypeId} {xo yo : Operand} {Kp : Value → Prop} (hT : Tryz.prog.underlying T = some (.pointer (Tryz.prog.pointee T))) : pureK Tryz.prog (sBin .eql T xo yo (.pointer none) (.pointer none)) Kp = Kp (.bool true) :=
  pureK_eq fun w => sBin_eq rfl (run_eql_pointer_nil w T none hT)
theorem neq_pnil_pnil {T : TypeId} {xo yo : Operand} {Kp : Value → Prop} (hT : Tryz.prog.underlying T = some (.pointer (Tryz.prog.pointee T))) : pureK Tryz.prog (sBin .neq T xo yo (.pointer none) (.pointer none)) Kp = Kp (.bool false) :=
  pureK_eq fun w => sBin_eq rfl (run_neq_pointer_nil w T none hT)
theorem noEscape_up {v : Value} {K : Value → World → Prop} (h : K v w) : upK Tryz.prog (sCall F_internal_abi_NoEscape #[v]) w K := by
  refine upK_of (v := v) (w' := w) ?_ h
  show (callFunc F_internal_abi_NoEscape #[v]).run Tryz.prog w = _
  rw [run_callFunc_extern (fn := fn_internal_abi_NoEscape) (by kernel_rfl) (by kernel_rfl) (by kernel_rfl) (by kernel_rfl) (e := Extern.AbiNoEscape.same) (by kernel_rfl)]
  rfl
theorem builder_info : ∃ j, Tryz.prog.info? T_strings_Builder = some j ∧ j.size = 2 := by
  have : (Tryz.prog.info? T_strings_Builder).map (·.size) = some 2 := by kernel_rfl
  obtain ⟨j, h1, h2⟩ := Option.map_eq_some_iff.1 this
  exact ⟨j, h1, h2⟩
theorem bCheck {lo b : Nat} {bs : List Value} {K : Value → World → Prop} (h : Lib.IsBuilderF T_strings_Builder T_uint8 lo b bs w) (k : ∀ w1, Lib.BuilderAtF T_strings_Builder T_uint8 lo b (.pointer (some ⟨b, 0, none⟩)) bs w1 → Below lo w w1 → K (.tuple #[]) w1) :
    upK Tryz.prog (sCall F_strings_Builder_copyCheck #[.pointer (some ⟨b, 0, none⟩)]) w K := by
  obtain ⟨j, hj, hjs⟩ := builder_info
  have hpt : Tryz.prog.underlying T_p_strings_Builder = some (.pointer T_strings_Builder) := by kernel_rfl
  have hup : Tryz.prog.underlying T_unsafe_Pointer = some .unsafePointer := by kernel_rfl
  refine strings_Builder_copyCheck.up (strings_Builder_copyCheck.call ?_)
  unfold strings_Builder_copyCheck.pt
  rcases h with h | h
  · simp -zeta only [nil_ptr, field_addr f_strings_Builder_0, Nat.add_zero, ld_sc sc_p_strings_Builder h.cell0, eql_pnil_pnil U_p_strings_Builder, ifB_true]
    refine upK_of (vN_run (Lib.run_to_unsafe (w := w) ⟨b, 0, none⟩ hpt hup hj (by rw [hjs]; decide) h.shape (Nat.zero_lt_succ 1))) ?_
    refine noEscape_up ?_
    refine upK_of (vN_run (Lib.run_from_unsafe (w := w) ⟨b, 0, none⟩ hup hpt hj h.shape (by kernel_rfl))) ?_
    obtain ⟨h1, v, h2, h3, h4⟩ := h
    refine st_sc (c := fun _ => 0) (t := 0) sc_p_strings_Builder (cs := #[.pointer none, v]) ⟨rfl, h2⟩ (by show 0 < 2; omega) rfl fun _ _ => ?_
    exact k _ (Lib.BuilderAtF.used ⟨h1, v, h2, h3, h4⟩ _) ((Below.refl lo w).setCell (p := ⟨b, 0, none⟩) h1 _)
  · have hne : ∀ {Kp : Value → Prop} {xo yo : Operand}, pureK Tryz.prog (sBin .neq T_p_strings_Builder xo yo (.pointer (some ⟨b, 0, none⟩)) (.pointer (some ⟨b, 0, none⟩))) Kp = Kp (.bool false) := fun {Kp xo yo} => pureK_eq fun w => sBin_eq rfl (Lib.run_neq_ptr_same w ⟨b, 0, none⟩ hpt hj)
    simp -zeta only [nil_ptr, field_addr f_strings_Builder_0, Nat.add_zero, ld_sc sc_p_strings_Builder h.cell0, bin_eql_ptr_nil U_p_strings_Builder, ifB_false, hne]
    exact k _ h (Below.refl lo w)
theorem bWrite {lo b : Nat} {bs : List Value} {s : ByteArray} {K : Value → World → Prop} (h : Lib.IsBuilderF T_strings_Builder T_uint8 lo b bs w) (hlen : bs.length + s.size ≤ 140737488355328) (hlo : lo ≤ w.heap.size)
    (k : ∀ v w', Lib.BuilderAtF T_strings_Builder T_uint8 lo b (.pointer (some ⟨b, 0, none⟩)) (bs ++ Lib.strCells s) w' → Below lo w w' → K v w') : upK Tryz.prog (sCall F_strings_Builder_WriteString #[.pointer (some ⟨b, 0, none⟩), .string s]) w K := by
  obtain ⟨i0, hi, hz0, hz1, hz2⟩ := info_parts (show (Tryz.prog.info? T_uint8).map (fun i => (i.zero, i.size, i.bytes)) = some (some (.int .u8 0), 1, 1) by kernel_rfl)
  refine strings_Builder_WriteString.up (strings_Builder_WriteString.call ?_)
  unfold strings_Builder_WriteString.pt
  refine bCheck h fun w1 h1 hb1 => ?_
  obtain ⟨hB, v, hbk, hown, hne⟩ := h1
  have c1 : w1.cell? ⟨b, 1, none⟩ = some v := by rw [Lib.cell_of_heap hbk]; rfl
  simp -zeta only [nil_ptr, field_addr f_strings_Builder_1, Nat.zero_add, ld_sc sc_s_uint8 c1]
  have hlt : b < w1.heap.size := (Array.getElem?_eq_some_iff.1 hbk).1
  obtain ⟨v', w2, hr, hown', hgrow, _⟩ := Lib.run_append_own_stringF (P := Tryz.prog) w1 lo T_s_uint8 T_string T_s_uint8 T_uint8 i0 U_s_uint8 U_string hi hz0 hz1 hz2 v bs.length bs hown s (by unfold maxLen; omega) (by omega) (by have := hb1.size; omega)
  refine upK_of (vN_run hr) ?_
  have hb2 : w2.heap[b]? = some (.cells #[.pointer (some ⟨b, 0, none⟩), v] T_strings_Builder (0, 0)) := by
    rw [hgrow.block b hlt (fun e => hne e.symm)]
    exact hbk
  have h1c : v'.oneCell' = true := by
    rcases hown'.2 with ⟨hv, _⟩ | ⟨g, cap, cur, fz, hv, _⟩ <;> rw [hv] <;> rfl
  refine st_sc (c := fun _ => 0) (t := 0) sc_s_uint8 (cs := #[.pointer (some ⟨b, 0, none⟩), v]) ⟨rfl, hb2⟩ (by show 1 < 2; omega) h1c fun _ _ => ?_
  simp -zeta only [len_string U_string]
  refine k _ _ (Lib.BuilderAtF.put (T := T_strings_Builder) (e := T_uint8) hB hb2 (bs' := bs ++ Lib.strCells s) (by simpa [Lib.strCells_length] using hown') (by decide)) ?_
  exact (hb1.grown hgrow (by have := hb1.size; omega) (fun k hk => (hown.lt k hk).1)).setCell (p := ⟨b, 1, none⟩) hB _
theorem Rel.bldWrite {lo b : Nat} {l : Bs} {s : ByteArray} {K : Value → World → Prop} (h : Rel B w [bldD lo b l]) (hlo : B.W.heap.size ≤ lo) (hlen : l.length + s.size ≤ 140737488355328)
    (k : ∀ v w', Rel B w' [bldD lo b (l ++ bl s)] → K v w') : upK Tryz.prog (sCall F_strings_Builder_WriteString #[.pointer (some ⟨b, 0, none⟩), .string s]) w K := by
  have hs := h.bldLo
  refine bWrite (bldD.is (h.here (i := 0) rfl)) (by rw [byteCells_len]; exact hlen) hs fun v w' h1 h2 => ?_
  refine k _ _ (h.bldStep hlo hs h2 (.inr ?_))
  rw [bytes_str] at h1
  have : Lib.byteCells (l ++ bl s) = Lib.byteCells l ++ Lib.byteCells (bl s) := by simp [Lib.byteCells]
  rw [this]
  exact h1
set_option maxRecDepth 100000 in
theorem sString {lo b : Nat} {l : Bs} {w : World} (h : Lib.IsBuilderF T_strings_Builder T_uint8 lo b (Lib.byteCells l) w) (hs : lo ≤ w.heap.size) :
    Calls Tryz.prog F_strings_Builder_String #[.pointer (some ⟨b, 0, none⟩)] w fun e w' => e = .returned (.string ⟨l.toArray⟩) ∧ (Lib.IsBuilderF T_strings_Builder T_uint8 lo b (Lib.byteCells l) w' ∧ Below lo w w' ∧ Lib.OthersKept T_uint8 (some b) w w') := Any.Builder_String_any_k Tryz.laysString exS lo b l w h hs
theorem Rel.bldString {lo b : Nat} {l : Bs} {K : Value → World → Prop} (h : Rel B w [bldD lo b l]) (hlo : B.W.heap.size ≤ lo)
    (k : ∀ w', Rel B w' [bldD lo b l] → K (.string (ofL l)) w') : upK Tryz.prog (sCall F_strings_Builder_String #[.pointer (some ⟨b, 0, none⟩)]) w K := by
  have hs := h.bldLo
  refine strings_Builder_String.up (Calls.mono (sString (bldD.is (h.here (i := 0) rfl)) hs) ?_)
  rintro e w' ⟨rfl, h1, h2, _⟩
  exact k _ (h.bldStep hlo hs h2 h1)
/-- 'var b strings.Builder', ahead of all else of one's own. -/
theorem Gives.introB {s : Sem Next} {v : Value} (h : ∀ (B' : Base) (w : World) (K : Value → World → Prop), (∀ {d : Dat}, d B → d B') → Rel B' w [] → (∀ (w1 : World) (b : Nat), Rel B' w1 [cellD b T_strings_Builder #[.pointer none, .slice none 0 0]] → Rel B' w1 [bldD B'.W.heap.size b []]) → (∀ w' τ, Rel B' w' τ → K v w') → upK Tryz.prog s w K) : Gives Tryz.prog B s v := by
  intro w σ K hr k
  obtain ⟨B', h', back, _, base⟩ := hr.frz
  refine h ⟨w, fun _ => True⟩ w K (fun {d} hd => by
    obtain ⟨c, hc⟩ := hr
    exact d.mono (fun k hk hs => ⟨trivial, hc.same k hk hs⟩) hd) ⟨fun _ => 0, rfl, rfl, rfl, Nat.le_refl _, fun _ _ _ => rfl, fun _ _ _ => rfl, fun i d hd => by simp at hd⟩ (fun w1 b h1 => ?_) fun w' τ h2 => ?_
  · obtain ⟨c, h1⟩ := h1
    have hc : c b = 1 := (h1.own 0 _ rfl).1
    have hb : w1.heap[b]? = some (.cells #[.pointer none, .slice none 0 0] T_strings_Builder (0, 0)) := (h1.own 0 _ rfl).2
    have hlo : w.heap.size ≤ b := Nat.le_of_not_lt fun hlt => by
      have := h1.keepc b trivial hlt
      omega
    refine ⟨c, h1.os, h1.tape, h1.output, h1.size, h1.keepc, h1.same, fun j d hj => ?_⟩
    cases j with
    | zero =>
      cases hj
      exact ⟨hc, hlo, _, _, .inl rfl, hb, .inl ⟨rfl, rfl⟩⟩
    | succ j => simp at hj
  · have h2 : Rel ⟨w, fun _ => True⟩ w' [] := h2.nil
    refine k w' ?_
    obtain ⟨c, hr⟩ := hr
    obtain ⟨c2, h2⟩ := h2
    refine ⟨fun k => if k < w.heap.size then c k else 0, h2.os.trans hr.os, h2.tape.trans hr.tape, h2.output.trans hr.output, Nat.le_trans hr.size h2.size, fun k hk hs => ?_, fun k hk hs => ?_, fun j d hj => ?_⟩
    · rw [if_pos (Nat.lt_of_lt_of_le hs hr.size)]; exact hr.keepc k hk hs
    · exact (h2.same k trivial (Nat.lt_of_lt_of_le hs hr.size)).trans (hr.same k hk hs)
    · refine d.mono (fun k hk hs => ?_) (hr.own j d hj)
      have hk : c k = j + 1 := hk
      have hs : k < w.heap.size := hs
      exact ⟨by show (if k < w.heap.size then c k else 0) = j + 1; rw [if_pos hs]; exact hk, h2.same k trivial hs⟩
end
end Go.Proofs.YtoebncgnjbblgaaGreatDoor
