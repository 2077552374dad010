/-
  text: Int. No condition.
-/
import Derived.Test.YtifhbaphlmhoeaaDoorTxt0
import Derived.Test.YtifhbaphlmhoeaaDoorTxtC
--@auto
namespace Go.Proofs.YtifhbaphlmhoeaaDoor
open Go.RowKit
set_option maxRecDepth 100000

variable {B : Base} {w : World} {σ : List Dat}
theorem sParseOk (s : ByteArray) (hmax : s.size ≤ 9223372036854775806) (v : Int) (h : Go.Lib.atoiAll s.data.toList = .ok v) (w : World) :
    Calls Tryd.prog F_strconv_ParseInt #[.string s, .int .i64 10, .int .i64 64] w fun e w' => e = .returned (.tuple #[.int .i64 v, .nilIface]) ∧ (w' = w ∨ ∃ t, w' = Go.Lib.bytesWorld w T_uint8 t) := Any.strconv_ParseInt_10_at64_ok Tryd.laysParseInt s hmax v (by rw [Go.Lib.parseIntB_64]; exact h) w
theorem sParseSyn (s : ByteArray) (hlim : s.size ≤ 281474976710656) (h0 : ∀ v, Go.Lib.atoiAll s.data.toList ≠ .ok v) (h1 : Go.Lib.atoiAll s.data.toList ≠ .range) (ev : Value) (w : World) (hv : w.cell? ⟨G_strconv_ErrSyntax, 0, none⟩ = some ev) (hev : ev = .nilIface ∨ ∃ te pe, ev = .iface te pe) :
    Calls Tryd.prog F_strconv_ParseInt #[.string s, .int .i64 10, .int .i64 64] w fun e w' => ∃ n t p, e = .returned (.tuple #[.int .i64 n, .iface t p]) ∧ Below w.heap.size w w' := by
  have h := Any.strconv_ParseInt_10_at64_syntax Tryd.laysParseInt s hlim (by rw [Go.Lib.parseIntB_64]; rcases e : Go.Lib.atoiAll s.data.toList with v | _ | _ <;> first | rfl | exact absurd e h1 | exact absurd e (h0 _)) ev w hv hev
  refine Calls.mono (f := F_strconv_ParseInt) h ?_
  rintro e w' ⟨N, rfl, _, _, hb⟩
  exact ⟨_, _, _, rfl, hb⟩
theorem sParseRng (s : ByteArray) (hlim : s.size ≤ 281474976710656) (h : Go.Lib.atoiAll s.data.toList = .range) (ev : Value) (w : World) (hv : w.cell? ⟨G_strconv_ErrRange, 0, none⟩ = some ev) (hev : ev = .nilIface ∨ ∃ te pe, ev = .iface te pe) :
    Calls Tryd.prog F_strconv_ParseInt #[.string s, .int .i64 10, .int .i64 64] w fun e w' => ∃ n t p, e = .returned (.tuple #[.int .i64 n, .iface t p]) ∧ Below w.heap.size w w' := by
  have h := Any.strconv_ParseInt_10_at64_range Tryd.laysParseInt s hlim (by rw [Go.Lib.parseIntB_64]; exact h) ev w hv hev
  refine Calls.mono (f := F_strconv_ParseInt) h ?_
  rintro e w' ⟨N, rfl, _, _, hb⟩
  exact ⟨_, _, _, rfl, hb⟩
theorem sFormat {n : Int} (h0 : -9223372036854775808 ≤ n) (h1 : n ≤ 9223372036854775807) (w : World) (htab : Go.Lib.TabIs Tryd.prog w "internal/strconv.uint64pow10" .u64 Go.Lib.pow10Tab) :
    Calls Tryd.prog F_strconv_FormatInt #[.int .i64 n, .int .i64 10] w fun e w' => e = .returned (.string ⟨(Go.Lib.itoa n).toArray⟩) ∧ ∃ k os, w' = Go.Sort.grow (w.drewN k) os := Any.strconv_FormatInt_10 Tryd.laysFormatInt n h0 h1 w htab
open Classical in
/-- The int that a string is the form of. -/
noncomputable def intOf (s : Bs) : Option Int := if h : ∃ n, inI n ∧ s = Go.Lib.itoa n then some h.choose else none
theorem intOf_itoa {n : Int} (h : inI n) : intOf (Go.Lib.itoa n) = some n := by
  unfold intOf
  have hh : ∃ m, inI m ∧ Go.Lib.itoa n = Go.Lib.itoa m := ⟨n, h, rfl⟩
  rw [dif_pos hh]
  have := hh.choose_spec
  rw [itoa_inj this.2.symm]
theorem intOf_back {s : Bs} {n : Int} (h : intOf s = some n) : inI n ∧ s = Go.Lib.itoa n := by
  unfold intOf at h
  split at h
  · rename_i hh
    injection h with h
    rw [← h]
    exact hh.choose_spec
  · cases h
theorem intOf_none {s : Bs} (h : ∀ n, inI n → s ≠ Go.Lib.itoa n) : intOf s = none := by
  unfold intOf
  rw [dif_neg]
  rintro ⟨n, h1, h2⟩
  exact h n h1 h2
theorem format_g (hB : wireD B) {n : Int} (hn : inI n) : Gives Tryd.prog B (sCall F_strconv_FormatInt #[.int .i64 n, .int .i64 10]) (.string (ofL (Go.Lib.itoa n))) := by
  refine Gives.intro fun B' w K base h k => ?_
  refine strconv_FormatInt.up (Calls.mono (sFormat hn.1 hn.2 w (wireD.pow (h.hereB (base hB)))) ?_)
  rintro e w' ⟨rfl, m, os, rfl⟩
  exact k _ _ (h.below (below_grow w m os))
theorem parse_r {K : Value → World → Prop} (hB : wireD B) (h : Rel B w σ) {s : ByteArray} (hs : s.size ≤ 281474976710656) (k : ∀ v w', AtoiV (bl s) v → Rel B w' σ → K v w') : upK Tryd.prog (sCall F_strconv_ParseInt #[.string s, .int .i64 10, .int .i64 64]) w K := by
  have hw := h.hereB hB
  rcases ha : Lib.atoiAll s.data.toList with n | _ | _
  · skip
    refine strconv_ParseInt.up (Calls.mono (sParseOk s (by omega) n ha w) ?_)
    rintro e w' ⟨rfl, hw'⟩
    refine k _ _ (.inl ⟨n, ha, rfl⟩) ?_
    rcases hw' with rfl | ⟨t, rfl⟩
    · exact h
    · exact h.below (Lib.bytesWorld_below _ _ _)
  · skip
    obtain ⟨t, p, hc⟩ := wireD.syn hw
    refine strconv_ParseInt.up (Calls.mono (sParseSyn s hs (fun v hv => by rw [ha] at hv; cases hv) (fun hv => by rw [ha] at hv; cases hv) _ w hc (.inr ⟨t, p, rfl⟩)) ?_)
    rintro e w' ⟨n, t, p, rfl, hb⟩
    exact k _ _ (.inr ⟨fun n hn => (by rw [show Lib.atoiAll (bl s) = _ from ha] at hn; cases hn), _, _, _, rfl⟩) (h.below hb)
  · skip
    obtain ⟨t, p, hc⟩ := wireD.rng hw
    refine strconv_ParseInt.up (Calls.mono (sParseRng s hs ha _ w hc (.inr ⟨t, p, rfl⟩)) ?_)
    rintro e w' ⟨n, t, p, rfl, hb⟩
    exact k _ _ (.inr ⟨fun n hn => (by rw [show Lib.atoiAll (bl s) = _ from ha] at hn; cases hn), _, _, _, rfl⟩) (h.below hb)
theorem textInt_g (hB : wireD B) {s : Bs} (hs : s.length ≤ 1099511627776) : Gives Tryd.prog B (sCall F_text_Int #[.string (ofL s)]) (.tuple #[.int .i64 ((intOf s).getD 0), .bool (intOf s).isSome]) := by
  refine Gives.intro fun B' w K base h k => ?_
  replace hB := base hB
  refine text_Int.up (text_Int.call ?_)
  unfold text_Int.pt
  refine parse_r (s := ofL s) hB h (by rw [ofL_size]; omega) fun v w3 hv h => ?_
  rw [bl_ofL] at hv
  rcases hv with ⟨n, hn, rfl⟩ | ⟨hno, n, t, q, rfl⟩
  · have hin := Go.Lib.atoiAll_bounds hn
    simp -zeta only [ext_2_0, ext_2_1, neq_nil_nil (show Tryd.prog.underlying T_error = some (.interface (Tryd.prog.methodsAt T_error)) by kernel_rfl), ifB_false]
    refine h.ask (fun B2 own base2 => format_g (base2 hB) hin) fun w5 h => ?_
    rw [neq_str, ifB_not, ifB_dec]
    refine ⟨fun c => ?_, fun c => ?_⟩
    · have c : Go.Lib.itoa n = s := by have := congrArg bl c; exact this
      rw [show intOf s = some n by rw [← c]; exact intOf_itoa hin] at k
      exact k _ _ h
    · rw [intOf_none fun m hm e => c (by rw [e, atoi_itoa hm] at hn; injection hn with hn; rw [e, hn])] at k
      exact k _ _ h
  · simp -zeta only [ext_2_0, ext_2_1, neq_iface_nil (show Tryd.prog.underlying T_error = some (.interface (Tryd.prog.methodsAt T_error)) by kernel_rfl), ifB_true]
    rw [intOf_none fun m hm e => hno m (by rw [e]; exact atoi_itoa hm)] at k
    exact k _ _ h
end Go.Proofs.YtifhbaphlmhoeaaDoor
