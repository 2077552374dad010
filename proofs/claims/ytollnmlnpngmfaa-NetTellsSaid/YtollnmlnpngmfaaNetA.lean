/-
  The network of package net: what its functions do, over a heap with owners. No condition.
-/
import Derived.Test.YtollnmlnpngmfaaRules
import Derived.Test.YtollnmlnpngmfaaPt0
namespace Go.Proofs.Ytollnmlnpngmfaa
open Go.RowKit

structure Pkt where
  frm : Int
  to : Int
  body : ByteArray
  deriving DecidableEq

instance : Enc Pkt where
  sz := 3
  cells p := [.int .i64 p.frm, .int .i64 p.to, .string p.body]
  val p := .agg #[.int .i64 p.frm, .int .i64 p.to, .string p.body]
  pos := by omega
  len _ := rfl
  one _ v hv := by
    simp only [List.mem_cons, List.not_mem_nil, or_false] at hv
    rcases hv with rfl | rfl | rfl <;> rfl
  cells_val _ := rfl

theorem TP : sliceB Try.prog T_s_api_Packet T_api_Packet (Enc.sz Pkt) 32 = true := by kernel_rfl
theorem TPag : agB Try.prog T_api_Packet 3 = true := by kernel_rfl
theorem TPz : (Try.prog.info? T_api_Packet).bind (·.zero) = some (.agg #[.int .i64 0, .int .i64 0, .string ⟨#[]⟩]) := by kernel_rfl
theorem TI : scB Try.prog T_int = true := by kernel_rfl
theorem TSl : scB Try.prog T_s_api_Packet = true := by kernel_rfl
theorem TN0 : fieldB Try.prog T_net_Net 0 0 = true := by kernel_rfl
theorem TN1 : fieldB Try.prog T_net_Net 1 1 = true := by kernel_rfl
theorem TK0 : fieldB Try.prog T_api_Packet 0 0 = true := by kernel_rfl
theorem TK1 : fieldB Try.prog T_api_Packet 1 1 = true := by kernel_rfl
theorem TK2 : fieldB Try.prog T_api_Packet 2 2 = true := by kernel_rfl

def pval (p : Pkt) : Value := .agg #[.int .i64 p.frm, .int .i64 p.to, .string p.body]
theorem pval_eq (p : Pkt) : (Enc.val p : Value) = pval p := rfl
def pzero : Pkt := ⟨0, 0, ⟨#[]⟩⟩

theorem build_pkt {K : Value → Prop} (f t : Int) (b : ByteArray) : pureK Try.prog (sBuild T_api_Packet #[(0, .int .i64 f), (1, .int .i64 t), (2, .string b)]) K = K (pval ⟨f, t, b⟩) := pureK_eq fun w => by
  kernel_rfl
theorem build_pkt0 {K : Value → Prop} : pureK Try.prog (sBuild T_api_Packet #[]) K = K (pval pzero) := pureK_eq fun w => by
  kernel_rfl
theorem build_net0 {K : Value → Prop} : pureK Try.prog (sBuild T_net_Net #[]) K = K (.agg #[.slice none 0 0, .int .i64 0]) := pureK_eq fun w => by
  kernel_rfl
theorem build_net {K : Value → Prop} {a : Option Addr} {n c : Nat} {k : Int} : pureK Try.prog (sBuild T_net_Net #[(0, .slice a n c), (1, .int .i64 k)]) K = K (.agg #[.slice a n c, .int .i64 k]) := pureK_eq fun w => by
  kernel_rfl

theorem fields_pkt : (Try.prog.fieldsOf T_api_Packet).toList = [{ name := "From", type := T_int, offset := 0, embedded := false, tag := "", pkgPath := "", byteOffset := 0 }, { name := "To", type := T_int, offset := 1, embedded := false, tag := "", pkgPath := "", byteOffset := 8 }, { name := "Body", type := T_string, offset := 2, embedded := false, tag := "", pkgPath := "", byteOffset := 16 }] := by kernel_rfl
theorem TStr : scB Try.prog T_string = true := by kernel_rfl
theorem UInt' : Try.prog.underlying T_int = some (.int .i64) := by kernel_rfl
theorem UStr : Try.prog.underlying T_string = some .string := by kernel_rfl

theorem toList_inj {s t : ByteArray} : (s.toList == t.toList) = decide (s = t) := by
  rw [Bool.eq_iff_iff, ByteArray.toList_eq, ByteArray.toList_eq]
  obtain ⟨⟨s⟩⟩ := s
  obtain ⟨⟨t⟩⟩ := t
  simp

theorem run_eq_pkt (p q : Pkt) (w : World) : (Op.equalIn 10000 T_api_Packet (pval p) (pval q)).run Try.prog w = .ok (decide (p = q)) w := by
  obtain ⟨a, b, s⟩ := p
  obtain ⟨a', b', s'⟩ := q
  unfold pval
  rw [show (10000 : Nat) = 9999 + 1 from rfl, run_equalIn_agg w 9999 T_api_Packet _ _ (by kernel_rfl) (by kernel_rfl), fields_pkt]
  rw [show (9999 : Nat) = 9998 + 1 from rfl]
  have e : decide ((⟨a, b, s⟩ : Pkt) = ⟨a', b', s'⟩) = (decide (a = a') && (decide (b = b') && decide (s = s'))) := by
    rw [Bool.eq_iff_iff]; simp
  rw [e]
  have h1 := run_equalIn_int (P := Try.prog) w 9998 T_int .i64 .i64 a a' UInt'
  have h2 := run_equalIn_int (P := Try.prog) w 9998 T_int .i64 .i64 b b' UInt'
  have h3 := run_equalIn_string (P := Try.prog) w 9998 T_string s s' UStr
  rw [toList_inj] at h3
  have p1 := part_sc (P := Try.prog) (w := w) (cs := #[.int .i64 a, .int .i64 b, .string s]) (off := 0) TI rfl
  have p2 := part_sc (P := Try.prog) (w := w) (cs := #[.int .i64 a, .int .i64 b, .string s]) (off := 1) TI rfl
  have p3 := part_sc (P := Try.prog) (w := w) (cs := #[.int .i64 a, .int .i64 b, .string s]) (off := 2) TStr rfl
  have q1 := part_sc (P := Try.prog) (w := w) (cs := #[.int .i64 a', .int .i64 b', .string s']) (off := 0) TI rfl
  have q2 := part_sc (P := Try.prog) (w := w) (cs := #[.int .i64 a', .int .i64 b', .string s']) (off := 1) TI rfl
  have q3 := part_sc (P := Try.prog) (w := w) (cs := #[.int .i64 a', .int .i64 b', .string s']) (off := 2) TStr rfl
  by_cases e1 : a = a' <;> by_cases e2 : b = b' <;> by_cases e3 : s = s' <;> simp_all [Op.eqFields]

theorem eq_pkt {K : Value → Prop} {xo yo : Operand} (p q : Pkt) : pureK Try.prog (sBin .eql T_api_Packet xo yo (pval p) (pval q)) K = K (.bool (decide (p = q))) := pureK_eq fun w => by
  refine sBin_eq (run_eqGuard_agg w .eql _ _ _ _ _ (by kernel_rfl)) ?_
  unfold pval
  rw [run_eql_struct]
  have := run_eq_pkt p q w
  unfold pval at this
  rw [this]
  rfl
theorem neq_pkt {K : Value → Prop} {xo yo : Operand} (p q : Pkt) : pureK Try.prog (sBin .neq T_api_Packet xo yo (pval p) (pval q)) K = K (.bool (!decide (p = q))) := pureK_eq fun w => by
  refine sBin_eq (run_eqGuard_agg w .neq _ _ _ _ _ (by kernel_rfl)) ?_
  unfold pval
  rw [run_neq_struct]
  have := run_eq_pkt p q w
  unfold pval at this
  rw [this]
  rfl


/-! ### The network's state, and what its functions do to it -/

structure NetS where
  fl : List Pkt
  sp : Int

def isEnd (a : Int) : Bool := decide (0 ≤ a) && decide (a < 16)
def sbit (sp a : Int) : Int := IntKind.wrap .i64 (BitVec.ofInt 64 (sp.fdiv (2 ^ min a.toNat 64)) &&& BitVec.ofInt 64 1).toNat
def hear (s : NetS) (a b : Int) : Bool := isEnd a && (isEnd b && decide (sbit s.sp a = sbit s.sp b))
def send (s : NetS) (p : Pkt) : Int × NetS :=
  if isEnd p.frm = true ∧ isEnd p.to = true ∧ p.frm ≠ p.to then
    if hear s p.frm p.to = true then
      if s.fl.length < 500 then (0, { s with fl := s.fl ++ [p] }) else (6, s)
    else (10, s)
  else (1, s)
def inl (s : NetS) (i : Int) : Bool := decide (0 ≤ i) && decide (i < s.fl.length)
def rm (s : NetS) (i : Int) : NetS := { s with fl := s.fl.take i.toNat ++ s.fl.drop (i.toNat + 1) }
def at_ (s : NetS) (i : Int) : Pkt := s.fl.getD i.toNat pzero
def deliver (s : NetS) (i : Int) : (Pkt × Int) × NetS :=
  if inl s i = true then
    if hear s (at_ s i).frm (at_ s i).to = true then ((at_ s i, 0), rm s i) else ((pzero, 10), rm s i)
  else ((pzero, 4), s)
def drop_ (s : NetS) (i : Int) : Int × NetS := if inl s i = true then (0, rm s i) else (4, s)
def double (s : NetS) (i : Int) : Int × NetS :=
  if inl s i = true then if s.fl.length < 500 then (0, { s with fl := s.fl ++ [at_ s i] }) else (6, s) else (4, s)
def mask16 (m : Int) : Int := IntKind.wrap .i64 (BitVec.ofInt 64 m &&& BitVec.ofInt 64 65535).toNat
def split_ (s : NetS) (m : Int) : NetS := { s with sp := mask16 m }

/-- The network object: its header of owner t, its packets of owner u. -/
def NetAt (c : Nat → Nat) (t u : Nat) (w : World) (b : Nat) (s : NetS) : Prop :=
  ∃ v, Blk c t w b T_net_Net #[v, .int .i64 s.sp] ∧ RowO c u w T_api_Packet v s.fl ∧ s.fl.length ≤ 500

theorem NetAt.frame {T : Nat → Prop} {c c' : Nat → Nat} {t u : Nat} {w w' : World} {b : Nat} {s : NetS} (h : NetAt c t u w b s) (st : Step T c w c' w') (ht : ¬ T t) (hu : ¬ T u) : NetAt c' t u w' b s := by
  obtain ⟨v, h1, h2, h3⟩ := h
  exact ⟨v, h1.frame st ht, h2.frame st hu, h3⟩
theorem NetAt.tick {c : Nat → Nat} {t u : Nat} {w : World} {b : Nat} {s : NetS} (h : NetAt c t u w b s) : NetAt c t u (Go.Proofs.Ytollnmlnpngmfaa.tick w) b s :=
  h.frame (Step.tick nobody c w) (fun h => h) (fun h => h)

abbrev ptr (b : Nat) : Value := .pointer (some ⟨b, 0, none⟩)

section
variable {K : Value → World → Prop} {w : World} {c : Nat → Nat} {t u b : Nat} {s : NetS}

theorem end_sp (a : Int) (k : K (.bool (isEnd a)) w) : upK Try.prog (sCall F_net_end #[.int .i64 a]) w K := by
  refine net_end.up (net_end.call ?_)
  unfold net_end.pt
  simp only [bin_geq, bin_lss, ifB_dec]
  refine ⟨fun h => ?_, fun h => ?_⟩
  · have : isEnd a = decide (a < 16) := by simp [isEnd, h]
    rw [this] at k; exact k
  · have : isEnd a = false := by simp [isEnd, h]
    rw [this] at k; exact k

theorem hear_sp (h : NetAt c t u w b s) (x y : Int) (k : K (.bool (hear s x y)) (tick w)) : upK Try.prog (sCall F_net_Net_Hear #[ptr b, .int .i64 x, .int .i64 y]) w K := by
  refine net_Net_Hear.up (net_Net_Hear.call ?_)
  unfold net_Net_Hear.pt
  refine end_sp x ?_
  rw [ifB_bool]
  refine ⟨fun hx => ?_, fun hx => ?_⟩
  · refine end_sp y ?_
    rw [ifB_bool]
    refine ⟨fun hy => ?_, fun hy => ?_⟩
    · obtain ⟨v, hb, -, -⟩ := h.tick
      have hx0 : 0 ≤ x := by simp [isEnd] at hx; exact hx.1
      have hy0 : 0 ≤ y := by simp [isEnd] at hy; exact hy.1
      simp only [nil_ptr, field_addr TN1, ld_sc TI (hb.cell (o := 1) (v := .int .i64 s.sp) rfl), bin_shr hx0, bin_shr hy0, bin_and, bin_eql]
      have : hear s x y = decide (sbit s.sp x = sbit s.sp y) := by simp [hear, hx, hy]
      rw [this] at k
      exact k
    · have : hear s x y = false := by simp [hear, hy]
      rw [this] at k; exact k
  · have : hear s x y = false := by simp [hear, hx]
    rw [this] at k; exact k
end

end Go.Proofs.Ytollnmlnpngmfaa
