/-
  A cell on a calm disk; chapter 5's small, few, again. No condition.
-/
import Derived.Test.YtmkigdkhpdeaeaaDoorCellC
import Derived.Test.YtmkigdkhpdeaeaaDoorDiskH
namespace Go.Proofs.YtmkigdkhpdeaeaaDoor
open Go.RowKit

structure Calm (s : DS) : Prop where
  down : s.down = false
  armed : s.armed = 0
  lost : s.lost = 0
/-- The same but for one file. -/
structure Sim (f : Int) (s s' : DS) : Prop where
  fs : ∀ g, g ≠ f → s'.fs g = s.fs g
  q : ∀ x : Sec, x.file ≠ f → (x ∈ s'.queue ↔ x ∈ s.queue)
  down : s'.down = s.down
  armed : s'.armed = s.armed
  lost : s'.lost = s.lost
  keep : s'.keep = s.keep
theorem Sim.refl (f : Int) (s : DS) : Sim f s s := ⟨fun _ _ => rfl, fun _ _ => Iff.rfl, rfl, rfl, rfl, rfl⟩
theorem Sim.trans {f : Int} {a b c : DS} (h : Sim f a b) (h' : Sim f b c) : Sim f a c :=
  ⟨fun g hg => (h'.fs g hg).trans (h.fs g hg), fun x hx => (h'.q x hx).trans (h.q x hx), h'.down.trans h.down, h'.armed.trans h.armed, h'.lost.trans h.lost, h'.keep.trans h.keep⟩
theorem Sim.calm {f : Int} {a b : DS} (h : Sim f a b) (hc : Calm a) : Calm b := ⟨h.down.trans hc.down, h.armed.trans hc.armed, h.lost.trans hc.lost⟩
theorem Sim.add (s : DS) (f : Int) (a : Nat) (t : ByteArray) : Sim f s (addS s f a t) := by
  unfold addS
  split
  · exact Sim.refl f s
  · refine ⟨fun g hg => upd_ne hg, fun x hx => ⟨fun h => ?_, fun h => addQ_mem.2 (.inl h)⟩, rfl, rfl, rfl, rfl⟩
    rcases addQ_mem.1 h with h | ⟨n, _, rfl⟩
    · exact h
    · exact absurd rfl hx
theorem Sim.settle (s : DS) (f : Int) (x : ByteArray) : Sim f s (settleS s f x) := by
  refine ⟨fun g hg => upd_ne hg, fun y hy => ⟨fun h => (List.mem_filter.1 h).1, fun h => List.mem_filter.2 ⟨h, by simpa using hy⟩⟩, rfl, rfl, rfl, rfl⟩
theorem add_fs (s : DS) (f : Int) (a : Nat) (t : ByteArray) : (addS s f a t).fs f = ⟨putB (s.fs f).now a t, (s.fs f).last⟩ := by
  unfold addS
  split
  · rename_i e
    unfold putB
    rw [if_pos e]
  · exact upd_same
theorem settle_fs (s : DS) (f : Int) (x : ByteArray) : (settleS s f x).fs f = ⟨x, x⟩ := upd_same
theorem writeT_calm {s : DS} (h : Calm s) {f : Int} (hf : 0 ≤ f ∧ f < 16) {a : Int} {t : ByteArray} (ha : 0 ≤ a) (hfit : a + t.size ≤ 16777216) : writeT s f a t = (addS s f a.toNat t, 0) := by
  have hE : writeE s f a t = 0 := (writeE_zero' h.down).2 ⟨hf, ha, hfit⟩
  rw [write_unarmed h.armed, hE]
  unfold writeW
  rw [if_pos hE]
theorem syncT_calm {s : DS} (h : Calm s) {f : Int} (hf : 0 ≤ f ∧ f < 16) : syncT s f = (settleS s f (s.fs f).now, 0) := by
  unfold syncT
  rw [come_unarmed h.armed, if_neg (by rw [mayS_zero.2 ⟨h.down, hf⟩]; decide), if_neg (by rw [h.lost]; decide)]
/-- What Set makes of the file. -/
def setB (st : CS) (N v : ByteArray) : ByteArray := putB (putB N (offs (nextK st)).toNat v) 0 (headB st v)
theorem offs_range (st : CS) : 0 ≤ offs (nextK st) ∧ offs (nextK st) ≤ 131072 := by
  rcases nextK_range st with e | e <;> rw [e] <;> decide
theorem headB_size (st : CS) (v : ByteArray) : (headB st v).size = 5 := rfl
theorem setS_calm {s : DS} (h : Calm s) {f : Int} (hf : 0 ≤ f ∧ f < 16) {st : CS} {v : ByteArray} (hv : v.size ≤ 65536) :
    ∃ s', setS s st f v = ((s', ⟨nextK st, v, true⟩), 0) ∧ Sim f s s' ∧ s'.fs f = ⟨setB st (s.fs f).now v, setB st (s.fs f).now v⟩ ∧ ∀ x ∈ s'.queue, x.file ≠ f := by
  have hs1 : ∃ s1, sure1 s st f = (s1, 0) ∧ Sim f s s1 ∧ (s1.fs f).now = (s.fs f).now := by
    unfold sure1
    split
    · rw [syncT_calm h hf]
      exact ⟨_, rfl, Sim.settle s f _, by rw [settle_fs]⟩
    · exact ⟨s, rfl, Sim.refl f s, rfl⟩
  obtain ⟨s1, e1, m1, n1⟩ := hs1
  have c1 := m1.calm h
  have ho := offs_range st
  have hk : nextK (st1 st) = nextK st := rfl
  unfold setS
  rw [if_neg (by omega), e1]
  dsimp only
  rw [if_neg (fun hh => hh rfl)]
  unfold set1
  rw [hk, writeT_calm c1 hf ho.1 (by omega)]
  dsimp only
  rw [if_neg (fun hh => hh rfl)]
  have m2 := Sim.add s1 f (offs (nextK st)).toNat v
  have n2 := add_fs s1 f (offs (nextK st)).toNat v
  generalize addS s1 f (offs (nextK st)).toNat v = s2 at m2 n2 ⊢
  have c2 := m2.calm c1
  unfold set2
  rw [syncT_calm c2 hf]
  dsimp only
  rw [if_neg (fun hh => hh rfl)]
  have m3 := Sim.settle s2 f (s2.fs f).now
  have n3 := settle_fs s2 f (s2.fs f).now
  generalize settleS s2 f (s2.fs f).now = s3 at m3 n3 ⊢
  have c3 := m3.calm c2
  unfold set3
  rw [hk, show headB (st1 st) v = headB st v from rfl, writeT_calm c3 hf (Int.le_refl 0) (by rw [headB_size]; decide)]
  dsimp only
  rw [if_neg (fun hh => hh rfl)]
  have m4 := Sim.add s3 f (0 : Int).toNat (headB st v)
  have n4 := add_fs s3 f (0 : Int).toNat (headB st v)
  generalize addS s3 f (0 : Int).toNat (headB st v) = s4 at m4 n4 ⊢
  have c4 := m4.calm c3
  rw [syncT_calm c4 hf]
  refine ⟨settleS s4 f (s4.fs f).now, rfl, (((m1.trans m2).trans m3).trans m4).trans (Sim.settle s4 f _), ?_, fun x hx => by simpa using (List.mem_filter.1 hx).2⟩
  rw [settle_fs, n4, n3, n2, n1]
  rfl
theorem readL_eq {l r : List UInt8} {a n : Nat} (hl : r.length = min n (l.length - a)) (h : ∀ i, i < r.length → l.getD (a + i) 0 = r.getD i 0) : (l.drop a).take n = r := by
  have hlen : ((l.drop a).take n).length = r.length := by rw [List.length_take, List.length_drop, hl]
  refine ext_getD hlen fun i hi => ?_
  rw [← h i (by omega)]
  simp only [List.getD_eq_getElem?_getD]
  rw [List.getElem?_take, if_pos (by omega), List.getElem?_drop]
theorem putB_get {s t : ByteArray} {a i : Nat} : (bl (putB s a t)).getD i 0 = if a ≤ i ∧ i < a + t.size then (bl t).getD (i - a) 0 else (bl s).getD i 0 := by
  unfold putB
  split
  · rename_i e
    rw [if_neg]
    rw [e]
    show ¬ (a ≤ i ∧ i < a + 0)
    omega
  · rw [bl_ofL, putL_get, bl_length]

section
variable {B : Base} {w : World}
theorem cell_nil {Kp : Value → Prop} {xo yo : Operand} {c : Nat} : pureK Tryd.prog (sBin .eql T_p_cell_Cell xo yo (ptr c) (.pointer none)) Kp = Kp (.bool false) := bin_eql_ptr_nil U_p_cell_Cell
theorem cell_nn {Kp : Value → Prop} {xo yo : Operand} : pureK Tryd.prog (sBin .eql T_p_cell_Cell xo yo (.pointer none) (.pointer none)) Kp = Kp (.bool true) := pureK_eq fun w => by kernel_rfl
theorem rcell_nil {Kp : Value → Prop} {xo yo : Operand} {c : Nat} : pureK Tryd.prog (sBin .eql T_p_errataref05_Cell xo yo (ptr c) (.pointer none)) Kp = Kp (.bool false) := bin_eql_ptr_nil U_p_errataref05_Cell
theorem rcell_nn {Kp : Value → Prop} {xo yo : Operand} : pureK Tryd.prog (sBin .eql T_p_errataref05_Cell xo yo (.pointer none) (.pointer none)) Kp = Kp (.bool true) := pureK_eq fun w => by kernel_rfl
theorem openS_new (f : Int) (hf : 0 ≤ f ∧ f < 16) : openS newS f = (some c0S, 0) := by
  have hr : readT newS f 0 5 = (⟨#[]⟩, 0) := by
    rw [readT_ok (mayS_zero.2 ⟨rfl, hf⟩) (by decide) (by decide)]
    rfl
  unfold openS
  rw [hr]
  rfl

def vA : ByteArray := ⟨#[97]⟩
def vBC : ByteArray := ⟨#[98, 99]⟩
def X1 : ByteArray := setB c0S ⟨#[]⟩ vA
def X2 : ByteArray := setB ⟨1, vA, true⟩ X1 vBC
theorem X2_get (i : Nat) : (bl X2).getD i 0 = if i < 5 then [(2 : UInt8), 2, 0, 0, 0].getD i 0 else if 131072 ≤ i ∧ i < 131074 then [(98 : UInt8), 99].getD (i - 131072) 0 else if i = 64 then 97 else 0 := by
  unfold X2 setB
  rw [putB_get, show bl (headB ⟨1, vA, true⟩ vBC) = [2, 2, 0, 0, 0] from rfl, headB_size, putB_get, show (offs (nextK ⟨1, vA, true⟩)).toNat = 131072 from rfl, show bl vBC = [98, 99] from rfl, show vBC.size = 2 from rfl]
  by_cases c1 : i < 5
  · rw [if_pos (by omega), if_pos c1, Nat.sub_zero]
  · rw [if_neg (by omega), if_neg c1]
    by_cases c2 : 131072 ≤ i ∧ i < 131074
    · rw [if_pos (by omega), if_pos c2]
    · rw [if_neg (by omega), if_neg c2]
      unfold X1 setB
      rw [putB_get, headB_size, if_neg (by omega), putB_get, show (offs (nextK c0S)).toNat = 64 from rfl, show vA.size = 1 from rfl]
      by_cases c3 : i = 64
      · rw [if_pos (by omega), if_pos c3, c3]; rfl
      · rw [if_neg (by omega), if_neg c3]; rfl
theorem X2_size : X2.size = 131074 := by
  unfold X2 setB
  rw [putB_size, if_neg (fun e => by have : (headB ⟨1, vA, true⟩ vBC).size = 0 := by rw [e]; rfl
                                     rw [headB_size] at this; omega), headB_size, putB_size, if_neg (by decide), show (offs (nextK ⟨1, vA, true⟩)).toNat = 131072 from rfl, show vBC.size = 2 from rfl]
  unfold X1 setB
  rw [putB_size, if_neg (fun e => by have : (headB c0S vA).size = 0 := by rw [e]; rfl
                                     rw [headB_size] at this; omega), headB_size, putB_size, if_neg (by decide), show (offs (nextK c0S)).toNat = 64 from rfl, show vA.size = 1 from rfl]
  decide

theorem small_r {σ : List Dat} {K : Value → World → Prop} (hT : offD B) (h : Rel B w σ) (k : ∀ w', Rel B w' σ → K (.bool true) w') : upK Tryd.prog (sCall F_erratalaw05_small #[]) w K := by
  obtain ⟨B', h', back, _, base⟩ := h.frz
  replace hT := base hT
  replace k : ∀ w' τ, Rel B' w' τ → K (.bool true) w' := fun w' τ h => k w' (by have := back w' _ h; exact this.drop)
  clear back h
  have h := h'
  clear h'
  refine erratalaw05_small.up (erratalaw05_small.call ?_)
  unfold erratalaw05_small.pt
  have nk : ∀ B : Base, (rowR (.slice none 0 0) ([] : List Int)) B := nilrow
  refine h.make (fun B2 own base2 => New_m) fun u τ w1 hp h => ?_
  obtain ⟨p, rfl, rfl⟩ := hp
  refine h.make (fun B2 own base2 => open_m (base2 hT) (own (i := 0) rfl) 3) fun u τ w2 hp h => ?_
  rw [openS_new 3 (by decide)] at hp
  rcases hp with ⟨c, st, he, rfl, rfl⟩ | ⟨he, _⟩
  case inr => cases he
  cases he
  have h : Rel B' w2 [diskD p newS (.slice none 0 0), cellD c T_cell_Cell (ccs p 3 c0S)] := h
  simp -zeta only [ext_2_0, ext_2_1]
  rw [nil_ne, ifB_false, cell_nil, ifB_false]
  refine h.ask (fun B2 own base2 => Get_g (own (i := 1) rfl)) fun w3 h => ?_
  simp -zeta only [ext_2_0, ext_2_1]
  obtain ⟨s1, e1, m1, f1, q1⟩ := setS_calm (s := newS) ⟨rfl, rfl, rfl⟩ (f := 3) (by decide) (st := c0S) (v := vA) (by decide)
  have c1 := m1.calm ⟨rfl, rfl, rfl⟩
  obtain ⟨s2, e2, m2, f2, q2⟩ := setS_calm (s := s1) c1 (f := 3) (by decide) (st := ⟨1, vA, true⟩) (v := vBC) (by decide)
  have c2 := m2.calm c1
  have k1 : s1.keep = [] := m1.keep
  have k2 : s2.keep = [] := m2.keep.trans k1
  have hf1 : s1.fs 3 = ⟨X1, X1⟩ := f1
  rw [hf1] at f2
  have f2 : s2.fs 3 = ⟨X2, X2⟩ := f2
  refine h.act2 (τ := []) (fun B2 own base2 => set_d (base2 hT) (nk _) (by decide)) fun v d1 d2 w4 hp h => ?_
  obtain ⟨rfl, rfl, rfl⟩ := hp
  rw [show (⟨#[97]⟩ : ByteArray) = vA from rfl, e1] at *
  have h : Rel B' w4 ([] ++ [diskD p s1 (.slice none 0 0), cellD c T_cell_Cell (ccs p 3 ⟨1, vA, true⟩)]) := h
  refine h.act2 (fun B2 own base2 => set_d (base2 hT) (by rw [k1]; exact nk _) (by rw [k1]; decide)) fun v d1 d2 w5 hp h => ?_
  obtain ⟨rfl, rfl, rfl⟩ := hp
  rw [show (⟨#[98, 99]⟩ : ByteArray) = vBC from rfl, e2] at *
  have h : Rel B' w5 [diskD p s2 (.slice none 0 0), cellD c T_cell_Cell (ccs p 3 ⟨2, vBC, true⟩)] := h
  refine h.ask (fun B2 own base2 => Get_g (own (i := 1) rfl)) fun w6 h => ?_
  simp -zeta only [ext_2_0, ext_2_1]
  have hmay : mayS s2 3 = 0 := mayS_zero.2 ⟨c2.down, by decide⟩
  have r1 : readT s2 3 0 6 = (⟨#[2, 2, 0, 0, 0, 0]⟩, 0) := by
    rw [readT_ok hmay (by decide) (by decide), f2]
    have : ((bl X2).drop (0 : Int).toNat).take (6 : Int).toNat = [2, 2, 0, 0, 0, 0] := readL_eq (by rw [bl_length, X2_size]; rfl) fun i hi => by
      rw [show (0 : Int).toNat + i = i from Nat.zero_add i, X2_get]
      have hi : i < 6 := hi
      have : i = 0 ∨ i = 1 ∨ i = 2 ∨ i = 3 ∨ i = 4 ∨ i = 5 := by omega
      rcases this with rfl | rfl | rfl | rfl | rfl | rfl <;> rfl
    show (ofL (((bl X2).drop (0 : Int).toNat).take (6 : Int).toNat), (0 : Int)) = _
    rw [this]
  have r2 : readT s2 3 64 1 = (⟨#[97]⟩, 0) := by
    rw [readT_ok hmay (by decide) (by decide), f2]
    have : ((bl X2).drop (64 : Int).toNat).take (1 : Int).toNat = [97] := readL_eq (by rw [bl_length, X2_size]; rfl) fun i hi => by
      have hi : i < 1 := hi
      have : i = 0 := by omega
      subst this
      rw [X2_get]
      rfl
    show (ofL (((bl X2).drop (64 : Int).toNat).take (1 : Int).toNat), (0 : Int)) = _
    rw [this]
  have r3 : readT s2 3 131072 9 = (⟨#[98, 99]⟩, 0) := by
    rw [readT_ok hmay (by decide) (by decide), f2]
    have : ((bl X2).drop (131072 : Int).toNat).take (9 : Int).toNat = [98, 99] := readL_eq (by rw [bl_length, X2_size]; rfl) fun i hi => by
      have hi : i < 2 := hi
      have : i = 0 ∨ i = 1 := by omega
      rw [show (131072 : Int).toNat + i = 131072 + i from rfl, X2_get, if_neg (by omega), if_pos (by omega), Nat.add_sub_cancel_left]
    show (ofL (((bl X2).drop (131072 : Int).toNat).take (9 : Int).toNat), (0 : Int)) = _
    rw [this]
  refine h.ask (fun B2 own base2 => Read_g (own (i := 0) rfl) 3 0 6) fun w7 h => ?_
  rw [r1]
  simp -zeta only [ext_2_0, ext_2_1]
  refine h.ask (fun B2 own base2 => Read_g (own (i := 0) rfl) 3 64 1) fun w8 h => ?_
  rw [r2]
  simp -zeta only [ext_2_0, ext_2_1]
  refine h.ask (fun B2 own base2 => Read_g (own (i := 0) rfl) 3 131072 9) fun w9 h => ?_
  rw [r3]
  simp -zeta only [ext_2_0, ext_2_1, bin_eql, eql_str, decide_true, ifB_true, un_not]
  have g1 : decide (c0S.value = (⟨#[]⟩ : ByteArray)) = true := decide_eq_true rfl
  have g2 : decide (0 < c0S.slot) = false := by decide
  have g3 : decide ((⟨#[97]⟩ : ByteArray) = vA) = true := decide_eq_true rfl
  have g4 : decide ((⟨#[98, 99]⟩ : ByteArray) = vBC) = true := decide_eq_true rfl
  simp -zeta only [g1, g2, g3, g4, ifB_true, Bool.not_false, show decide ((0 : Int) < 2) = true from rfl, decide_true]
  exact k _ _ h
end
end Go.Proofs.YtmkigdkhpdeaeaaDoor
