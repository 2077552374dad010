/-
  maps.Keys' iterator and slices.AppendSeq over a map with struct keys: the keys come each once, in some order. No condition.
-/
import Derived.Test.YtoebncgnjbblgaaGreatDoorCodeV
import Derived.Test.YtoebncgnjbblgaaGreatDoorPt0
import Derived.Test.YtoebncgnjbblgaaGreatDoorSpec
import Derived.Test.YtoebncgnjbblgaaGreatDoorLib
import Derived.Test.YtoebncgnjbblgaaGreatDoorMaps
import Derived.Test.YtoebncgnjbblgaaGreatDoorMk
import Derived.Test.YtoebncgnjbblgaaGreatDoorTypes
import Derived.RangeFuncRecord
import Derived.OwnWalkIn
namespace Go.Proofs.YtoebncgnjbblgaaGreatDoor
open Go.RowKit
set_option maxRecDepth 100000

/-! ### Fences that let everything in -/
structure OpenF (F : Fence) : Prop where
  fn : ∀ f, F.fn f
  depth : F.depth = none
  calls : ∀ {n : Nat} {P : Program} {f : FuncId} {args : Array Value} {w : World} {R : Ending → World → Prop}, Calls P f args w R → CallsIn F n P f args w R
theorem openWide : OpenF Fence.wide := ⟨fun _ => trivial, rfl, fun h => callsIn_wide.2 h⟩
theorem openRound (l : Nat) : OpenF (Fence.wide.inRound l) := ⟨fun _ => trivial, rfl, fun h => callsIn_wide.2 h⟩

def upF (F : Fence) (P : Program) (K : Value → World → Prop) : Result Next → Prop
  | .ok (.value v) w' => K v w'
  | .ok .skip w' => K undef w'
  | .ok (.enter f args) w' => Calls P f args w' (retK K)
  | .ok (.round l f tmps assign body) w' => RoundIn F 0 P l f tmps assign body w' (retK K)
  | _ => False
theorem upF_of {F : Fence} {P : Program} {K : Value → World → Prop} {r : Result Next} (h : upR P K r) : upF F P K r := by
  cases r with
  | ok x w => cases x <;> first | exact h | exact h.elim
  | halt x w => exact h.elim

section
variable {F : Fence} {P : Program} {ops : Array Oper} {rest : List Oper} {o : Oper} {a : Act} {w : World} {K : Value → World → Prop} {Q : Exit → Act → World → Prop}
theorem stepF (hO : OpenF F) (hg : o.guard = none) (hp : ∀ c, o.op ≠ .defer c) (h : upF F P K ((execOp a.eval o).run P w)) (k : ∀ v w', K v w' → wpListIn F 0 P ops Q rest (a.put o.dst v) w') : wpListIn F 0 P ops Q (o :: rest) a w := by
  refine wpListIn_plain hg fun K' hK' => ?_
  unfold Oper.wpIn
  refine ⟨fun f _ => hO.fn f, ?_⟩
  rw [Oper.semAt_plain F _ _ hp]
  generalize (execOp a.eval o).run P w = r at h ⊢
  have hd : F.depth.isSome = true → 1 ≤ 0 := fun hh => by rw [hO.depth] at hh; cases hh
  cases r with
  | ok x w' =>
    cases x
    case value v => exact hK' _ _ (k _ _ h)
    case skip => exact hK' _ _ (k _ _ h)
    case enter f args =>
      refine ⟨hd, CallsIn.mono (hO.calls h) fun e w'' he => ?_⟩
      cases e with
      | returned v => exact hK' _ _ (k _ _ he)
      | panicked c => exact he.elim
      | outgrown => exact he.elim
    case round l f tmps assign body =>
      refine ⟨hd, RoundIn.mono h fun e w'' he => ?_⟩
      cases e with
      | returned v => exact hK' _ _ (k _ _ he)
      | panicked c => exact he.elim
      | outgrown => exact he.elim
    all_goals exact h.elim
  | halt x w' => exact h.elim
theorem stepU (hO : OpenF F) {s : Sem Next} (hs : execOp a.eval o = s) (h : upK P s w K) (k : ∀ v w', K v w' → wpListIn F 0 P ops Q rest (a.put o.dst v) w') (hg : o.guard = none := by rfl) (hp : ∀ c, o.op ≠ .defer c := by intro c h; cases h) : wpListIn F 0 P ops Q (o :: rest) a w :=
  stepF hO hg hp (K := K) (by rw [hs]; exact upF_of h) k
theorem stepI (hO : OpenF F) {s : Sem Next} {v : Value} (hs : execOp a.eval o = s) (h : Is P s v w) (k : wpListIn F 0 P ops Q rest (a.put o.dst v) w) (hg : o.guard = none := by rfl) (hp : ∀ c, o.op ≠ .defer c := by intro c h; cases h) : wpListIn F 0 P ops Q (o :: rest) a w :=
  stepF hO hg hp (K := fun v' w' => v' = v ∧ w' = w) (by rw [hs, show s.run P w = .ok (.value v) w from h]; exact ⟨rfl, rfl⟩) fun v' w' ⟨e1, e2⟩ => by subst e1 e2; exact k
theorem stepM (hO : OpenF F) {v : Value} (hs : execOp a.eval o = pure (.value v)) (k : wpListIn F 0 P ops Q rest (a.put o.dst v) w) (hg : o.guard = none := by rfl) (hp : ∀ c, o.op ≠ .defer c := by intro c h; cases h) : wpListIn F 0 P ops Q (o :: rest) a w :=
  stepI hO hs rfl k hg hp
theorem pureK.is {s : Sem Next} {v : Value} (h : ∀ Kp : Value → Prop, pureK P s Kp = Kp v) (w : World) : Is P s v w := by
  have := h (fun x => x = v)
  obtain ⟨v', h1, h2⟩ : pureK P s (fun x => x = v) := by rw [this]
  rw [h2] at h1
  exact h1 w
end

/-! ### The loop's record -/
def loopD (l : Nat) (r : Loop) : Dat := ⟨fun B => B.keep l ∧ B.W.heap[l]? = some (.loop r), fun {B B'} hl ⟨h1, h2⟩ => by
  obtain ⟨h3, h4⟩ := hl l h1 (Array.getElem?_eq_some_iff.1 h2).1
  exact ⟨h3, h4.trans h2⟩⟩
def defrD (d : Nat) : Dat := ⟨fun B => B.keep d ∧ B.W.heap[d]? = some (.deferred (some [])), fun {B B'} hl ⟨h1, h2⟩ => by
  obtain ⟨h3, h4⟩ := hl d h1 (Array.getElem?_eq_some_iff.1 h2).1
  exact ⟨h3, h4.trans h2⟩⟩
theorem loopD.lt {B : Base} {l : Nat} {r : Loop} (h : loopD l r B) : B.keep l ∧ l < B.W.heap.size := ⟨h.1, (Array.getElem?_eq_some_iff.1 h.2).1⟩
theorem defrD.lt {B : Base} {l : Nat} (h : defrD l B) : B.keep l ∧ l < B.W.heap.size := ⟨h.1, (Array.getElem?_eq_some_iff.1 h.2).1⟩
theorem Rel.pushObj {B : Base} {w : World} {σ : List Dat} (h : Rel B w σ) (o : Obj) {d : Dat} (hd : ∀ B : Base, B.keep w.heap.size → B.W.heap[w.heap.size]? = some o → d B) : Rel B (w.alloc o) (σ ++ [d]) := by
  obtain ⟨cc, h⟩ := h
  exact ⟨paint cc w.heap.size (σ.length + 1), h.push (Step.alloc nobody cc w _ _) (hd _ (by simp [paint]) (heap_alloc_new w _))⟩
theorem Rel.putLoop {B : Base} {w : World} {σ : List Dat} (h : Rel B w σ) (i : Nat) {l : Nat} {r : Loop} (hi : σ[i]? = some (loopD l r)) (r' : Loop) : Rel B (w.putObj l (.loop r')) (σ.set i (loopD l r')) :=
  h.setObj i hi (fun B hB => loopD.lt hB) fun B h1 h2 => ⟨h1, h2⟩

abbrev VlD := D_api_Value
abbrev apTmps (sv : Value) (Bs : Nat) : Array Value := #[.slice none 0 0, sv, ptr Bs, undef, .slice none 0 0, undef, sv, undef, undef, undef, undef, undef, undef]
abbrev acAssign : Code := .region 2 ac_2.toArray false
abbrev acBody : Code := .block 1 (.region 3 ac_3.toArray false)
/-- The activation of AppendSeq, by its slots. -/
abbrev apAct (sv : Value) (Bs : Nat) (t5 t7 t8 t9 t10 t11 t12 : Value) (ds : List Deferred) : Act := { tmps := #[.slice none 0 0, sv, ptr Bs, undef, .slice none 0 0, t5, sv, t7, t8, t9, t10, t11, t12], defers := ds }
abbrev apRec (fn : FuncId) (sv : Value) (Bs D : Nat) (st : LoopState) : Loop := { state := st, pending := none, fn, tmps := apTmps sv Bs, params := #[7], assign := acAssign, body := acBody, defers := D }

section
variable {B : Base} {w : World} {v sv : Value} {ss : List VlD} {l D Bs it m c : Nat} {seen : Array Nat} {fn : FuncId} {x : VlD} {R : Ending → World → Prop}
set_option maxHeartbeats 1000000 in
theorem round_in (hl : ss.length ≤ 1000000) (h : Rel B w [cellD Bs T_s_api_Value #[v], rowD T_api_Value v ss, loopD l (apRec fn sv Bs D .ready), defrD D, iterE it m c seen c])
    (k : ∀ v' w', Rel B w' [cellD Bs T_s_api_Value #[v'], rowD T_api_Value v' (ss ++ [x]), loopD l (apRec fn sv Bs D .ready), defrD D, iterE it m c seen c] → R (.returned (.bool true)) w') :
    RoundIn Fence.wide 0 Tryz.prog l fn ((apTmps sv Bs).setIfInBounds 7 x.v) acAssign acBody w R := by
  refine roundIn_of_wpIn (F := Fence.wide) trivial ?_
  refine wpIn_region_list ?_
  show wpListIn _ _ _ _ _ ac_2 _ _
  unfold ac_2
  show wpListIn _ _ _ _ _ _ (apAct sv Bs undef x.v undef undef undef undef undef []) _
  refine stepU (openRound l) (s := sAlloc T_api_Value) rfl (K := fun p w1 => upK Tryz.prog (sStore T_api_Value p x.v) w1 fun _ w2 => ∃ o, p = ptr o ∧ Rel B w2 [cellD Bs T_s_api_Value #[v], rowD T_api_Value v ss, loopD l (apRec fn sv Bs D .ready), defrD D, iterE it m c seen c, cellD o T_api_Value x.cs.toArray]) ?_ fun p w1 hp => ?_
  · exact h.allocAg (ds := x.cs.toArray) z_api_Value rfl ag_api_Value rfl (fun v hv => Enc.one x v hv) fun o w2 h => ⟨o, rfl, h⟩
  show wpListIn _ _ _ _ _ _ (apAct sv Bs p x.v undef undef undef undef undef []) _
  refine stepU (openRound l) (s := sStore T_api_Value p x.v) rfl hp fun _ w2 hp => ?_
  obtain ⟨o, rfl, h⟩ := hp
  refine ⟨_, run_beginRound (h.here (i := 2) rfl).2 rfl, ?_⟩
  have h := h.putLoop 2 rfl (apRec fn sv Bs D .busy)
  have h : Rel B (w2.putObj l (.loop (apRec fn sv Bs D .busy))) [cellD Bs T_s_api_Value #[v], rowD T_api_Value v ss, loopD l (apRec fn sv Bs D .busy), defrD D, iterE it m c seen c, cellD o T_api_Value x.cs.toArray] := h
  generalize w2.putObj l (.loop (apRec fn sv Bs D .busy)) = w3 at h
  refine wpIn_block (wpIn_region_list ?_)
  show wpListIn _ _ _ _ _ ac_3 _ _
  unfold ac_3
  show wpListIn _ _ _ _ _ _ (apAct sv Bs (ptr o) x.v undef undef undef undef undef []) _
  refine stepI (openRound l) (s := sLoad T_s_api_Value (ptr Bs)) rfl (h.is 0 rfl sc_s_api_Value (o := 0) (v := v) rfl) ?_
  show wpListIn _ _ _ _ _ _ (apAct sv Bs (ptr o) x.v v undef undef undef undef []) _
  refine stepI (openRound l) (s := sLoad T_api_Value (ptr o)) rfl (h.isAg 5 rfl ag_api_Value rfl) ?_
  show wpListIn _ _ _ _ _ _ (apAct sv Bs (ptr o) x.v v x.v undef undef undef []) _
  refine stepU (openRound l) (s := sBuildSlice T_s_api_Value 1 #[(0, x.v)]) (by kernel_rfl) (K := fun t w1 => upK Tryz.prog (sBlt .append #[T_s_api_Value, T_s_api_Value] T_s_api_Value #[false, false] #[v, t]) w1 fun v' w2 => Rel B w2 [cellD Bs T_s_api_Value #[v], rowD T_api_Value v' (ss ++ [x]), loopD l (apRec fn sv Bs D .busy), defrD D, iterE it m c seen c, cellD o T_api_Value x.cs.toArray]) ?_ fun t w4 hp => ?_
  · exact h.push1 (α := VlD) 1 rfl x sl_s_api_Value (by decide) (by omega) (by omega) fun v' w2 h => h
  show wpListIn _ _ _ _ _ _ (apAct sv Bs (ptr o) x.v v x.v t undef undef []) _
  refine stepU (openRound l) (s := sBlt .append #[T_s_api_Value, T_s_api_Value] T_s_api_Value #[false, false] #[v, t]) (by kernel_rfl) hp fun v' w5 h => ?_
  have h1 : v'.oneCell' = true := h.oneCell (i := 1) rfl
  show wpListIn _ _ _ _ _ _ (apAct sv Bs (ptr o) x.v v x.v t v' undef []) _
  refine stepU (openRound l) (s := sStore T_s_api_Value (ptr Bs) v') rfl (K := fun _ w2 => Rel B w2 [cellD Bs T_s_api_Value #[v'], rowD T_api_Value v' (ss ++ [x]), loopD l (apRec fn sv Bs D .busy), defrD D, iterE it m c seen c, cellD o T_api_Value x.cs.toArray]) ?_ fun _ w6 h => ?_
  · exact h.st 0 rfl sc_s_api_Value (show 0 < 1 by omega) h1 fun w2 h => h
  refine ⟨_, _, run_endRound none (h.here (i := 2) rfl).2, k v' _ ?_⟩
  have h := h.putLoop 2 rfl (apRec fn sv Bs D .ready)
  exact h.take 5
end

section
variable {P : Program} {K : Value → World → Prop} {Kp : Value → Prop} {B : Base} {w : World} {σ : List Dat} {T k E : TypeId} {m c : Nat} {κ ν : Type} [Enc κ] [Enc ν] {l : List (Ent κ ν)}
theorem Rel.rangeB (h : Rel B w σ) (hi : mapE m l c B) (hT : P.underlying T = some (.map k E)) (kk : ∀ it w', Rel B w' (σ ++ [iterE it m c #[] c]) → K (.pointer (some ⟨it, 0, none⟩)) w') : upK P (sRange T (.map (some m))) w K := by
  have hb : w.heap[m]? = some (.map (l.map entV).toArray c) := (h.hereB hi).2
  have hrun := run_range_map (P := P) w T k E m _ c hT hb
  obtain ⟨cc, h⟩ := h
  refine upK_of (vN_run hrun) (kk _ _ ⟨paint cc w.heap.size (σ.length + 1), h.push (Step.alloc nobody cc w _ _) ⟨by simp [paint], heap_alloc_new w _⟩⟩)

theorem Rel.nextB (h : Rel B w σ) (j it : Nat) {seen : Array Nat} (hi : mapE m l c B) (hj : σ[j]? = some (iterE it m c seen c)) (hb : ∀ e ∈ l, e.2.2 < c)
    (k0 : ∀ w', (∀ e ∈ l, seen.contains e.2.2 = true) → Rel B w' σ → K (.tuple #[.bool false]) w')
    (k1 : ∀ e w', e ∈ l → seen.contains e.2.2 = false → Rel B w' (σ.set j (iterE it m c (seen.push e.2.2) c)) → K (.tuple #[.bool true, Enc.val e.1, Enc.val e.2.1]) w') : upK P (sNext (.pointer (some ⟨it, 0, none⟩)) false T) w K := by
  have hm : w.heap[m]? = some (.map (l.map entV).toArray c) := (h.hereB hi).2
  have hit : w.heap[it]? = some (.mapIter (some m) c seen c) := (h.here hj).2
  have hold : ∀ x ∈ (l.map entV).toArray.toList, x.born < c := by
    intro x hx
    have hx : x ∈ l.map entV := by simpa only [List.toList_toArray] using hx
    obtain ⟨e, he, rfl⟩ := List.mem_map.1 hx
    exact hb e he
  rcases run_next_at (P := P) w T it m c c seen _ c hit hm hold (Nat.le_refl _) with ⟨h0, hr⟩ | ⟨x, hx, w1, hw, hr⟩
  · refine upK_of (vN_run hr) (k0 w (fun e he => ?_) h)
    have he0 : leftOf (l.map entV).toArray seen = #[] := Array.eq_empty_of_size_eq_zero h0
    cases hc : seen.contains e.2.2 with
    | true => rfl
    | false =>
      have : entV e ∈ (leftOf (l.map entV).toArray seen) := by
        unfold leftOf
        rw [Array.mem_filter]
        refine ⟨by simp; exact ⟨e.1, e.2.1, e.2.2, he, rfl⟩, ?_⟩
        show (!seen.contains e.2.2) = true
        rw [hc]; rfl
      rw [he0] at this
      simp at this
  · have hx' : x ∈ leftOf (l.map entV).toArray seen := by simpa using hx
    unfold leftOf at hx'
    rw [Array.mem_filter] at hx'
    obtain ⟨hx1, hx2⟩ := hx'
    obtain ⟨e, he, rfl⟩ := List.mem_map.1 (List.mem_toArray.1 hx1)
    have hns : seen.contains e.2.2 = false := by
      have : (!seen.contains e.2.2) = true := hx2
      simpa using this
    have h1 : Rel B w1 σ := by
      rcases hw with rfl | rfl
      · exact h
      · exact h.tick
    exact upK_of (vN_run hr) (k1 e _ he hns (h1.setObj j hj (fun B hb => iterE.lt hb) fun B h1 h2 => ⟨h1, h2⟩))

theorem Rel.entryB (h : Rel B w σ) (j it : Nat) {seen : Array Nat} (hi : mapE m l c B) {e : Ent κ ν} (hj : σ[j]? = some (iterE it m c (seen.push e.2.2) c)) (he : e ∈ l) (hn : (l.map (·.2.2)).Nodup)
    (kk : ∀ w', Rel B w' σ → K (.tuple #[Enc.val e.1, Enc.val e.2.1]) w') : upK P (sEntry (.pointer (some ⟨it, 0, none⟩))) w K := by
  have hm : w.heap[m]? = some (.map (l.map entV).toArray c) := (h.hereB hi).2
  have hit : w.heap[it]? = some (.mapIter (some m) c (seen.push e.2.2) c) := (h.here hj).2
  have := run_entry_at (P := P) w it m c seen (l.map entV).toArray c (entV e) hit hm (by simp; exact ⟨e.1, e.2.1, e.2.2, he, rfl⟩) (by simpa [Function.comp_def, entV] using hn)
  exact upK_of (vN_run this) (kk w h)

end

/-! ### The iterator -/
abbrev kAct (l b : Nat) (x3 x4 x5 x6 x7 x8 x9 x10 x11 x12 x13 : Value) : Act := { tmps := #[.func (.yield l) #[] #[], ptr b, undef, x3, x4, x5, x6, x7, x8, x9, x10, x11, x12, x13], defers := [] }
abbrev EntV := Ent VlD Int
section
variable {B : Base} {w : World} {v sv : Value} {ss : List VlD} {l D Bs m b c : Nat} {fn : FuncId} {R : Ending → World → Prop} {l0 : List EntV}
theorem nodup_of_map {α β : Type} {f : α → β} {l : List α} (h : (l.map f).Nodup) : l.Nodup := (List.pairwise_map.1 h).imp fun hh e => hh (by rw [e])
/-- What has come so far. -/
structure Come (l0 es : List EntV) (seen : Array Nat) : Prop where
  sub : ∀ e ∈ es, e ∈ l0
  nodup : (es.map (·.2.2)).Nodup
  seen : ∀ n, seen.contains n = true ↔ n ∈ es.map (·.2.2)
theorem Come.start : Come l0 [] #[] := ⟨fun e he => (by cases he), List.nodup_nil, fun n => by simp⟩
theorem Come.push {es : List EntV} {seen : Array Nat} (h : Come l0 es seen) {e : EntV} (he : e ∈ l0) (hn : seen.contains e.2.2 = false) : Come l0 (es ++ [e]) (seen.push e.2.2) := by
  have hni : e.2.2 ∉ es.map (·.2.2) := fun hh => by rw [(h.seen _).2 hh] at hn; cases hn
  refine ⟨fun x hx => ?_, ?_, fun n => ?_⟩
  · rcases List.mem_append.1 hx with hx | hx
    · exact h.sub x hx
    · rw [List.mem_singleton.1 hx]; exact he
  · rw [List.map_append, List.map_singleton, List.nodup_append]
    refine ⟨h.nodup, by simp, fun a ha b hb => ?_⟩
    rw [List.mem_singleton.1 hb]
    exact fun hh => hni (hh ▸ ha)
  · rw [contains_push, List.map_append, List.map_singleton, List.mem_append, List.mem_singleton, ← h.seen n]
    simp
theorem Come.perm {es : List EntV} {seen : Array Nat} (h : Come l0 es seen) (hw : WfE l0 c) (hall : ∀ e ∈ l0, seen.contains e.2.2 = true) : es.Perm l0 := by
  refine (List.perm_ext_iff_of_nodup (nodup_of_map h.nodup) (nodup_of_map hw.stamps)).2 fun e => ⟨h.sub e, fun he => ?_⟩
  obtain ⟨x, hx, e2⟩ := List.mem_map.1 ((h.seen _).1 (hall e he))
  rw [← hw.eq_of_stamp (h.sub x hx) he e2]
  exact hx
open Classical in
theorem Come.len {es : List EntV} {seen : Array Nat} (h : Come l0 es seen) (hw : WfE l0 c) : es.length ≤ l0.length := by
  have hp : es.Perm (l0.filter fun e => decide (e ∈ es)) := (List.perm_ext_iff_of_nodup (nodup_of_map h.nodup) ((nodup_of_map hw.stamps).filter _)).2 fun e => by
    rw [List.mem_filter, decide_eq_true_iff]
    exact ⟨fun he => ⟨h.sub e he, he⟩, fun he => he.2⟩
  rw [hp.length_eq]
  exact List.length_filter_le _ _
set_option maxHeartbeats 2000000 in
theorem keys1_c (hb : cellD b T_map_api_Value_int #[mapV m] B) (hm : mapE m l0 c B) (hw : WfE l0 c) (hlen : l0.length ≤ 1000000) (h : Rel B w [cellD Bs T_s_api_Value #[v], rowD T_api_Value v ([] : List VlD), loopD l (apRec fn sv Bs D .ready), defrD D])
    (k : ∀ v' w' ss, ss.Perm (l0.map (·.1)) → Rel B w' [cellD Bs T_s_api_Value #[v'], rowD T_api_Value v' ss, loopD l (apRec fn sv Bs D .ready), defrD D] → R (.returned (.tuple #[])) w') :
    CallsIn Fence.wide 0 Tryz.prog F_maps_Keys_map_api_Value_int_api_Value_int_1 #[.func (.yield l) #[] #[], ptr b] w R := by
  refine callsIn_of_wp (F := Fence.wide) kc_f kc_eq trivial ?_
  rw [kc_n]
  show Code.wpIn _ _ _ _ _ (kAct l b undef undef undef undef undef undef undef undef undef undef undef) _
  unfold kc
  refine wpIn_seq (wpIn_region_list ?_)
  show wpListIn _ _ _ _ _ kc_0 _ _
  unfold kc_0
  refine stepI openWide (s := sLoad T_map_api_Value_int (ptr b)) rfl (cellD.is (h.hereB hb) sc_map_api_Value_int (o := 0) (v := mapV m) rfl) ?_
  show wpListIn _ _ _ _ _ _ (kAct l b undef (mapV m) undef undef undef undef undef undef undef undef undef) _
  refine stepU openWide (s := sRange T_map_api_Value_int (mapV m)) rfl (K := fun p w1 => ∃ it, p = ptr it ∧ Rel B w1 [cellD Bs T_s_api_Value #[v], rowD T_api_Value v ([] : List VlD), loopD l (apRec fn sv Bs D .ready), defrD D, iterE it m c #[] c]) ?_ fun p w1 hp => ?_
  · exact h.rangeB hm U_map_api_Value_int fun it w' h => ⟨it, rfl, h⟩
  obtain ⟨it, rfl, h⟩ := hp
  clear hb
  show Code.wpIn _ _ _ _ _ (kAct l b undef (mapV m) (ptr it) undef undef undef undef undef undef undef undef) _
  refine wpIn_block (wpIn_loop (fun a w' => ∃ (x3 x6 x7 x8 x9 x10 x11 x12 x13 v' : Value) (es : List EntV) (seen : Array Nat), a = kAct l b x3 (mapV m) (ptr it) x6 x7 x8 x9 x10 x11 x12 x13 ∧ Come l0 es seen ∧ Rel B w' [cellD Bs T_s_api_Value #[v'], rowD T_api_Value v' (es.map (·.1)), loopD l (apRec fn sv Bs D .ready), defrD D, iterE it m c seen c]) (fun _ w' => unseenE l0 (seenOf w' it)) ⟨_, _, _, _, _, _, _, _, _, v, [], #[], rfl, Come.start, h⟩ ?_)
  clear h
  rintro a w2 ⟨x3, x6, x7, x8, x9, x10, x11, x12, x13, v', es, seen, rfl, hc, h⟩
  have hms := seenOf_eq h (j := 4) rfl
  have hle := hc.len hw
  refine wpIn_seq (wpIn_region_list ?_)
  show wpListIn _ _ _ _ _ kc_1 _ _
  unfold kc_1
  refine stepU openWide (s := sNext (ptr it) false 0) rfl (K := fun p w3 => (p = .tuple #[.bool false] ∧ (∀ e ∈ l0, seen.contains e.2.2 = true) ∧ Rel B w3 [cellD Bs T_s_api_Value #[v'], rowD T_api_Value v' (es.map (·.1)), loopD l (apRec fn sv Bs D .ready), defrD D, iterE it m c seen c]) ∨
      (∃ e : EntV, e ∈ l0 ∧ seen.contains e.2.2 = false ∧ p = .tuple #[.bool true, Enc.val e.1, Enc.val e.2.1] ∧ Rel B w3 [cellD Bs T_s_api_Value #[v'], rowD T_api_Value v' (es.map (·.1)), loopD l (apRec fn sv Bs D .ready), defrD D, iterE it m c (seen.push e.2.2) c])) ?_ fun p w3 hp => ?_
  · exact h.nextB 4 it hm rfl hw.below (fun w' hall h => .inl ⟨rfl, hall, h⟩) fun e w' he hns h => .inr ⟨e, he, hns, rfl, h⟩
  clear h
  rcases hp with ⟨rfl, hall, h⟩ | ⟨e, he, hns, rfl, h⟩
  · show wpListIn _ _ _ _ _ _ (kAct l b x3 (mapV m) (ptr it) (.tuple #[.bool false]) x7 x8 x9 x10 x11 x12 x13) _
    refine stepI openWide (s := sExtract (.tuple #[.bool false]) 0) (v := .bool false) rfl rfl ?_
    show Code.wpIn _ _ _ _ _ (kAct l b x3 (mapV m) (ptr it) (.tuple #[.bool false]) (.bool false) x8 x9 x10 x11 x12 x13) _
    refine wpIn_seq (wpIn_cond_false rfl (wpIn_exit ?_))
    refine ⟨rfl, _, kc_results _ _, ?_⟩
    exact k v' _ _ ((hc.perm hw hall).map _) (h.take 4)
  · show wpListIn _ _ _ _ _ _ (kAct l b x3 (mapV m) (ptr it) (.tuple #[.bool true, Enc.val e.1, Enc.val e.2.1]) x7 x8 x9 x10 x11 x12 x13) _
    refine stepI openWide (s := sExtract (.tuple #[.bool true, Enc.val e.1, Enc.val e.2.1]) 0) (v := .bool true) rfl rfl ?_
    show Code.wpIn _ _ _ _ _ (kAct l b x3 (mapV m) (ptr it) (.tuple #[.bool true, Enc.val e.1, Enc.val e.2.1]) (.bool true) x8 x9 x10 x11 x12 x13) _
    refine wpIn_seq (wpIn_cond_true rfl (wpIn_skip ?_))
    show Code.wpIn _ _ _ _ _ (kAct l b x3 (mapV m) (ptr it) (.tuple #[.bool true, Enc.val e.1, Enc.val e.2.1]) (.bool true) x8 x9 x10 x11 x12 x13) _
    generalize (Value.tuple #[.bool true, Enc.val e.1, Enc.val e.2.1]) = x6
    refine wpIn_block (wpIn_seq (wpIn_region_list ?_))
    show wpListIn _ _ _ _ _ kc_2 _ _
    unfold kc_2
    refine stepU openWide (s := sEntry (ptr it)) rfl (K := fun p w4 => p = .tuple #[Enc.val e.1, Enc.val e.2.1] ∧ Rel B w4 [cellD Bs T_s_api_Value #[v'], rowD T_api_Value v' (es.map (·.1)), loopD l (apRec fn sv Bs D .ready), defrD D, iterE it m c (seen.push e.2.2) c]) ?_ fun p w4 hp => ?_
    · exact h.entryB 4 it hm rfl he hw.stamps fun w' h => ⟨rfl, h⟩
    obtain ⟨rfl, h⟩ := hp
    show wpListIn _ _ _ _ _ _ (kAct l b x3 (mapV m) (ptr it) x6 (.bool true) (.tuple #[Enc.val e.1, Enc.val e.2.1]) x9 x10 x11 x12 x13) _
    refine stepI openWide (s := sExtract (.tuple #[Enc.val e.1, Enc.val e.2.1]) 0) (v := e.1.v) rfl rfl ?_
    show wpListIn _ _ _ _ _ _ (kAct l b x3 (mapV m) (ptr it) x6 (.bool true) (.tuple #[Enc.val e.1, Enc.val e.2.1]) e.1.v x10 x11 x12 x13) _
    generalize (Value.tuple #[Enc.val e.1, Enc.val e.2.1]) = x8
    refine stepU openWide (s := sAlloc T_api_Value) rfl (K := fun p w1 => upK Tryz.prog (sStore T_api_Value p e.1.v) w1 fun _ w2 => ∃ o, p = ptr o ∧ Rel B w2 [cellD Bs T_s_api_Value #[v'], rowD T_api_Value v' (es.map (·.1)), loopD l (apRec fn sv Bs D .ready), defrD D, iterE it m c (seen.push e.2.2) c, cellD o T_api_Value e.1.cs.toArray]) ?_ fun p w5 hp => ?_
    · exact h.allocAg (ds := e.1.cs.toArray) z_api_Value rfl ag_api_Value rfl (fun v hv => Enc.one e.1 v hv) fun o w2 h => ⟨o, rfl, h⟩
    show wpListIn _ _ _ _ _ _ (kAct l b p (mapV m) (ptr it) x6 (.bool true) x8 e.1.v x10 x11 x12 x13) _
    refine stepU openWide (s := sStore T_api_Value p e.1.v) rfl hp fun _ w6 hp => ?_
    obtain ⟨o, rfl, h⟩ := hp
    show Code.wpIn _ _ _ _ _ (kAct l b (ptr o) (mapV m) (ptr it) x6 (.bool true) x8 e.1.v x10 x11 x12 x13) _
    refine wpIn_seq (wpIn_region_list ?_)
    show wpListIn _ _ _ _ _ kc_3 _ _
    unfold kc_3
    refine stepM openWide (v := .func (.yield l) #[] #[]) rfl ?_
    show wpListIn _ _ _ _ _ _ (kAct l b (ptr o) (mapV m) (ptr it) x6 (.bool true) x8 e.1.v (.func (.yield l) #[] #[]) x11 x12 x13) _
    refine stepI openWide (s := sLoad T_api_Value (ptr o)) rfl (h.isAg 5 rfl ag_api_Value rfl) ?_
    show wpListIn _ _ _ _ _ _ (kAct l b (ptr o) (mapV m) (ptr it) x6 (.bool true) x8 e.1.v (.func (.yield l) #[] #[]) e.1.v x12 x13) _
    have h := h.take 5
    have h : Rel B w6 [cellD Bs T_s_api_Value #[v'], rowD T_api_Value v' (es.map (·.1)), loopD l (apRec fn sv Bs D .ready), defrD D, iterE it m c (seen.push e.2.2) c] := h
    refine stepF openWide rfl (by intro c h; cases h) (K := fun p w7 => p = .bool true ∧ ∃ v'', Rel B w7 [cellD Bs T_s_api_Value #[v''], rowD T_api_Value v'' (es.map (·.1) ++ [e.1]), loopD l (apRec fn sv Bs D .ready), defrD D, iterE it m c (seen.push e.2.2) c]) ?_ fun p w7 hp => ?_
    · have hy := run_yield (P := Tryz.prog) (w := w6) (l := l) (r := apRec fn sv Bs D .ready) (args := #[e.1.v]) (h.here (i := 2) rfl).2 rfl
      have hfold : ((apRec fn sv Bs D .ready).params.zip #[e.1.v]).foldl (fun tmps (x : Tmp × Value) => tmps.setIfInBounds x.1 x.2) (apRec fn sv Bs D .ready).tmps = (apTmps sv Bs).setIfInBounds 7 e.1.v := by kernel_rfl
      have hrun : (Instr.yield l #[e.1.v]).run Tryz.prog w6 = .ok (.round l fn ((apTmps sv Bs).setIfInBounds 7 e.1.v) acAssign acBody) w6 := by
        rw [← hfold]; exact hy
      generalize hX : execOp _ _ = X
      have hX2 : X = Instr.yield l #[e.1.v] := by rw [← hX]; kernel_rfl
      rw [hX2, hrun]
      exact round_in (by rw [List.length_map]; omega) h fun v'' w' h => ⟨rfl, v'', h⟩
    obtain ⟨rfl, v'', h⟩ := hp
    show wpListIn _ _ _ _ _ _ (kAct l b (ptr o) (mapV m) (ptr it) x6 (.bool true) x8 e.1.v (.func (.yield l) #[] #[]) e.1.v (.bool true) x13) _
    refine stepI openWide (s := sUn .not (.bool true)) (v := .bool false) rfl rfl ?_
    show Code.wpIn _ _ _ _ _ (kAct l b (ptr o) (mapV m) (ptr it) x6 (.bool true) x8 e.1.v (.func (.yield l) #[] #[]) e.1.v (.bool true) (.bool false)) _
    refine wpIn_cond_false rfl (wpIn_skip ?_)
    refine ⟨⟨_, _, _, _, _, _, _, _, _, v'', es ++ [e], seen.push e.2.2, rfl, hc.push he hns, ?_⟩, ?_⟩
    · rw [List.map_append]
      exact h
    · show unseenE l0 (seenOf w7 it) < unseenE l0 (seenOf w2 it)
      rw [hms, seenOf_eq h (j := 4) rfl]
      exact unseen_push he hns

/-! ### AppendSeq -/
abbrev qAct (sv t2 t4 t6 t12 : Value) (ds : List Deferred) : Act := { tmps := #[.slice none 0 0, sv, t2, undef, t4, undef, t6, undef, undef, undef, undef, undef, t12], defers := ds }
abbrev itV (b : Nat) : Value := .func (.func F_maps_Keys_map_api_Value_int_api_Value_int_1) #[] #[ptr b]
set_option maxHeartbeats 2000000 in
theorem appendSeq_c {K : Value → World → Prop} (hb : cellD b T_map_api_Value_int #[mapV m] B) (hm : mapE m l0 c B) (hw : WfE l0 c) (hlen : l0.length ≤ 1000000) (h : Rel B w [])
    (k : ∀ u ss w', ss.Perm (l0.map (·.1)) → Rel B w' [rowD T_api_Value u ss] → K u w') : Calls Tryz.prog F_slices_AppendSeq_s_api_Value_api_Value #[.slice none 0 0, itV b] w (retK K) := by
  refine (callsIn_wide (n := 0)).1 (callsIn_of_wp_marks (F := Fence.wide) ac_f ac_eq trivial ?_)
  rw [ac_n]
  show Code.wpIn _ _ _ _ _ (qAct (itV b) undef undef undef undef []) _
  unfold ac
  refine wpIn_seq (wpIn_region_list ?_)
  show wpListIn _ _ _ _ _ ac_0 _ _
  unfold ac_0
  refine stepU openWide (s := sBox T_s_api_Value (.slice none 0 0)) rfl (K := fun p w1 => ∃ Bs, p = ptr Bs ∧ Rel B w1 [cellD Bs T_s_api_Value #[.slice none 0 0]]) ?_ fun p w1 hp => ?_
  · exact h.box fun Bs w1 h => ⟨Bs, rfl, h⟩
  obtain ⟨Bs, rfl, h⟩ := hp
  show wpListIn _ _ _ _ _ _ (qAct (itV b) (ptr Bs) undef undef undef []) _
  refine stepM openWide (v := .slice none 0 0) rfl ?_
  show Code.wpIn _ _ _ _ _ (qAct (itV b) (ptr Bs) (.slice none 0 0) undef undef []) _
  refine wpIn_seq (wpIn_seq (wpIn_region_list ?_))
  show wpListIn _ _ _ _ _ ac_1 _ _
  unfold ac_1
  refine stepM openWide (v := itV b) rfl ?_
  show Code.wpIn _ _ _ _ _ (qAct (itV b) (ptr Bs) (.slice none 0 0) (itV b) undef []) _
  refine wpIn_block (wpIn_rangeFunc fun fn _ => ?_)
  have h := h.addNil VlD T_api_Value
  have h := h.pushObj (.deferred (some [])) (d := defrD w1.heap.size) fun B h1 h2 => ⟨h1, h2⟩
  have hsz : (w1.alloc (.deferred (some []))).heap.size = w1.heap.size + 1 := World.size_alloc _ _
  have h := h.pushObj (.loop (apRec fn (itV b) Bs w1.heap.size .ready)) (d := loopD (w1.heap.size + 1) (apRec fn (itV b) Bs w1.heap.size .ready)) fun B h1 h2 => by rw [hsz] at h1 h2; exact ⟨h1, h2⟩
  have h := h.pick [0, 1, 3, 2] (by decide)
  obtain ⟨w2, hW⟩ : ∃ w2, (w1.alloc (.deferred (some []))).alloc (.loop (apRec fn (itV b) Bs w1.heap.size .ready)) = w2 := ⟨_, rfl⟩
  rw [hW] at h
  refine ⟨w1.heap.size + 1, [{ target := .collected w1.heap.size, args := #[] }], w2, { target := .fn (.func F_maps_Keys_map_api_Value_int_api_Value_int_1) #[ptr b], args := #[.func (.yield (w1.heap.size + 1)) #[] #[]] }, w2, F_maps_Keys_map_api_Value_int_api_Value_int_1, #[.func (.yield (w1.heap.size + 1)) #[] #[], ptr b], w2, ?_, ?_, fun _ _ => trivial, ?_, fun hh => absurd hh (by decide), ?_⟩
  · rw [← hW]; exact run_enterLoop_outer _ _ _ _ _
  · have hg : (qAct (itV b) (ptr Bs) (.slice none 0 0) (itV b) undef []).eval (.tmp 6) = itV b := rfl
    simp only [resolve, hg]
    simp [go_sem]
  · simp [invoke, go_sem, kc_enters]
  generalize hD : w1.heap.size = D at *
  generalize hl : D + 1 = l at *
  have h : Rel B w2 [cellD Bs T_s_api_Value #[.slice none 0 0], rowD T_api_Value (.slice none 0 0) ([] : List VlD), loopD l (apRec fn (itV b) Bs D .ready), defrD D] := h
  refine keys1_c hb hm hw hlen h fun v' w3 ss hp h => ?_
  refine ⟨none, _, run_endLoop (h.here (i := 2) rfl).2 (by intro hh; cases hh), ?_⟩
  have h := h.putLoop 2 rfl (apRec fn (itV b) Bs D .exhausted)
  have h : Rel B (w3.putObj l (.loop (apRec fn (itV b) Bs D .exhausted))) [cellD Bs T_s_api_Value #[v'], rowD T_api_Value v' ss, loopD l (apRec fn (itV b) Bs D .exhausted), defrD D] := h
  show Code.wpIn _ _ _ _ _ (qAct (itV b) (ptr Bs) (.slice none 0 0) (itV b) undef [{ target := .collected D, args := #[] }]) (w3.putObj l (.loop (apRec fn (itV b) Bs D .exhausted)))
  generalize w3.putObj l (.loop (apRec fn (itV b) Bs D .exhausted)) = w4 at h
  refine wpIn_seq (wpIn_region_list ?_)
  show wpListIn _ _ _ _ _ ac_4 _ _
  unfold ac_4
  refine stepI openWide (s := sLoad T_s_api_Value (ptr Bs)) rfl (h.is 0 rfl sc_s_api_Value (o := 0) (v := v') rfl) ?_
  show wpListIn _ _ _ _ _ _ (qAct (itV b) (ptr Bs) (.slice none 0 0) (itV b) v' [{ target := .collected D, args := #[] }]) _
  refine stepM openWide (v := v') rfl ?_
  show Code.wpIn _ _ _ _ _ (qAct (itV b) (ptr Bs) v' (itV b) v' [{ target := .collected D, args := #[] }]) _
  refine wpIn_ret ?_
  refine ⟨by simp, .inl ⟨_, _, rfl, run_takeDeferred (h.here (i := 3) rfl).2, ?_⟩⟩
  have h := h.setObj 3 (o := .deferred none) (d := emp) rfl (fun B hB => defrD.lt hB) fun B _ _ => trivial
  refine ⟨_, ac_results _ _, ?_⟩
  have h := h.pick [1] (by decide)
  exact k v' ss _ hp h
theorem keysV_m (m : Nat) : Makes Tryz.prog B (sCall F_maps_Keys_map_api_Value_int_api_Value_int #[mapV m]) fun u τ => ∃ b, u = itV b ∧ τ = [cellD b T_map_api_Value_int #[mapV m]] := by
  refine Makes.intro fun B' w K base h k => ?_
  refine maps_Keys_map_api_Value_int_api_Value_int.up (maps_Keys_map_api_Value_int_api_Value_int.call ?_)
  unfold maps_Keys_map_api_Value_int_api_Value_int.pt
  refine h.box fun b w1 h => ?_
  simp -zeta only [mk_func]
  exact k _ _ _ ⟨b, rfl, rfl⟩ h
theorem collectV_m (hb : cellD b T_map_api_Value_int #[mapV m] B) (hm : mapE m l0 c B) (hw : WfE l0 c) (hlen : l0.length ≤ 1000000) :
    Makes Tryz.prog B (sCall F_slices_Collect_api_Value #[itV b]) fun u τ => ∃ ss, ss.Perm (l0.map (·.1)) ∧ τ = [rowD T_api_Value u ss] := by
  refine Makes.intro fun B' w K base h k => ?_
  refine slices_Collect_api_Value.up (slices_Collect_api_Value.call ?_)
  unfold slices_Collect_api_Value.pt
  refine up_call ac_f (by rw [ac_eq]; rfl) (by kernel_rfl) (appendSeq_c (base hb) (base hm) hw hlen h fun u ss w' hp h => ?_)
  exact k _ _ _ ⟨ss, hp, rfl⟩ h
end
end Go.Proofs.YtoebncgnjbblgaaGreatDoor
