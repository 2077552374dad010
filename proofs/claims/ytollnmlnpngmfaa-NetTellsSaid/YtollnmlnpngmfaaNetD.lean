/-
  The laws' own helpers for the network: few, small, Same. No condition.
-/
import Derived.Test.YtollnmlnpngmfaaNetC
namespace Go.Proofs.Ytollnmlnpngmfaa
open Go.RowKit

structure OpD where
  do_ : Int
  n : Int
  to : Int
  s : ByteArray

instance : Enc OpD where
  sz := 4
  cells x := [.int .i64 x.do_, .int .i64 x.n, .int .i64 x.to, .string x.s]
  val x := .agg #[.int .i64 x.do_, .int .i64 x.n, .int .i64 x.to, .string x.s]
  pos := by omega
  len _ := rfl
  one _ v hv := by
    simp only [List.mem_cons, List.not_mem_nil, or_false] at hv
    rcases hv with rfl | rfl | rfl | rfl <;> rfl
  cells_val _ := rfl

instance : Enc Int where
  sz := 1
  cells x := [.int .i64 x]
  val x := .int .i64 x
  pos := by omega
  len _ := rfl
  one _ v hv := by
    simp only [List.mem_cons, List.not_mem_nil, or_false] at hv
    rcases hv with rfl
    rfl
  cells_val _ := rfl

theorem TO : sliceB Try.prog T_s_erratalaw07_Op T_erratalaw07_Op (Enc.sz OpD) 40 = true := by kernel_rfl
theorem TOag : agB Try.prog T_erratalaw07_Op 4 = true := by kernel_rfl
theorem TIs : sliceB Try.prog T_s_int T_int (Enc.sz Int) 8 = true := by kernel_rfl
theorem TO0 : fieldB Try.prog T_erratalaw07_Op 0 0 = true := by kernel_rfl
theorem TO1 : fieldB Try.prog T_erratalaw07_Op 1 1 = true := by kernel_rfl
theorem TO2 : fieldB Try.prog T_erratalaw07_Op 2 2 = true := by kernel_rfl
theorem TO3 : fieldB Try.prog T_erratalaw07_Op 3 3 = true := by kernel_rfl
theorem UpN : Try.prog.underlying T_p_net_Net = some (.pointer (Try.prog.pointee T_p_net_Net)) := by kernel_rfl
theorem UBool : Try.prog.underlying T_bool = some .bool := by kernel_rfl

theorem wrap_id {n : Int} (h : -9223372036854775808 ≤ n) (h' : n ≤ 9223372036854775807) : IntKind.wrap .i64 n = n := IntWalk.i64_in _ ⟨h, h'⟩

section
variable {K : Value → World → Prop} {Kp : Value → Prop} {w : World} {c : Nat → Nat} {t u b : Nat} {s : NetS} {p : Pkt}

/-- An operation of the law's list, read field by field. -/
theorem opAt {v : Value} {l : List OpD} (h : RowR c t w v l) {i : Nat} (hi : i < l.length) : ∃ g o, c g = t ∧ g < w.heap.size ∧ (∀ {Kp : Value → Prop}, pureK Try.prog (sIdxAddr T_s_erratalaw07_Op v (.int .i64 i)) Kp = Kp (.pointer (some ⟨g, o, none⟩))) ∧
    Cells c t w g o [.int .i64 l[i].do_, .int .i64 l[i].n, .int .i64 l[i].to, .string l[i].s] := by
  obtain ⟨g, o, h1, h2, h3, h4⟩ := h.idx TO hi
  exact ⟨g, o, h1, h2, h3, h1, h2, h4⟩

theorem few_sp {v : Value} {l : List OpD} (h : RowR c t w v l) (m : Int) (k : ∀ r, (r = true → (l.length : Int) ≤ m) → K (.bool r) w) : upK Try.prog (sCall F_erratalaw07_few #[v, .int .i64 m]) w K := by
  refine erratalaw07_few.up (erratalaw07_few.call ?_)
  unfold erratalaw07_few.pt
  intro J1
  have hJ : J1 w := by
    show readK _ _ _ _
    rw [h.len_eq TO, bin_leq]
    exact k _ (by simp)
  clear_value J1
  refine LOOP_intro (fun x w' => w' = w ∧ ∃ i : Nat, i ≤ l.length ∧ x = (.int .i64 i, ())) (fun x _ => l.length - (match x.1 with | .int _ n => n.toNat | _ => 0)) ⟨rfl, 0, Nat.zero_le _, rfl⟩ ?_
  rintro x w' ⟨rfl, i, hi, rfl⟩ next hnext
  simp only [h.len_eq TO, bin_lss, ifB_dec]
  refine ⟨fun h1 => ⟨fun h2 => ?_, fun _ => hJ⟩, fun _ => hJ⟩
  obtain ⟨g, o, _, _, hx, hc⟩ := opAt h (i := i) (by omega)
  rw [hx]
  simp only [field_addr TO3, ld_sc TStr (hc.2.2 3 _ rfl), len_string UStr, bin_gtr, ifB_dec, bin_add]
  refine ⟨fun _ => k false (by simp), fun _ => ?_⟩
  rw [wrap_id (by omega) (by omega)]
  refine hnext _ _ ⟨rfl, i + 1, by omega, by simp⟩ ?_
  simp only
  omega

/-- errataref07.Same: two lists are compared. -/
theorem same_sp {v1 v2 : Value} {l1 l2 : List Pkt} {t1 t2 : Nat} (h1 : RowR c t1 w v1 l1) (h2 : RowR c t2 w v2 l2) (hl : l1.length ≤ 140737488355328) (k : ∀ w', Step nobody c w c w' → K (.bool (decide (l1 = l2))) w') : upK Try.prog (sCall F_errataref07_Same #[v1, v2]) w K := by
  refine errataref07_Same.up (errataref07_Same.call ?_)
  unfold errataref07_Same.pt
  simp only [h1.len_eq TP, h2.len_eq TP, bin_neq, ifB_not, ifB_dec]
  refine ⟨fun hlen => ?_, fun hlen => ?_⟩
  · have hlen : l1.length = l2.length := by omega
    refine LOOP_intro (fun x w' => Step nobody c w c w' ∧ ∃ i : Nat, i ≤ l1.length ∧ l1.take i = l2.take i ∧ x = (.int .i64 i, ())) (fun x _ => l1.length - (match x.1 with | .int _ n => n.toNat | _ => 0)) ⟨Step.refl _ _ _, 0, Nat.zero_le _, rfl, rfl⟩ ?_
    rintro x w' ⟨st, i, hi, heq, rfl⟩ next hnext
    have a1 := h1.frame st fun h => h
    have a2 := h2.frame st fun h => h
    simp only [a1.len_eq TP, bin_lss, ifB_dec]
    refine ⟨fun hlt => ?_, fun hge => ?_⟩
    · have hi1 : i < l1.length := by omega
      have hi2 : i < l2.length := by omega
      obtain ⟨x1, e1, r1⟩ := loadAt_p a1.tick hi1
      obtain ⟨x2, e2, r2⟩ := loadAt_p a2.tick hi2
      rw [e1, r1, e2, r2]
      simp only [neq_pkt, ifB_not, ifB_dec, bin_add]
      refine ⟨fun e => ?_, fun e => ?_⟩
      · rw [wrap_id (by omega) (by omega)]
        refine hnext _ _ ⟨st.ticked, i + 1, by omega, ?_, by simp⟩ ?_
        · rw [List.take_succ_eq_append_getElem hi1, List.take_succ_eq_append_getElem hi2, heq, e]
        · simp only
          omega
      · have hne : decide (l1 = l2) = false := by
          rw [decide_eq_false_iff_not]
          rintro rfl
          exact e rfl
        have := k _ st.ticked
        rw [hne] at this
        exact this
    · have hii : i = l1.length := by omega
      have he : decide (l1 = l2) = true := by
        rw [decide_eq_true_eq]
        rw [List.take_of_length_le (by omega), List.take_of_length_le (by omega)] at heq
        exact heq
      have := k _ st
      rw [he] at this
      exact this
  · have hne : decide (l1 = l2) = false := by
      rw [decide_eq_false_iff_not]
      rintro rfl
      exact hlen rfl
    have := k w (Step.refl _ _ _)
    rw [hne] at this
    exact this

theorem small_sp (c : Nat → Nat) (k : ∀ c' w', Step nobody c w c' w' → K (.bool true) w') : upK Try.prog (sCall F_erratalaw07_small #[]) w K := by
  refine erratalaw07_small.up (erratalaw07_small.call ?_)
  unfold erratalaw07_small.pt
  obtain ⟨j, hj, hfr⟩ := exists_fresh c w.heap.size 0
  let T : Nat → Prop := fun x => j ≤ x
  have h2 : ∀ i x, two (j + i) (j + i + 1) x → T x := fun i x e => by rcases e with e | e <;> (show j ≤ x; omega)
  have h1 : ∀ i x, only (j + i) x → T x := fun i x (e : x = j + i) => (show j ≤ x by omega)
  refine new_sp (c := c) (j + 0) (j + 1) fun c1 b1 w1 st hn => ?_
  refine new_sp (c := c1) (j + 2) (j + 3) fun c2 b2 w2 st2 hm => ?_
  have hn := hn.frame st2 (fun h => h) (fun h => h)
  replace st : Step T c w c2 w2 := st.none.trans st2.none
  simp only [bin_eql_ptr_nil UpN, ifB_false]
  have e1 : send ⟨[], 0⟩ ⟨0, 1, ⟨#[97]⟩⟩ = (0, ⟨[⟨0, 1, ⟨#[97]⟩⟩], 0⟩) := by kernel_rfl
  have e2 : send ⟨[⟨0, 1, ⟨#[97]⟩⟩], 0⟩ ⟨0, 2, ⟨#[98]⟩⟩ = (0, ⟨[⟨0, 1, ⟨#[97]⟩⟩, ⟨0, 2, ⟨#[98]⟩⟩], 0⟩) := by kernel_rfl
  have e3 : deliver ⟨[⟨0, 1, ⟨#[97]⟩⟩, ⟨0, 2, ⟨#[98]⟩⟩], 0⟩ 1 = ((⟨0, 2, ⟨#[98]⟩⟩, 0), ⟨[⟨0, 1, ⟨#[97]⟩⟩], 0⟩) := by kernel_rfl
  have e4 : deliver ⟨[⟨0, 1, ⟨#[97]⟩⟩], 0⟩ 0 = ((⟨0, 1, ⟨#[97]⟩⟩, 0), ⟨[], 0⟩) := by kernel_rfl
  have e5 : split_ ⟨[⟨0, 1, ⟨#[97]⟩⟩], 0⟩ 1 = ⟨[⟨0, 1, ⟨#[97]⟩⟩], 1⟩ := by kernel_rfl
  have e6 : deliver ⟨[⟨0, 1, ⟨#[97]⟩⟩], 1⟩ 0 = ((pzero, 10), ⟨[], 1⟩) := by kernel_rfl
  have e7 : split_ ⟨[], 1⟩ 3 = ⟨[], 3⟩ := by kernel_rfl
  have e8 : send ⟨[], 3⟩ ⟨0, 1, ⟨#[97]⟩⟩ = (0, ⟨[⟨0, 1, ⟨#[97]⟩⟩], 3⟩) := by kernel_rfl
  have e9 : send ⟨[⟨0, 1, ⟨#[97]⟩⟩], 3⟩ ⟨1, 2, ⟨#[98]⟩⟩ = (10, ⟨[⟨0, 1, ⟨#[97]⟩⟩], 3⟩) := by kernel_rfl
  have e10 : hear ⟨[⟨0, 1, ⟨#[97]⟩⟩], 3⟩ 0 1 = true := by kernel_rfl
  have e11 : hear ⟨[⟨0, 1, ⟨#[97]⟩⟩], 3⟩ 1 2 = false := by kernel_rfl
  -- n
  refine send_sp hn (by omega) 0 1 _ fun c3 w3 st3 hn => ?_
  rw [e1] at hn ⊢
  replace hm := hm.frame st3 (by unfold two; omega) (by unfold two; omega)
  replace st := st.trans (st3.mono (h2 0))
  refine send_sp hn (by omega) 0 2 _ fun c4 w4 st4 hn => ?_
  rw [e2] at hn ⊢
  replace hm := hm.frame st4 (by unfold two; omega) (by unfold two; omega)
  replace st := st.trans (st4.mono (h2 0))
  refine deliver_sp hn (by omega) 1 fun c5 w5 st5 hn => ?_
  rw [e3] at hn ⊢
  replace hm := hm.frame st5 (by unfold two; omega) (by unfold two; omega)
  replace st := st.trans (st5.mono (h2 0))
  simp only [ofPkt, ext_2_0, ext_2_1]
  refine alloc_store_p (j + 4) c5 _ fun c6 b6 w6 st6 hx => ?_
  replace hm := hm.frame st6 (fun h => h) (fun h => h)
  replace hn := hn.frame st6 (fun h => h) (fun h => h)
  replace st := st.trans st6.none
  refine deliver_sp hn (by omega) 0 fun c7 w7 st7 hn => ?_
  rw [e4] at hn ⊢
  replace hm := hm.frame st7 (by unfold two; omega) (by unfold two; omega)
  replace hx := hx.frame st7 (by unfold two; omega)
  replace st := st.trans (st7.mono (h2 0))
  simp only [ofPkt, ext_2_0, ext_2_1]
  refine alloc_store_p (j + 5) c7 _ fun c8 b8 w8 st8 hy => ?_
  replace hm := hm.frame st8 (fun h => h) (fun h => h)
  replace hx := hx.frame st8 (fun h => h)
  replace st := st.trans st8.none
  -- m
  refine send_sp hm (by omega) 0 1 _ fun c9 w9 st9 hm => ?_
  rw [e1] at hm
  replace hx := hx.frame st9 (by unfold two; omega)
  replace hy := hy.frame st9 (by unfold two; omega)
  replace st := st.trans (st9.mono (h2 2))
  refine split_sp hm (by omega) 1 fun w10 st10 hm => ?_
  rw [e5] at hm
  replace hx := hx.frame st10 (by unfold only; omega)
  replace hy := hy.frame st10 (by unfold only; omega)
  replace st := st.trans (st10.mono (h1 2))
  refine deliver_sp hm (by omega) 0 fun c11 w11 st11 hm => ?_
  rw [e6] at hm ⊢
  replace hx := hx.frame st11 (by unfold two; omega)
  replace hy := hy.frame st11 (by unfold two; omega)
  replace st := st.trans (st11.mono (h2 2))
  simp only [ofPkt, ext_2_0, ext_2_1]
  refine alloc_store_p (j + 6) c11 _ fun c12 b12 w12 st12 _ => ?_
  replace hm := hm.frame st12 (fun h => h) (fun h => h)
  replace hx := hx.frame st12 (fun h => h)
  replace hy := hy.frame st12 (fun h => h)
  replace st := st.trans st12.none
  refine count_sp hm ?_
  simp only [bin_eql]
  refine split_sp hm (by omega) 3 fun w13 st13 hm => ?_
  rw [e7] at hm
  replace hx := hx.frame st13 (by unfold only; omega)
  replace hy := hy.frame st13 (by unfold only; omega)
  replace st := st.trans (st13.mono (h1 2))
  refine send_sp hm (by omega) 0 1 _ fun c14 w14 st14 hm => ?_
  rw [e8] at hm ⊢
  replace hx := hx.frame st14 (by unfold two; omega)
  replace hy := hy.frame st14 (by unfold two; omega)
  replace st := st.trans (st14.mono (h2 2))
  refine send_sp hm (by omega) 1 2 _ fun c15 w15 st15 hm => ?_
  rw [e9] at hm ⊢
  replace hx := hx.frame st15 (by unfold two; omega)
  replace hy := hy.frame st15 (by unfold two; omega)
  replace st := st.trans (st15.mono (h2 2))
  simp only [bin_eql, decide_true, ifB_true, load_p hx, build_pkt, eq_pkt, field_addr TK1, field_addr TK2, ld_sc TI (Blk.cell hy (o := 1) (v := .int .i64 1) rfl), ld_sc TStr (Blk.cell hy (o := 2) (v := .string ⟨#[97]⟩) rfl), bin_eql_str, toList_inj, List.length_nil, Int.natCast_zero]
  refine hear_sp hm 0 1 ?_
  rw [e10, ifB_true]
  refine hear_sp hm.tick 1 2 ?_
  rw [e11]
  simp only [un_not, Bool.not_false]
  exact k c15 _ (st.ticked.ticked.hide fun k hk e => by have := hfr k hk; have : j ≤ c k := e; omega)

end
end Go.Proofs.Ytollnmlnpngmfaa
