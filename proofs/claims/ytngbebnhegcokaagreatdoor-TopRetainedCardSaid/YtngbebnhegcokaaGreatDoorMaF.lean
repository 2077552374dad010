/-
  Part 6 of the proof that TopRetained holds, for the parts that follow; made small by program out of longer texts. No condition.
-/
import Derived.Test.YtngbebnhegcokaaGreatDoorMaE
namespace Go.Proofs.YtngbebnhegcokaaGreatDoor
open Go.Proofs.Tryz (prog)
open Go.RowKit
set_option maxRecDepth 100000
section
variable {P:Program} {Kp:Value→Prop} {B:Base} {w:World} {σ:List Dat} {b:Nat} {s:St} {T:TypeId}
theorem Gw0(h:Rel B w σ)(i:Nat)(hi:σ[i]? = some (U7 b s))(hs:scB P T=true):Y0 P (X0 T (.pointer (some ⟨b,0,none⟩))) w Kp=Kp (.int .i64 s.part):=by
 obtain⟨v,L,_,_,h3,_⟩:=U7.read (h.here hi)
 exact O1.ld h3 hs rfl
theorem EB(h:Rel B w σ)(i:Nat)(hi:σ[i]? = some (U7 b s))(hs:scB P T=true):Is P (X0 T (.pointer (some ⟨b,0,none⟩))) (.int .i64 s.part) w:=by
 obtain⟨v,L,_,_,h3,_⟩:=U7.read (h.here hi)
 exact O1.is h3 hs rfl
end
section
variable {B:Base} {w:World} {σ:List Dat}
theorem Ew0{b:Nat}{s:St}(hB:qC B)(hs:wQ b s B)(hR:tT s):Gives prog B (Z0 pK #[ptr b]) (.string (ofL (df0 s))):=by
 refine Gives.Ef0 fun B' w K base h start k=>?_
 replace hB:=base hB
 obtain⟨v,L,he,ho,hc,r,q⟩:=hs
 replace hc:=base hc
 replace r:=base r
 replace q:sM L B':=base q
 refine XI.up ?_
 unfold XI.pt
 have hlen:(l_ L).length=s.events.length:=CK he
 have hcount:=hR.count
 have hfi:=hR.first
 have hho:=hR.horz
 have hall:=xE evB s.events 5000 fun e hx=>Ss0 (hR.good e hx)
 refine h.alloc PG fun bb w1 h=>?_
 have h:=start w1 bb h
 have h:=h.tick
 have hin:inI (s.events.length:Int):=⟨by omega,by omega⟩
 have f1:inI s.first:=⟨by omega,by omega⟩
 have f2:inI s.horizon:=⟨by omega,by omega⟩
 have l1:=Q6 hR.part
 have l2:=Q6 f1
 have l3:=Q6 f2
 have l4:=Q6 hin
 have en:sd0 (s.events.length:Int)=encI s.events.length:=by unfold sd0;rw[if_neg (by omega)]
 have ld:∀{w:World} {σ:List Dat} {o:Nat} {T:TypeId} {x:Value} {Kp:Value→Prop},Rel B' w σ→scB prog T=true→(#[Value.int .i64 s.part,.int .i64 s.first,.int .i64 s.horizon,v.1]:Array Value).toList[o]? = some x→Y0 prog (X0 T (.pointer (some ⟨b,o,none⟩))) w Kp=Kp x:=fun h ht hx=>O1.ld (h.L6 hc) ht hx
 have is:∀{w:World} {σ:List Dat} {o:Nat} {T:TypeId} {x:Value},Rel B' w σ→scB prog T=true→(#[Value.int .i64 s.part,.int .i64 s.first,.int .i64 s.horizon,v.1]:Array Value).toList[o]? = some x→Is prog (X0 T (.pointer (some ⟨b,o,none⟩))) x w:=fun h ht hx=>O1.is (h.L6 hc) ht hx
 have lenIs:∀{w:World} {σ:List Dat},Rel B' w σ→Is prog (M5 .len #[M4] Q0 #[false] #[v.1]) (.int .i64 s.events.length) w:=fun _=>bz0 fun {K}=>by rw[O4.len r u7,hlen]
 simp -zeta only[J5,U0 eP,U0 mF,U0 gL,U0 XA,Nat.add_zero,Nat.zero_add]
 rw[ld h Y2 (o:=0) rfl,ld h Y2 (o:=1) rfl,ld h Y2 (o:=2) rfl,ld h q9 (o:=3) rfl,O4.len r u7,hlen]
 refine h.ask (fun B2 own base2=>wC (base2 hB) hR.part) fun w2 h=>?_
 refine⟨lenIs h,is h q9 (o:=3) rfl,is h Y2 (o:=2) rfl,is h Y2 (o:=1) rfl,?_⟩
 refine h.ask (fun B2 own base2=>wC (base2 hB) f1) fun w3 h=>?_
 refine⟨lenIs h,is h q9 (o:=3) rfl,is h Y2 (o:=2) rfl,?_⟩
 rw[C9 (by omega)]
 refine h.ask (fun B2 own base2=>wC (base2 hB) f2) fun w4 h=>?_
 refine⟨lenIs h,is h q9 (o:=3) rfl,?_⟩
 rw[C9 (by simp only[List.length_append];omega)]
 refine h.ask (fun B2 own base2=>oh0 (base2 hB) hin) fun w5 h=>?_
 rw[en,C9 (by simp only[List.length_append];omega)]
 refine h.VN (Nat.le_refl _) (by rw[Q_];simp only[List.length_append,List.length_nil];omega) fun _ w6 h=>?_
 rw[GI,List.nil_append] at h
 rw[ld h q9 (o:=3) rfl,O4.len r u7,hlen]
 unfold df0 at k
 generalize hhd:(((encI s.part++encI s.first)++encI s.horizon)++encI s.events.length)=hd at *
 have hhl:hd.length≤84:=by rw[←hhd];simp only[List.length_append];omega
 refine F6 (fun x w'=>∃i:Nat,i≤s.events.length∧x=(.int .i64 i,())∧Rel B' w' [bP B'.W.heap.size bb (hd++(s.events.take i).flatMap evB)]) (fun x _=>s.events.length-(match x.1 with | .int _ n=>n.toNat | _=>0))
  ⟨0,Nat.zero_le _,rfl,by simpa using h⟩ ?_
 clear h
 rintro x w7 ⟨i,hi,rfl,h⟩ next hnext
 simp -zeta only[G6,K3]
 refine⟨fun hlt=>?_,fun hge=>?_⟩
 ·have hil:i<s.events.length:=by omega
  have hiL:i<L.length:=by rw[←he,evs,List.length_map] at hil;exact hil
  obtain⟨g,o,hx,hcl⟩:=O4.idx r u7 (P:=prog) (i:=i) (by rw[hlen];exact hil)
  have hev:s.events[i]=L[i].1:=by
   have:s.events[i]? = (evs L)[i]? := by rw[he]
   rw[List.getElem?_eq_getElem hil,evs,List.getElem?_map,List.getElem?_eq_getElem hiL] at this
   injection this
  have hraw:(l_ L)[i]'(by rw[hlen];exact hil)=L[i].1.raw L[i].2:=by simp [l_]
  rw[hraw] at hcl
  have hcl:K6 g o (L[i].1.raw L[i].2).cs B':=hcl
  have hq:O4 L[i].2.1 L[i].1.row B':=q _ (List.getElem_mem hiL)
  have hgd:=hR.good s.events[i] (List.getElem_mem hil)
  rw[hev] at hgd
  have hstep:=jI evB hil
  have hle:=QE evB s.events (i+1)
  rw[hstep,List.length_append,hev] at hle
  rw[hev] at hstep
  generalize L[i].1=e at *
  generalize L[i].2=ev at *
  have hsrc:=hgd.src
  have hrl:=wY hgd.len.1 hgd.len.2 hgd.vals
  have a1:=wE (bl e.source) (by omega)
  have a2:=Q6 hgd.schema
  have a3:=Q6 hgd.time
  have a4:=wE (dG e.row) (by omega)
  rw[hx,K6.r9 (h.L6 hcl) Y8 rfl]
  refine h.R8 (ds:=(e.raw ev).cs.toArray) TC rfl Y8 rfl (fun v hv=>Enc.one (e.raw ev) v hv) fun a w9 h=>?_
  have h:Rel B' w9 [bP B'.W.heap.size bb (hd++(s.events.take i).flatMap evB),O1 a Q3 (e.raw ev).cs.toArray]:=h
  have h:=h.tick
  simp -zeta only[U0 ET,U0 FT,U0 tJ,U0 lM,Nat.add_zero,Nat.zero_add]
  rw[h.ld 1 rfl U6 (o:=2) (v := .string e.source) rfl,h.ld 1 rfl Y2 (o:=3) (v := .int .i64 e.schema) rfl,h.ld 1 rfl Y2 (o:=4) (v := .int .i64 e.time) rfl,h.ld 1 rfl H7 (o:=5) (v:=ev.1) rfl]
  have es:e.source=ofL (bl e.source):=(fV e.source).symm
  refine h.ask (v := .string (ofL (yB (bl e.source)))) (fun B2 own base2=>by have:=gT (B:=B2) (base2 hB) (s:=bl e.source) (by omega);rw[←es] at this;exact this) fun w10 h=>?_
  refine⟨h.is 1 rfl H7 (o:=5) rfl,h.is 1 rfl Y2 (o:=4) rfl,h.is 1 rfl Y2 (o:=3) rfl,?_⟩
  refine h.ask (fun B2 own base2=>wC (base2 hB) hgd.schema) fun w11 h=>?_
  refine⟨h.is 1 rfl H7 (o:=5) rfl,h.is 1 rfl Y2 (o:=4) rfl,?_⟩
  rw[C9 (by omega)]
  refine h.ask (fun B2 own base2=>wC (base2 hB) hgd.time) fun w12 h=>?_
  refine⟨h.is 1 rfl H7 (o:=5) rfl,?_⟩
  rw[C9 (by simp only[List.length_append];omega)]
  refine h.ask (fun B2 own base2=>Og0 (base2 hB) (base2 hq) (by have:=hgd.len.1;omega) fun v hv=>⟨hgd.vals v hv,by have:=hgd.len.2 v hv;omega⟩) fun w13 h=>?_
  refine h.ask (fun B2 own base2=>gT (base2 hB) (by omega)) fun w14 h=>?_
  rw[C9 (by simp only[List.length_append];omega)]
  have hevl:(evB e).length=(yB (bl e.source)).length+(encI e.schema).length+(encI e.time).length+(yB (dG e.row)).length:=by unfold evB;simp only[List.length_append]
  refine(h.take 1).VN (Nat.le_refl _) (by rw[Q_];simp only[List.length_append];omega) fun _ w15 h=>?_
  rw[GI] at h
  rw[Z5,E5 (by omega) (by omega)]
  refine hnext _ _ ⟨i+1,hil,rfl,?_⟩ (by simp only;omega)
  rw[hstep,←List.append_assoc]
  exact h
 ·refine h.gU (Nat.le_refl _) fun w7 h=>?_
  have hie:i=s.events.length:=by omega
  subst hie
  rw[List.take_length]
  exact k _ _ h
theorem iB0 (hB : qC B) {t : Bs} (ht : t.length ≤ 1099511627776) : Makes prog B (Z0 kT #[.string (ofL t)]) fun u τ => (∃ s b, GY t = some s ∧ u = .tuple #[ptr b, .bool true] ∧ τ = [U7 b s]) ∨ (GY t = none ∧ u = .tuple #[.pointer none, .bool false] ∧ τ = []) := by
  refine Makes.intro fun B' w K base h k => ?_
  replace hB := base hB
  refine aT.up ?_
  unfold aT.pt
  refine h.make (fun B2 own base2 => WT) fun u τ w1 hp h => ?_
  obtain ⟨p, rfl, rfl⟩ := hp
  have h : Rel B' w1 [rdD p ⟨t, false⟩] := h
  have no : GY t = none → ∀ w' τ, Rel B' w' τ → K (.tuple #[.pointer none, .bool false]) w' := fun hn w' τ h => k _ _ _ (.inr ⟨hn, rfl, rfl⟩) h.nil
  have yes : ∀ s b, GY t = some s → ∀ w', Rel B' w' [U7 b s] → K (.tuple #[ptr b, .bool true]) w' := fun s b h1 w' h => k _ _ _ (.inl ⟨s, b, h1, rfl, rfl⟩) h
  clear k
  unfold GY at no yes
  have hsn : WK ⟨t, false⟩ := fun hb => by cases hb
  have q1 := YD ⟨t, false⟩
  have q2 := YD (H5 ⟨t, false⟩).2
  have q3 := YD (H5 (H5 ⟨t, false⟩).2).2
  have q4 := Wd0 (H5 (H5 (H5 ⟨t, false⟩).2).2).2
  have q0 : (⟨t, false⟩ : RS).rest.length = t.length := rfl
  have s4 := ab0 (iG (iG (iG hsn)))
  have i1 : inI (H5 ⟨t, false⟩).1 := (zB (.inl rfl : bE 59) aG0 ⟨t, false⟩).2.1
  have i2 : inI (H5 (H5 ⟨t, false⟩).2).1 := (zB (.inl rfl : bE 59) aG0 (H5 ⟨t, false⟩).2).2.1
  have i3 : inI (H5 (H5 (H5 ⟨t, false⟩).2).2).1 := (zB (.inl rfl : bE 59) aG0 (H5 (H5 ⟨t, false⟩).2).2).2.1
  have n0 : 0 ≤ (qE (H5 (H5 (H5 ⟨t, false⟩).2).2).2).1 := (zB (.inl rfl : bE 59) 0 (H5 (H5 (H5 ⟨t, false⟩).2).2).2).2.2 (Int.le_refl 0)
  refine h.rd_ 0 rfl (fun B2 own base2 => mD (base2 hB) (by omega)) fun w2 h => ?_
  refine h.make (fun B2 own base2 => Tz0 _) fun u τ w3 hp h => ?_
  obtain ⟨b, rfl, rfl⟩ := hp
  refine h.rd_ 0 rfl (fun B2 own base2 => mD (base2 hB) (by omega)) fun w4 h => ?_
  refine h.rd_ 0 rfl (fun B2 own base2 => mD (base2 hB) (by omega)) fun w5 h => ?_
  have hdef : wZ ⟨t, false⟩ = ((((( H5 ⟨t, false⟩).1, (H5 (H5 ⟨t, false⟩).2).1), (H5 (H5 (H5 ⟨t, false⟩).2).2).1), (qE (H5 (H5 (H5 ⟨t, false⟩).2).2).2).1), (qE (H5 (H5 (H5 ⟨t, false⟩).2).2).2).2) := rfl
  rw [hdef] at no yes
  simp only at no yes
  have hn4 : ∀ {K : PtK} {w : World} {σ : List Dat}, Rel B' w (rdD p (H5 (H5 (H5 ⟨t, false⟩).2).2).2 :: σ) → (∀ w', Rel B' w' (rdD p (qE (H5 (H5 (H5 ⟨t, false⟩).2).2).2).2 :: σ) → K (.int .i64 (qE (H5 (H5 (H5 ⟨t, false⟩).2).2).2).1) w') → upK prog (Z0 qA #[uS p]) w K := fun h kk =>
    h.rd_ 0 rfl (fun B2 own base2 => EY (base2 hB) (by omega)) fun w' h => kk w' h
  have h : Rel B' w5 [rdD p (H5 (H5 (H5 ⟨t, false⟩).2).2).2, U7 b ⟨(H5 ⟨t, false⟩).1, 0, 0, []⟩] := h
  have e4 : (qE (H5 (H5 (H5 ⟨t, false⟩).2).2).2).2.rest.length ≤ t.length := by omega
  generalize (qE (H5 (H5 (H5 ⟨t, false⟩).2).2).2) = nn at *
  generalize (H5 (H5 (H5 ⟨t, false⟩).2).2) = hh at *
  generalize (H5 (H5 ⟨t, false⟩).2) = ff at *
  generalize (H5 ⟨t, false⟩) = pp at *
  obtain ⟨n, r4⟩ := nn
  obtain ⟨hz, r3⟩ := hh
  obtain ⟨f, r2⟩ := ff
  obtain ⟨pt, r1⟩ := pp
  simp only at no yes h hn4 s4 e4 i1 i2 i3 n0
  obtain ⟨⟨v0, L0⟩, h⟩ := h.ex (i := 1) rfl
  obtain ⟨⟨hL0, _⟩, h⟩ := h.VS (i := 1) rfl
  have h := Rel.split (i := 1) h rfl
  have h := Rel.split (i := 2) h rfl
  have h := h.pick [1, 2, 3, 0] (by decide)
  have h : Rel B' w5 [XL b ⟨pt, 0, 0, []⟩ v0.1, Y3 Q3 v0.1 (l_ L0), sM L0, rdD p r3] := h
  simp -zeta only [J5, U0 eP, U0 mF, U0 gL, U0 XA, Nat.add_zero, Nat.zero_add]
  refine h.st 0 rfl Y2 (show 1 < 4 by omega) rfl fun w6 h => ?_
  refine h.st 0 rfl Y2 (show 2 < 4 by omega) rfl fun w7 h => ?_
  have h : Rel B' w7 [XL b ⟨pt, f, hz, []⟩ v0.1, Y3 Q3 v0.1 (l_ L0), sM L0, rdD p r3] := h
  refine hn4 (h.pick [3, 0, 1, 2] (by decide)) fun w8 h => ?_
  have h := h.tick
  have h : Rel B' (tick w8) [rdD p r4, XL b ⟨pt, f, hz, []⟩ v0.1, Y3 Q3 v0.1 (l_ L0), sM L0] := h
  simp -zeta only [h.ld 1 rfl Y2 (o := 1) (v := .int .i64 f) rfl, h.ld 1 rfl Y2 (o := 2) (v := .int .i64 hz) rfl]
  unfold Ud0 at no yes
  simp only at no yes
  rw [G6, K3]
  refine ⟨fun c => no (if_pos (by rw [decide_eq_true c]; simp)) _ _ h, fun c1 => ?_⟩
  rw [x9, K3]
  refine ⟨fun c => no (if_pos (by rw [decide_eq_true c]; simp)) _ _ h, fun c2 => ?_⟩
  rw [G6, K3]
  refine ⟨fun c => no (if_pos (by rw [decide_eq_true c]; simp)) _ _ h, fun c3 => ?_⟩
  rw [x9, K3]
  refine ⟨fun c => no (if_pos (by rw [decide_eq_true c]; simp)) _ _ h, fun c4 => ?_⟩
  rw [F7, F7, uk0 Zw0, G5, R5]
  refine ⟨fun c5 => ?_, fun c => no (if_pos (by have : (decide (hz = 0) != decide (f = 0)) = true := by rw [bne, c]; rfl
                                                rw [this]; simp)) _ _ h⟩
  rw [x9, K3]
  refine ⟨fun c => no (if_pos (by rw [decide_eq_true c]; simp)) _ _ h, fun c6 => ?_⟩
  have hbad : ¬ (decide (f < 0) || decide (1152921504606846976 < f) || decide (hz < 0) || decide (1099511627777 < hz) || (decide (hz = 0) != decide (f = 0)) || decide (2000 < n)) = true := by
    have : (decide (hz = 0) != decide (f = 0)) = false := by rw [bne, c5]; rfl
    rw [this, decide_eq_false c1, decide_eq_false c2, decide_eq_false c3, decide_eq_false c4, decide_eq_false c6]; decide
  rw [if_neg hbad] at no yes
  obtain ⟨m, rfl⟩ : ∃ m : Nat, n = m := ⟨n.toNat, by omega⟩
  rw [Int.toNat_natCast] at no yes
  have h := h.pick [1, 2, 3, 0] (by decide)
  have h : Rel B' (tick w8) [XL b ⟨pt, f, hz, []⟩ v0.1, Y3 Q3 v0.1 (l_ L0), sM L0, rdD p r4] := h
  have h := zN h hL0 ⟨by show 0 ≤ f; omega, by show f ≤ _; omega, Nat.zero_le _, fun e he => (by cases he)⟩
  clear c5 hbad hn4
  refine F6 (fun x w' => ∃ (i : Nat) (s : St) (r : RS), i ≤ m ∧ x = (.int .i64 i, ()) ∧ IP (m - i) s r = IP m ⟨pt, f, hz, []⟩ r4 ∧ WK r ∧ r.rest.length ≤ t.length ∧ s.part = pt ∧ Rel B' w' [U7 b s, rdD p r]) (fun x _ => m - (match x.1 with | .int _ n => n.toNat | _ => 0))
    ⟨0, ⟨pt, f, hz, []⟩, r4, Nat.zero_le _, rfl, rfl, s4, by omega, rfl, h⟩ ?_
  clear h
  rintro x w9 ⟨i, s, r, hi, rfl, hev, hsa, hrl, hpt, h9⟩ next hnext
  rw [G6, K3]
  refine ⟨fun hlt => ?_, fun hge => ?_⟩
  case refine_2 =>
    have e0 : m - i = 0 := by omega
    rw [e0, IP] at hev
    refine h9.ask (fun B2 own base2 => dR (own (i := 1) rfl)) fun w8 h => ?_
    rw [V7, G5, R5]
    refine ⟨fun cd => ?_, fun cd => no (by rw [← hev]; exact if_neg (by rw [cd]; decide)) _ _ h⟩
    exact yes s b (by rw [← hev]; exact if_pos cd) _ (h.pick [0] (by decide))
  obtain ⟨k, hk⟩ : ∃ k, m - i = k + 1 := ⟨m - i - 1, by omega⟩
  rw [hk, IP] at hev
  subst hpt
  have z1 := AU r
  have z2 := YD (D8 r).2
  have z3 := YD (H5 (D8 r).2).2
  have z4 := AU (H5 (H5 (D8 r).2).2).2
  have z5 := TY hsa
  have z6 := TY (iG (iG z5))
  have rev : evR r = ((((((D8 r).1), (H5 (D8 r).2).1), (H5 (H5 (D8 r).2).2).1), (D8 (H5 (H5 (D8 r).2).2).2).1), (D8 (H5 (H5 (D8 r).2).2).2).2) := rfl
  rw [rev] at hev
  simp only at hev
  have rd1 : ∀ {K : PtK} {w : World} {σ : List Dat}, Rel B' w (U7 b s :: rdD p r :: σ) → (∀ w', Rel B' w' (U7 b s :: rdD p (D8 r).2 :: σ) → K (.string (ofL (D8 r).1)) w') → upK prog (Z0 y8 #[uS p]) w K := fun h kk => h.rd_ 1 rfl (fun B2 own base2 => iR (base2 hB) (by omega)) kk
  have rd2 : ∀ {K : PtK} {w : World} {σ : List Dat}, Rel B' w (U7 b s :: rdD p (D8 r).2 :: σ) → (∀ w', Rel B' w' (U7 b s :: rdD p (H5 (D8 r).2).2 :: σ) → K (.int .i64 (H5 (D8 r).2).1) w') → upK prog (Z0 Q4 #[uS p]) w K := fun h kk => h.rd_ 1 rfl (fun B2 own base2 => mD (base2 hB) (by omega)) kk
  have rd3 : ∀ {K : PtK} {w : World} {σ : List Dat}, Rel B' w (U7 b s :: rdD p (H5 (D8 r).2).2 :: σ) → (∀ w', Rel B' w' (U7 b s :: rdD p (H5 (H5 (D8 r).2).2).2 :: σ) → K (.int .i64 (H5 (H5 (D8 r).2).2).1) w') → upK prog (Z0 Q4 #[uS p]) w K := fun h kk => h.rd_ 1 rfl (fun B2 own base2 => mD (base2 hB) (by omega)) kk
  have rd4 : ∀ {K : PtK} {w : World} {σ : List Dat}, Rel B' w (U7 b s :: rdD p (H5 (H5 (D8 r).2).2).2 :: σ) → (∀ w', Rel B' w' (U7 b s :: rdD p (D8 (H5 (H5 (D8 r).2).2).2).2 :: σ) → K (.string (ofL (D8 (H5 (H5 (D8 r).2).2).2).1)) w') → upK prog (Z0 y8 #[uS p]) w K := fun h kk => h.rd_ 1 rfl (fun B2 own base2 => iR (base2 hB) (by omega)) kk
  have z7 : (D8 (H5 (H5 (D8 r).2).2).2).1.length ≤ t.length := by omega
  have z8 : (D8 (H5 (H5 (D8 r).2).2).2).2.rest.length ≤ t.length := by omega
  clear z1 z2 z3 z4 rev
  generalize D8 (H5 (H5 (D8 r).2).2).2 = y4 at *
  generalize H5 (H5 (D8 r).2).2 = y3 at *
  generalize H5 (D8 r).2 = y2 at *
  generalize D8 r = y1 at *
  obtain ⟨x4, q4⟩ := y4
  obtain ⟨x3, q3⟩ := y3
  obtain ⟨x2, q2⟩ := y2
  obtain ⟨x1, q1⟩ := y1
  simp only at hev rd1 rd2 rd3 rd4 z5 z6 z7 z8
  refine P6 fun J1 hJ1 => ?_
  replace hJ1 : ∀ e7 w', Rel B' w' [U7 b s, rdD p q3, O1 e7 Q3 ((⟨s.part, s.next, ofL x1, x2, x3, ⟨.slice none 0 0, rfl⟩⟩ : Y7).cs.toArray)] → J1 (.pointer (some ⟨e7, 0, none⟩), ()) w' := fun e7 w' h => by
    refine hJ1 _ _ ?_
    refine rd4 h fun w11 h => ?_
    refine h.make (fun B2 own base2 => Aj0 (base2 hB) (by omega)) fun u τ w12 hp h => ?_
    simp -zeta only [U0 lM, Nat.zero_add]
    rcases hp with ⟨row, v, hrow, rfl, rfl⟩ | ⟨hn, rfl, rfl⟩
    · simp -zeta only [M9, D9]
      have h : Rel B' w12 [U7 b s, rdD p q4, O1 e7 Q3 ((⟨s.part, s.next, ofL x1, x2, x3, ⟨.slice none 0 0, rfl⟩⟩ : Y7).cs.toArray), Y3 R3 v row] := h
      have hv1 : v.oneCell' = true := h.oneCell (i := 3) rfl
      refine h.st 2 rfl H7 (show 5 < 6 by omega) hv1 fun w13 h => ?_
      rw [V7, Bool.not_true, d_]
      have h : Rel B' w13 [U7 b s, rdD p q4, O1 e7 Q3 (((⟨s.part, s.next, ofL x1, x2, x3, row⟩ : Ev).raw ⟨v, hv1⟩).cs.toArray), Y3 R3 v row] := h
      rw [h.r9 2 rfl Y8 rfl]
      rw [hrow] at hev
      simp only at hev
      obtain ⟨g1, g2⟩ := Rl0 hrow
      have hg := Be0 s ⟨s.part, s.next, ofL x1, x2, x3, row⟩
      refine h.act 0 rfl (fun B2 own base2 => rx0 ⟨s.part, s.next, ofL x1, x2, x3, row⟩ ⟨v, hv1⟩ (Y3.read (own (j := 3) (by decide) rfl)) fun y hy => by have := (g2 y hy).s; rw [B_] at this; exact this) fun u e' τ w14 hp h => ?_
      obtain ⟨rfl, rfl, rfl⟩ := hp
      rw [Q7, G5, K3]
      refine ⟨fun c => ?_, fun c => no (by rw [← hev]; exact if_neg c) _ _ h⟩
      rw [if_pos c] at hev
      rw [Z5, E5 (by omega) (by omega)]
      refine hnext _ _ ⟨i + 1, _, q4, by omega, rfl, by rw [show m - (i + 1) = k by omega]; exact hev, z6, z8, ?_, h.pick [0, 1] (by decide)⟩ (by simp only; omega)
      rcases hg with ⟨_, hg, _⟩ | ⟨_, hg⟩ <;> rw [hg]
    · simp -zeta only [M9, D9]
      have h : Rel B' w12 [U7 b s, rdD p q4, O1 e7 Q3 ((⟨s.part, s.next, ofL x1, x2, x3, ⟨.slice none 0 0, rfl⟩⟩ : Y7).cs.toArray)] := h
      refine h.st 2 rfl H7 (show 5 < 6 by omega) rfl fun w13 h => ?_
      rw [V7, Bool.not_false, lC]
      rw [hn] at hev
      exact no hev.symm _ _ h
  have put : ∀ (e7 : Nat) (cs : Array Value) (w' : World), cs.size = 6 → Rel B' w' [U7 b s, rdD p q3, O1 e7 Q3 cs] →
      upK prog (I4 Q3 (.pointer (some ⟨e7, 0, none⟩)) ((⟨s.part, s.next, ofL x1, x2, x3, ⟨.slice none 0 0, rfl⟩⟩ : Y7).v)) w' fun _ w'' => J1 (.pointer (some ⟨e7, 0, none⟩), ()) w'' := fun e7 cs w' hcs h => by
    refine h.YG 2 (ds := (⟨s.part, s.next, ofL x1, x2, x3, ⟨.slice none 0 0, rfl⟩⟩ : Y7).cs.toArray) rfl Y8 rfl hcs (fun v hv => Enc.one (⟨s.part, s.next, ofL x1, x2, x3, ⟨.slice none 0 0, rfl⟩⟩ : Y7) v hv) fun w13 h => ?_
    exact hJ1 e7 _ h
  have bd : ∀ {Kp : Value → Prop}, M0 prog (H6 Q3 #[(0, .int .i64 s.part), (1, .int .i64 s.next), (2, .string (ofL x1)), (3, .int .i64 x2), (4, .int .i64 x3)]) Kp = Kp ((⟨s.part, s.next, ofL x1, x2, x3, ⟨.slice none 0 0, rfl⟩⟩ : Y7).v) := fun {Kp} => LU
  have nx : ∀ {K : PtK} {w : World} {σ : List Dat}, Rel B' w (U7 b s :: σ) → (∀ w', Rel B' w' (U7 b s :: σ) → K (.int .i64 s.next) w') → upK prog (Z0 v_ #[ptr b]) w K := fun h kk => h.ask (fun B2 own base2 => cb0 (U7.read (own (i := 0) rfl))) kk
  clear hJ1 hnext
  have h := h9.tick
  rw [Gw0 h 0 rfl Y2]
  refine ⟨?_, ?_⟩
  · refine nx h fun w15 h => ⟨EB h 0 rfl Y2, ?_, ?_⟩
    · refine rd1 h fun w16 h => ⟨EB h 0 rfl Y2, ?_, ?_⟩
      · refine rd2 h fun w17 h => ⟨EB h 0 rfl Y2, ?_, ?_⟩
        · refine rd3 h fun w18 h => ⟨EB h 0 rfl Y2, ?_⟩
          rw [bd]
          refine h.alloc TC fun e7 w19 h => ⟨EB h 0 rfl Y2, ?_⟩
          exact put e7 _ _ rfl h
        · refine h.alloc TC fun e7 w19 h => ⟨EB h 0 rfl Y2, ?_⟩
          refine rd3 h fun w18 h => ⟨EB h 0 rfl Y2, ?_⟩
          rw [bd]
          exact put e7 _ _ rfl h
      · refine h.alloc TC fun e7 w19 h => ⟨EB h 0 rfl Y2, ?_⟩
        refine rd2 h fun w17 h => ⟨EB h 0 rfl Y2, ?_⟩
        refine rd3 h fun w18 h => ⟨EB h 0 rfl Y2, ?_⟩
        rw [bd]
        exact put e7 _ _ rfl h
    · refine h.alloc TC fun e7 w19 h => ⟨EB h 0 rfl Y2, ?_⟩
      refine rd1 h fun w16 h => ⟨EB h 0 rfl Y2, ?_⟩
      refine rd2 h fun w17 h => ⟨EB h 0 rfl Y2, ?_⟩
      refine rd3 h fun w18 h => ⟨EB h 0 rfl Y2, ?_⟩
      rw [bd]
      exact put e7 _ _ rfl h
  · refine h.alloc TC fun e7 w19 h => ⟨EB h 0 rfl Y2, ?_⟩
    refine nx h fun w15 h => ⟨EB h 0 rfl Y2, ?_⟩
    refine rd1 h fun w16 h => ⟨EB h 0 rfl Y2, ?_⟩
    refine rd2 h fun w17 h => ⟨EB h 0 rfl Y2, ?_⟩
    refine rd3 h fun w18 h => ⟨EB h 0 rfl Y2, ?_⟩
    rw [bd]
    exact put e7 _ _ rfl h
end
section
variable {B:Base}
theorem ig0.read{σ:List Dat}{u:Value}{L':EvL}{B2:Base}(own:∀{i:Nat} {d:Dat},(σ++Y3 Q3 u (l_ L') :: L'.map dN)[i]? = some d→d B2):sy0 u L' B2:=by
 refine⟨Y3.read (E:=Q3) (own (i:=σ.length) (by rw[List.getElem?_append_right (Nat.le_refl _)];simp)),fun p hp=>?_⟩
 obtain⟨m,hm,rfl⟩:=List.getElem_of_mem hp
 have:dN L'[m] B2:=own (i:=σ.length+(m+1)) (by rw[List.getElem?_append_right (by omega)];simp [hm])
 exact Y3.read (E:=R3) (v:=L'[m].2.1) (l:=L'[m].1.row) this
end
theorem UpS:prog.underlying Y6=some (.pointer (prog.pointee Y6)):=by kernel_rfl
structure EnP where
 kind:Int
 producer:Int
 epoch:Int
 seq:Int
 source:ByteArray
 schema:Int
 time:Int
 row:List OD
 deriving DecidableEq
def EnP.raw(e:EnP)(v:SV):EnD:=⟨e.kind,e.producer,e.epoch,e.seq,e.source,e.schema,e.time,v⟩
def sW:EnP:=⟨4,0,0,0,⟨#[]⟩,0,0,[]⟩
def Aa0(e:EnP):Bs:=encI e.kind++encI e.producer++encI e.epoch++encI e.seq++yB (bl e.source)++encI e.schema++encI e.time++yB (dG e.row)
noncomputable def fr0(a:Int)(b:Int)(c:Int)(d:Int)(src:Bs)(e:Int)(f:Int)(x:Bs×RS):EnP:=match uO x.1 with
 | some r=>if aO x.2=true then⟨a,b,c,d,ofL src,e,f,r⟩ else sW
 | none=>sW
noncomputable def er0(a b c d:Int)(x:Bs×RS):EnP:=fr0 a b c d x.1 (H5 x.2).1 (H5 (H5 x.2).2).1 (D8 (H5 (H5 x.2).2).2)
noncomputable def dr0(x1 x2 x3 x4:Int×RS):EnP:=er0 x1.1 x2.1 x3.1 x4.1 (D8 x4.2)
noncomputable def vj0(t:Bs):EnP:=dr0 (H5 ⟨t,false⟩) (H5 (H5 ⟨t,false⟩).2) (H5 (H5 (H5 ⟨t,false⟩).2).2) (H5 (H5 (H5 (H5 ⟨t,false⟩).2).2).2)
structure WE0 (e:EnP):Prop where
 kind:inI e.kind
 producer:inI e.producer
 epoch:inI e.epoch
 seq:inI e.seq
 schema:inI e.schema
 time:inI e.time
 source:e.source.size≤1000
 len:e.row.length≤100
 row:∀v∈e.row,VK v∧(bl v.s).length≤1000
theorem am0{l:List OD}(hl:l.length≤100)(hg:∀v∈l,VK v∧(bl v.s).length≤1000):(dG l).length≤200000:=by
 unfold dG
 have h1:=Q6 (n:=(l.length:Int)) (by unfold inI;omega)
 have h2:=xE XR l 1100 fun v hv=>by
  obtain⟨h1,h2⟩:=hg v hv
  have:=Q6 h1.kind
  have:=Q6 h1.n
  have:=wE (bl v.s) (by omega)
  unfold XR
  rw[List.length_append,List.length_append]
  omega
 rw[List.length_append]
 omega
theorem yj0{e:EnP}(h:WE0 e):vj0 (Aa0 e)=e:=by
 have hr:=am0 h.len h.row
 have hs:(bl e.source).length≤1000:=by rw[aP];exact h.source
 have e1:Aa0 e=encI e.kind++(encI e.producer++(encI e.epoch++(encI e.seq++(yB (bl e.source)++(encI e.schema++(encI e.time++yB (dG e.row))))))):=by
  unfold Aa0
  simp only[List.append_assoc]
 unfold vj0
 rw[e1,yE h.kind]
 simp only
 rw[yE h.producer]
 simp only
 rw[yE h.epoch]
 simp only
 rw[yE h.seq]
 unfold dr0
 simp only
 rw[BR (by omega)]
 unfold er0
 simp only
 rw[yE h.schema]
 simp only
 rw[yE h.time]
 simp only
 have:=BR (t:=dG e.row) (by omega) []
 rw[List.append_nil] at this
 rw[this]
 unfold fr0
 simp only
 rw[Rc0 (by have:=h.len;omega) fun v hv=>(h.row v hv).1]
 simp only
 rw[if_pos (by rfl),pO]
def ksL:List Kn:=[⟨⟨#[115]⟩,1,[⟨⟨#[97]⟩,0,⟨#[]⟩⟩]⟩]
section
variable {B:Base} {w:World} {σ τ:List Dat} {K:PtK}
theorem Mc0:Makes prog B (Z0 BF #[]) fun u τ=>τ=[JA u ksL]:=by
 refine Makes.intro fun B' w K base h k=>?_
 refine gH.up ?_
 unfold gH.pt
 rw[sk0]
 refine h.XH (α:=Sw0) ⟨⟨#[97]⟩,0,⟨#[]⟩⟩ wO (by decide) fun v w1 h=>?_
 obtain⟨x,n,c,rfl⟩:=FW h 0 rfl
 rw[pY]
 refine h.XH (α:=KnD) ⟨⟨#[115]⟩,1,⟨.slice x n c,rfl⟩⟩ ND (by decide) fun v2 w2 h=>?_
 refine k _ _ _ rfl (Rel.wrap (σ:=[]) (c:=JA v2 ksL) h fun B2 own=>?_)
 refine⟨[(⟨⟨#[115]⟩,1,[⟨⟨#[97]⟩,0,⟨#[]⟩⟩]⟩,⟨.slice x n c,rfl⟩)],rfl,Y3.read (own (i:=1) rfl),fun q hq=>?_⟩
 rw[List.mem_singleton.1 hq]
 exact Y3.read (own (i:=0) rfl)
set_option maxHeartbeats 1000000 in
theorem QS(hB:VI B){e:EnP}{v:SV}(he:WE0 e)(q:O4 v.1 e.row B):Gives prog B (Z0 OB #[(e.raw v).v]) (.string (ofL (Aa0 e))):=by
 refine Gives.intro fun B' w K base h k=>?_
 replace hB:=base hB
 replace q:=base q
 refine fH.up ?_
 unfold fH.pt
 have hr:=am0 he.len he.row
 have hs:(bl e.source).length≤1000:=by rw[aP];exact he.source
 have l1:=Q6 he.kind
 have l2:=Q6 he.producer
 have l3:=Q6 he.epoch
 have l4:=Q6 he.seq
 have l5:=wE (bl e.source) (by omega)
 have l6:=Q6 he.schema
 have l7:=Q6 he.time
 have l8:=wE (dG e.row) (by omega)
 refine h.box fun o w1 h=>?_
 have h:Rel B' w1 [O1 o U1 (e.raw v).cs.toArray]:=h
 have h:=h.tick
 generalize tick w1=w1 at *
 simp -zeta only[U0 yT,U0 jM,U0 zT,U0 DT,U0 sJ,U0 kM,U0 UG,U0 aF,Nat.zero_add]
 rw[h.ld 0 rfl Y2 (o:=0) (v := .int .i64 e.kind) rfl,h.ld 0 rfl Y2 (o:=1) (v := .int .i64 e.producer) rfl,h.ld 0 rfl Y2 (o:=2) (v := .int .i64 e.epoch) rfl,h.ld 0 rfl Y2 (o:=3) (v := .int .i64 e.seq) rfl,h.ld 0 rfl U6 (o:=4) (v := .string e.source) rfl,h.ld 0 rfl Y2 (o:=5) (v := .int .i64 e.schema) rfl,h.ld 0 rfl Y2 (o:=6) (v := .int .i64 e.time) rfl,h.ld 0 rfl H7 (o:=7) (v:=v.1) rfl]
 have is:∀{w':World} {T:TypeId} {o':Nat} {x:Value},Rel B' w' [O1 o U1 (e.raw v).cs.toArray]→scB prog T=true→(e.raw v).cs.toArray.toList[o']? = some x→Is prog (X0 T (.pointer (some ⟨o,o',none⟩))) x w':=fun h ht hx=>h.is 0 rfl ht hx
 refine h.ask (fun B2 own base2=>wC (base2 hB) he.kind) fun w2 h=>?_
 refine⟨is h H7 rfl,is h Y2 rfl,is h Y2 rfl,is h U6 rfl,is h Y2 rfl,is h Y2 rfl,is h Y2 rfl,?_⟩
 refine h.ask (fun B2 own base2=>wC (base2 hB) he.producer) fun w2 h=>?_
 refine⟨is h H7 rfl,is h Y2 rfl,is h Y2 rfl,is h U6 rfl,is h Y2 rfl,is h Y2 rfl,?_⟩
 rw[C9 (by omega)]
 refine h.ask (fun B2 own base2=>wC (base2 hB) he.epoch) fun w2 h=>?_
 refine⟨is h H7 rfl,is h Y2 rfl,is h Y2 rfl,is h U6 rfl,is h Y2 rfl,?_⟩
 rw[C9 (by simp only[List.length_append];omega)]
 refine h.ask (fun B2 own base2=>wC (base2 hB) he.seq) fun w2 h=>?_
 refine⟨is h H7 rfl,is h Y2 rfl,is h Y2 rfl,is h U6 rfl,?_⟩
 rw[C9 (by simp only[List.length_append];omega)]
 refine h.ask (v := .string (ofL (yB (bl e.source)))) (fun B2 own base2=>by
  have:=gT (base2 hB) (s:=bl e.source) (by omega)
  rw[pO] at this
  exact this) fun w2 h=>?_
 refine⟨is h H7 rfl,is h Y2 rfl,is h Y2 rfl,?_⟩
 rw[C9 (by simp only[List.length_append];omega)]
 refine h.ask (fun B2 own base2=>wC (base2 hB) he.schema) fun w2 h=>?_
 refine⟨is h H7 rfl,is h Y2 rfl,?_⟩
 rw[C9 (by simp only[List.length_append];omega)]
 refine h.ask (fun B2 own base2=>wC (base2 hB) he.time) fun w2 h=>?_
 refine⟨is h H7 rfl,is h Y2 rfl,?_⟩
 rw[C9 (by simp only[List.length_append];omega)]
 refine h.ask (fun B2 own base2=>Og0 (base2 hB) (base2 q) (by have:=he.len;omega) fun x hx=>⟨(he.row x hx).1,by have:=(he.row x hx).2;omega⟩) fun w2 h=>?_
 refine⟨is h Y2 rfl,is h Y2 rfl,?_⟩
 refine h.ask (fun B2 own base2=>gT (base2 hB) (by omega)) fun w2 h=>?_
 refine⟨is h Y2 rfl,is h Y2 rfl,is h Y2 rfl,?_⟩
 rw[C9 (by simp only[List.length_append];omega)]
 exact k _ _ h.nil
end
def PE(L:List (EnP×SV)):List EnD:=L.map fun x=>x.1.raw x.2
def Os0(L:List (EnP×SV)):Dat:=Dat.all L fun x=>O4 x.2.1 x.1.row
def zP(e:EnP):Bool:=decide (e.row.length≤3)&&(decide (e.source.size≤20)&&e.row.all fun v=>decide (v.s.size≤20))
def qC0(l:List EnP)(n:Int):Bool:=decide ((l.length:Int)≤n)&&l.all zP
section
variable {B:Base} {w:World} {σ τ:List Dat} {K:PtK}
set_option maxHeartbeats 2000000 in
theorem Uf0(hB:qC B){t:Bs}(ht:t.length≤100000000):Makes prog B (Z0 nG #[.string (ofL t)]) fun u τ=>∃v:SV,u=((vj0 t).raw v).v∧τ=[Y3 R3 v.1 (vj0 t).row]:=by
 refine Makes.intro fun B' w K base h k=>?_
 replace hB:=base hB
 refine KI.up ?_
 unfold KI.pt
 refine h.alloc fQ fun t2 w1 h=>?_
 refine h.make (fun B2 own base2=>WT) fun u τ w2 hp h=>?_
 obtain⟨p,rfl,rfl⟩:=hp
 rw[LV]
 refine h.R8 (ds:=(sW.raw nC).cs.toArray) fQ rfl M8 rfl (fun v hv=>Enc.one (sW.raw nC) v hv) fun o4 w3 h=>?_
 have h:Rel B' w3 [O1 t2 U1 (((⟨0,0,0,0,⟨#[]⟩,0,0,[]⟩:EnP).raw nC).cs.toArray),rdD p ⟨t,false⟩,O1 o4 U1 (sW.raw nC).cs.toArray]:=h
 rw[OA md0,d_]
 have fail:vj0 t=sW→∀(s:RS) (ρ:List Dat) w',Rel B' w' ([O1 t2 U1 (((⟨0,0,0,0,⟨#[]⟩,0,0,[]⟩:EnP).raw nC).cs.toArray),rdD p s,O1 o4 U1 (sW.raw nC).cs.toArray]++ρ) →
   Y0 prog (X0 U1 (.pointer (some ⟨o4,0,none⟩))) w' fun t50=>upK prog (I4 U1 (.pointer (some ⟨t2,0,none⟩)) t50) w' fun _ w24=>U9 prog (do loadVar U1 (←asAddr (.pointer (some ⟨t2,0,none⟩)))) w24 fun t2_2=>K t2_2 w24:=by
  intro e s ρ w' h
  rw[e] at k
  have h:Rel B' w' [O1 t2 U1 (((⟨0,0,0,0,⟨#[]⟩,0,0,[]⟩:EnP).raw nC).cs.toArray),rdD p s,O1 o4 U1 (sW.raw nC).cs.toArray]:=h.drop
  rw[h.r9 2 rfl M8 rfl]
  refine h.YG 0 rfl M8 rfl rfl (fun v hv=>Enc.one (sW.raw nC) v hv) fun w8 h=>?_
  rw[qJ h 0 rfl M8 rfl]
  refine k _ _ _ ⟨nC,rfl,rfl⟩ ?_
  exact(h.nil).VC OD R3
 unfold vj0 at k fail
 have q1:(H5 ⟨t,false⟩).2.rest.length≤t.length:=YD ⟨t,false⟩
 refine h.rd_ 1 rfl (fun B2 own base2=>mD (base2 hB) (show t.length≤_ by omega)) fun w4 h=>?_
 generalize H5 ⟨t,false⟩=x1 at *
 rw[LV]
 refine h.R8 (ds:=((⟨x1.1,0,0,0,⟨#[]⟩,0,0,[]⟩:EnP).raw nC).cs.toArray) fQ rfl M8 rfl (fun v hv=>Enc.one ((⟨x1.1,0,0,0,⟨#[]⟩,0,0,[]⟩:EnP).raw nC) v hv) fun e5 w5 h=>?_
 simp -zeta only[U0 jM,U0 zT,U0 DT,U0 sJ,U0 kM,U0 UG,U0 aF,Nat.zero_add]
 have q2:=YD x1.2
 refine h.rd_ 1 rfl (fun B2 own base2=>mD (base2 hB) (by omega)) fun w6 h=>?_
 generalize H5 x1.2=x2 at *
 refine h.st 3 rfl Y2 (o:=1) (show 1<8 by omega) rfl fun w7 h=>?_
 have q3:=YD x2.2
 refine h.rd_ 1 rfl (fun B2 own base2=>mD (base2 hB) (by omega)) fun w6 h=>?_
 generalize H5 x2.2=x3 at *
 refine h.st 3 rfl Y2 (o:=2) (show 2<8 by omega) rfl fun w7 h=>?_
 have q4:=YD x3.2
 refine h.rd_ 1 rfl (fun B2 own base2=>mD (base2 hB) (by omega)) fun w6 h=>?_
 generalize H5 x3.2=x4 at *
 refine h.st 3 rfl Y2 (o:=3) (show 3<8 by omega) rfl fun w7 h=>?_
 have q5:=AU x4.2
 unfold dr0 at k fail
 refine h.rd_ 1 rfl (fun B2 own base2=>iR (base2 hB) (by omega)) fun w6 h=>?_
 generalize D8 x4.2=x5 at *
 refine h.st 3 rfl U6 (o:=4) (show 4<8 by omega) rfl fun w7 h=>?_
 unfold er0 at k fail
 have q6:=YD x5.2
 refine h.rd_ 1 rfl (fun B2 own base2=>mD (base2 hB) (by omega)) fun w6 h=>?_
 generalize H5 x5.2=x6 at *
 refine h.st 3 rfl Y2 (o:=5) (show 5<8 by omega) rfl fun w7 h=>?_
 have q7:=YD x6.2
 refine h.rd_ 1 rfl (fun B2 own base2=>mD (base2 hB) (by omega)) fun w6 h=>?_
 generalize H5 x6.2=x7 at *
 refine h.st 3 rfl Y2 (o:=6) (show 6<8 by omega) rfl fun w7 h=>?_
 have q8:=AU x7.2
 refine h.rd_ 1 rfl (fun B2 own base2=>iR (base2 hB) (by omega)) fun w6 h=>?_
 generalize D8 x7.2=x8 at *
 unfold fr0 at k fail
 have h:Rel B' w6 [O1 t2 U1 (((⟨0,0,0,0,⟨#[]⟩,0,0,[]⟩:EnP).raw nC).cs.toArray),rdD p x8.2,O1 o4 U1 (sW.raw nC).cs.toArray,O1 e5 U1 ((⟨x1.1,x2.1,x3.1,x4.1,ofL x5.1,x6.1,x7.1,[]⟩:EnP).raw nC).cs.toArray]:=h
 refine h.make (fun B2 own base2=>Aj0 (base2 hB) (t:=x8.1) (by omega)) fun u τ w8 hp h=>?_
 rcases hp with⟨r,v,er,rfl,rfl⟩ | ⟨er,rfl,rfl⟩
 ·rw[er] at k fail
  simp only at k fail
  rw[M9,D9]
  have hv:v.oneCell'=true:=h.oneCell (i:=4) rfl
  refine h.st 3 rfl H7 (o:=7) (show 7<8 by omega) hv fun w9 h=>?_
  have h:Rel B' w9 [O1 t2 U1 (((⟨0,0,0,0,⟨#[]⟩,0,0,[]⟩:EnP).raw nC).cs.toArray),rdD p x8.2,O1 o4 U1 (sW.raw nC).cs.toArray,O1 e5 U1 ((⟨x1.1,x2.1,x3.1,x4.1,ofL x5.1,x6.1,x7.1,r⟩:EnP).raw ⟨v,hv⟩).cs.toArray,Y3 R3 v r]:=h
  rw[V7,G5,R5]
  refine⟨fun _=>?_,fun c=>by cases c⟩
  refine h.ask (fun B2 own base2=>dR (own (i:=1) rfl)) fun w10 h=>?_
  rw[V7,G5,R5]
  refine⟨fun c=>?_,fun c=>?_⟩
  ·rw[if_pos c] at k
   rw[h.r9 3 rfl M8 rfl]
   refine h.YG 0 rfl M8 rfl rfl (fun x hx=>Enc.one ((⟨x1.1,x2.1,x3.1,x4.1,ofL x5.1,x6.1,x7.1,r⟩:EnP).raw ⟨v,hv⟩) x hx) fun w11 h=>?_
   rw[qJ h 0 rfl M8 rfl]
   exact k _ _ _ ⟨⟨v,hv⟩,rfl,rfl⟩ (h.pick [4] (by decide))
  ·exact fail (by rw[if_neg (by rw[c];decide)]) x8.2 _ _ h
 ·rw[er] at k fail
  simp only at k fail
  rw[M9,D9]
  refine h.st 3 rfl H7 (o:=7) (show 7<8 by omega) rfl fun w9 h=>?_
  rw[V7,G5,R5]
  refine⟨fun c=>(by cases c),fun _=>?_⟩
  exact fail trivial x8.2 _ _ h
theorem Mv0{v:Value}{L:List (EnP×SV)}(q:O4 v (PE L) B)(qs:Os0 L B)(hl:L.length≤9223372036854775807){n:Int}(hn:0≤n∧n≤1000000):Gives prog B (Z0 GL #[v,.int .i64 n]) (.bool (qC0 (L.map (·.1)) n)):=by
 refine Gives.intro fun B' w K base h k=>?_
 replace q:=base q
 replace qs:=base qs
 refine LJ.up ?_
 unfold LJ.pt
 have hel:(PE L).length=L.length:=List.length_map ..
 have hml:(L.map (·.1)).length=L.length:=List.length_map ..
 unfold qC0 at k
 rw[hml] at k
 refine P6 fun J hJ=>?_
 replace hJ:((∀i (hi:i<L.length),(i:Int)≤n→zP (L[i]).1=true))→∀w',Rel B' w' []→J () w':=by
  intro hall w' h
  refine hJ _ _ ?_
  rw[O4.len q iA,hel,WC]
  have e:(decide ((L.length:Int)≤n)&&(L.map (·.1)).all zP)=decide ((L.length:Int)≤n):=by
   by_cases c:(L.length:Int)≤n
   ·rw[decide_eq_true c,Bool.true_and,List.all_eq_true]
    intro x hx
    obtain⟨y,hy,rfl⟩:=List.mem_map.1 hx
    obtain⟨i,hi,rfl⟩:=List.getElem_of_mem hy
    exact hall i hi (by omega)
   ·rw[decide_eq_false c,Bool.false_and]
  rw[e] at k
  exact k _ _ h
 have bad:∀i (hi:i<L.length),zP (L[i]).1=false→∀w',Rel B' w' []→K (.bool false) w':=by
  intro i hi hb w' h
  have e:(decide ((L.length:Int)≤n)&&(L.map (·.1)).all zP)=false:=by
   have:(L.map (·.1)).all zP=false:=by
    rw[List.all_eq_false]
    exact⟨(L[i]).1,List.mem_map.2 ⟨L[i],List.getElem_mem hi,rfl⟩,by rw[hb];decide⟩
   rw[this,Bool.and_false]
  rw[e] at k
  exact k _ _ h
 clear k
 refine F6 (fun z w'=>∃i:Nat,i≤L.length∧z=(.int .i64 i,())∧(∀j (hj:j<L.length),j<i→zP (L[j]).1=true)∧Rel B' w' [])
  (fun z _=>L.length-(match z.1 with | .int _ n=>n.toNat | _=>0)) ⟨0,Nat.zero_le _,rfl,fun j _ hj=>absurd hj (by omega),h⟩ ?_
 clear h
 rintro z w1 ⟨i,hi,rfl,hal,h⟩ next hnext
 rw[O4.len q iA,hel,G6,K3]
 refine⟨fun hlt=>?_,fun hge=>hJ (fun j hj _=>hal j hj (by omega)) _ h⟩
 rw[WC,K3]
 refine⟨fun hle=>?_,fun hgt=>hJ (fun j hj hjn=>hal j hj (by omega)) _ h⟩
 have hil:i<L.length:=by omega
 have hil2:i<(PE L).length:=by omega
 refine P6 fun J2 hJ2=>?_
 replace hJ2:zP (L[i]).1=true→∀w',Rel B' w' []→J2 () w':=by
  intro hs w' h
  refine hJ2 _ _ ?_
  rw[Z5,E5 (by omega) (by omega)]
  refine hnext _ _ ⟨i+1,hil,rfl,fun j hj hji=>?_,h⟩ (by simp only;omega)
  by_cases c:j=i
  ·subst c;exact hs
  ·exact hal j hj (by omega)
 clear hnext
 obtain⟨g,o,hx,hc⟩:=O4.idx q iA (P:=prog) hil2
 have hc:K6 g o ((L[i]).1.raw (L[i]).2).cs B':=by
  have e:(PE L)[i]=(L[i]).1.raw (L[i]).2:=List.getElem_map ..
  rw[e] at hc
  exact hc
 have hrow:O4 (L[i]).2.1 (L[i]).1.row B':=qs _ (List.getElem_mem hil)
 have bad:=bad i hil
 clear hal hJ
 generalize L[i]=x at *
 obtain⟨e,rv⟩:=x
 simp only at hc hrow bad hJ2
 rw[hx,U0 aF,K6.ld (h.L6 hc) H7 (j:=7) (v:=rv.1) rfl,O4.len hrow Q8,x9,K3]
 unfold zP at bad hJ2
 refine⟨fun c=>bad (by rw[decide_eq_false (by omega),Bool.false_and]) _ h,fun c=>?_⟩
 rw[decide_eq_true (p:=e.row.length≤3) (by omega),Bool.true_and] at bad hJ2
 rw[hx,U0 sJ,K6.ld (h.L6 hc) U6 (j:=4) (v := .string e.source) rfl,LC K8,x9,K3]
 refine⟨fun c=>bad (by rw[decide_eq_false (by omega),Bool.false_and]) _ h,fun c=>?_⟩
 rw[decide_eq_true (p:=e.source.size≤20) (by omega),Bool.true_and] at bad hJ2
 refine F6 (fun z w'=>∃i:Nat,i≤e.row.length∧z=(.int .i64 i,())∧(∀j (hj:j<e.row.length),j<i→(e.row[j]).s.size≤20)∧Rel B' w' [])
  (fun z _=>e.row.length-(match z.1 with | .int _ n=>n.toNat | _=>0)) ⟨0,Nat.zero_le _,rfl,fun j _ hj=>absurd hj (by omega),h⟩ ?_
 clear h
 rintro z w1 ⟨k2,hk2,rfl,hal,h⟩ next hnext
 rw[hx,U0 aF,K6.ld (h.L6 hc) H7 (j:=7) (v:=rv.1) rfl,O4.len hrow Q8,G6,K3]
 refine⟨fun hlt=>?_,fun hge=>hJ2 (by
  rw[List.all_eq_true]
  intro y hy
  obtain⟨j,hj,rfl⟩:=List.getElem_of_mem hy
  exact decide_eq_true (hal j hj (by omega))) _ h⟩
 have hkl:k2<e.row.length:=by omega
 rw[hx,U0 aF,K6.ld (h.L6 hc) H7 (j:=7) (v:=rv.1) rfl]
 obtain⟨g2,o2,hx2,hc2⟩:=O4.idx hrow Q8 (P:=prog) hkl
 have hc2:K6 g2 o2 (e.row[k2]).cs B':=hc2
 rw[hx2,U0 mM,K6.ld (h.L6 hc2) U6 (j:=2) (v := .string (e.row[k2]).s) rfl,LC K8,x9,K3]
 refine⟨fun c=>bad (by
  rw[List.all_eq_false]
  exact⟨e.row[k2],List.getElem_mem hkl,by rw[decide_eq_false (by omega)];decide⟩) _ h,fun c=>?_⟩
 rw[Z5,E5 (by omega) (by omega)]
 refine hnext _ _ ⟨k2+1,hkl,rfl,fun j hj hji=>?_,h⟩ (by simp only;omega)
 by_cases c2:j=k2
 ·subst c2;omega
 ·exact hal j hj (by omega)
end
structure LS where
 x:IS
 s:St
 done:List EnD
def evL(pos:Int)(e:EnP):Ev:=⟨0,pos,e.source,e.schema,e.time,e.row⟩
def Gp0(l:LS)(e:EnP)(v:SV)(a:(Int×Int)×IS):LS×Bool :=
 if e.kind≠0∨a.1.2≠0 then({ l with x:=a.2 },true)
 else(⟨a.2,(pQ l.s (evL a.1.1 e)).2,l.done++[e.raw v]⟩,decide ((pQ l.s (evL a.1.1 e)).1=0))
def OE(l:LS)(e:EnP)(v:SV):LS×Bool:=Gp0 l e v (GD l.x (e.raw v) e.row)
def lsL(pl:Nat)(l:LS)(q:Nat×Nat)(v:SV):List Dat:=[O1 pl F4 #[ptr q.1,ptr q.2,v.1],intD q.1 l.x,U7 q.2 l.s,Y3 U1 v.1 l.done]
def lsD(pl:Nat)(l:LS):Dat:=Dat.ex fun x:(Nat×Nat)×SV=>eF (lsL pl l x.1 x.2)
structure LOk (l:LS):Prop where
 x:RN l.x
 next:l.x.next<1000000
 refused:l.x.refused<1000000
 known:l.x.known.length≤1000000
 done:l.done.length≤1000000
section
variable {B:Base} {w:World} {σ τ:List Dat} {pl:Nat} {l:LS} {K:PtK}
theorem lsD.open(h:Rel B w (lsD pl l :: τ)):∃q v,Rel B w (lsL pl l q v++τ):=by
 obtain⟨x,h⟩:=h.ex (i:=0) rfl
 exact⟨x.1,x.2,Rel.nS h⟩
theorem lsD.close{q:Nat×Nat}{v:SV}(h:Rel B w (lsL pl l q v++τ)):Rel B w (lsD pl l :: τ) :=
 (Rel.RL h).imp (i:=0) (e:=lsD pl l) rfl fun B hB=>⟨(q,v),hB⟩
theorem HE0:SB0 ksL:=⟨by show 1≤1000000;omega,fun x hx=>by rw[List.mem_singleton.1 hx];show 1≤1000000;omega⟩
theorem cj0(c:CfD):Makes prog B (Z0 aH #[.agg c.cs.toArray]) fun u τ=>(uF c∧∃pl,u=ptr pl∧τ=[lsD pl ⟨YP c ksL,⟨0,0,0,[]⟩,[]⟩])∨(¬uF c∧u = .pointer none∧τ=[]):=by
 refine Makes.intro fun B' w K base h k=>?_
 refine MJ.up ?_
 unfold MJ.pt
 refine h.box fun o w1 h=>?_
 have h:Rel B' w1 [O1 o V4 c.cs.toArray]:=h
 have h:=h.tick
 generalize tick w1=w1 at *
 rw[h.r9 0 rfl uD rfl]
 refine h.make (fun B2 own base2=>Mc0) fun kv τ w2 hp h=>?_
 subst hp
 refine⟨h.bV 0 rfl uD rfl,?_⟩
 refine h.make (fun B2 own base2=>yE0 c (ks:=ksL) (own (i:=1) rfl) HE0) fun u τ w3 hp h=>?_
 rcases hp with⟨hr,p,rfl,rfl⟩ | ⟨hr,rfl,rfl⟩
 ·refine h.make (fun B2 own base2=>Tz0 0) fun u τ w4 hp h=>?_
  obtain⟨b,rfl,rfl⟩:=hp
  rw[tK]
  refine h.box fun pl w5 h=>?_
  have h:Rel B' w5 [O1 o V4 c.cs.toArray,JA kv ksL,intD p (YP c ksL),U7 b ⟨0,0,0,[]⟩,O1 pl F4 #[ptr p,ptr b,.slice none 0 0]]:=h
  simp -zeta only[J5,U0 jC,U0 A9,Nat.zero_add]
  rw[h.ld 4 rfl KA (o:=0) (v:=ptr p) rfl,OA uG,d_,h.ld 4 rfl O7 (o:=1) (v:=ptr b) rfl,OA ia0,d_]
  have h:=h.VC EnD U1
  have h:Rel B' w5 (lsL pl ⟨YP c ksL,⟨0,0,0,[]⟩,[]⟩ (p,b) ⟨.slice none 0 0,rfl⟩++[]):=h.pick [4,2,3,5] (by decide)
  exact k _ _ _ (.inl ⟨hr,pl,rfl,rfl⟩) (lsD.close h)
 ·refine h.make (fun B2 own base2=>Tz0 0) fun u τ w4 hp h=>?_
  obtain⟨b,rfl,rfl⟩:=hp
  rw[tK]
  refine h.box fun pl w5 h=>?_
  simp -zeta only[J5,U0 jC,U0 A9,Nat.zero_add]
  have h:Rel B' w5 [O1 o V4 c.cs.toArray,JA kv ksL,U7 b ⟨0,0,0,[]⟩,O1 pl F4 #[.pointer none,ptr b,.slice none 0 0]]:=h
  rw[h.ld 3 rfl KA (o:=0) (v := .pointer none) rfl,wT uG,lC]
  exact k _ [] _ (.inr ⟨hr,rfl,rfl⟩) h.nil
set_option maxHeartbeats 2000000 in
theorem Jm0(hok:LOk l){e:EnP}{v:SV}(q:O4 v.1 e.row B)(hrl:e.row.length≤1000000)(hrs:∀x∈e.row,x.s.size≤9223372036854775807):Does prog B (lsD pl l) (Z0 rC #[ptr pl,(e.raw v).v]) fun u e' τ=>u = .bool (OE l e v).2∧e'=lsD pl (OE l e v).1∧τ=[]:=by
 refine Does.intro fun B' w K base h k=>?_
 replace q:=base q
 refine XC.up ?_
 unfold XC.pt
 have hn:=hok.next
 have hrf:=hok.refused
 have hkn:=hok.known
 have hdn:=hok.done
 obtain⟨⟨px,ps⟩,dv,h⟩:=lsD.open h
 have h:Rel B' w [O1 pl F4 #[ptr px,ptr ps,dv.1],intD px l.x,U7 ps l.s,Y3 U1 dv.1 l.done]:=h
 refine h.box fun e3 w1 h=>?_
 have h:Rel B' w1 [O1 pl F4 #[ptr px,ptr ps,dv.1],intD px l.x,U7 ps l.s,Y3 U1 dv.1 l.done,O1 e3 U1 (e.raw v).cs.toArray]:=h
 have h:=h.tick
 generalize tick w1=w1 at *
 simp -zeta only[J5,U0 jC,U0 A9,U0 VD,U0 yT,U0 sJ,U0 kM,U0 UG,U0 aF,Nat.zero_add]
 rw[h.ld 0 rfl KA (o:=0) (v:=ptr px) rfl,h.r9 4 rfl M8 rfl]
 refine h.act 1 rfl (fun B2 own base2=>Zr0 (en:=e.raw v) (r:=e.row) hok.x (by omega) (by omega) (base2 q) (by omega) (by omega)) fun u e' τ w2 hp h=>?_
 obtain⟨rfl,rfl,rfl⟩:=hp
 unfold OE at k
 generalize GD l.x (e.raw v) e.row=a at *
 obtain⟨⟨n,f⟩,x2⟩:=a
 unfold Gp0 at k
 simp only at h k ⊢
 have h:Rel B' w2 [O1 pl F4 #[ptr px,ptr ps,dv.1],intD px x2,U7 ps l.s,Y3 U1 dv.1 l.done,O1 e3 U1 (e.raw v).cs.toArray]:=h
 rw[M9,D9,h.ld 4 rfl Y2 (o:=0) (v := .int .i64 e.kind) rfl,Q7,G5,K3]
 refine⟨fun c1=>?_,fun c1=>?_⟩
 case refine_2 =>
  rw[if_pos (.inl c1)] at k
  exact k _ _ [] _ ⟨rfl,rfl,rfl⟩ (lsD.close (l:={ l with x:=x2 }) (q:=(px,ps)) (v:=dv) (h.take 4))
 rw[Q7,G5,K3]
 refine⟨fun c2=>?_,fun c2=>?_⟩
 case refine_2 =>
  rw[if_pos (.inr c2)] at k
  exact k _ _ [] _ ⟨rfl,rfl,rfl⟩ (lsD.close (l:={ l with x:=x2 }) (q:=(px,ps)) (v:=dv) (h.take 4))
 rw[if_neg (fun hh=>hh.elim (fun h=>h c1) fun h=>h c2)] at k
 have h:=h.tick
 generalize tick w2=w2 at *
 rw[h.ld 0 rfl fA (o:=2) (v:=dv.1) rfl,h.r9 4 rfl M8 rfl]
 refine h.XH (α:=EnD) (e.raw v) iA (by decide) fun v1 w3 h=>?_
 refine⟨h.is 0 rfl fA (o:=2) rfl,?_⟩
 refine h.append (α:=EnD) 3 rfl iA (Rd.at 5 rfl) (show (l.done.length+1) * _≤_ by omega) (show l.done.length+1≤_ by omega) fun v2 w4 h=>?_
 have hv2:v2.oneCell'=true:=h.oneCell (i:=3) rfl
 refine h.st 0 rfl fA (o:=2) (show 2<3 by omega) hv2 fun w5 h=>?_
 have h:=h.tick
 generalize tick w5=w5 at *
 rw[h.ld 0 rfl O7 (o:=1) (v:=ptr ps) rfl,h.ld 4 rfl U6 (o:=4) (v := .string e.source) rfl,h.ld 4 rfl Y2 (o:=5) (v := .int .i64 e.schema) rfl,h.ld 4 rfl Y2 (o:=6) (v := .int .i64 e.time) rfl,h.ld 4 rfl H7 (o:=7) (v:=v.1) rfl]
 obtain⟨vx,vn,vc,hvs⟩:∃x n c,v.1 = .slice x n c:=by obtain⟨x,c,hx,_⟩:=q;exact⟨x,_,c,hx⟩
 rw[hvs,UN]
 have hev:(Value.agg #[(.int .i64 0),.int .i64 n,.string e.source,.int .i64 e.schema,.int .i64 e.time,.slice vx vn vc])=((evL n e).raw v).v:=by
  show _=Value.agg #[.int .i64 0,.int .i64 n,.string e.source,.int .i64 e.schema,.int .i64 e.time,v.1]
  rw[hvs]
 rw[hev]
 refine h.act 2 rfl (fun B2 own base2=>bH0 (evL n e) v (base2 q) hrl hrs) fun u e' τ w6 hp h=>?_
 obtain⟨rfl,rfl,rfl⟩:=hp
 rw[F7]
 exact k _ _ [] _ ⟨rfl,rfl,rfl⟩ (lsD.close (l:=⟨x2,(pQ l.s (evL n e)).2,l.done++[e.raw v]⟩) (q:=(px,ps)) (v:=⟨v2,hv2⟩) (h.take 4))
end
def evD(D:List (EnP×SV)):List Ev:=D.mapIdx fun i p=>evL i p.1
theorem tZ(D:List (EnP×SV)):(evD D).length=D.length:=by unfold evD;rw[List.length_mapIdx]
theorem Ts0{D:List (EnP×SV)}{i:Nat}(h:i<D.length):(evD D)[i]'(by rw[tZ];exact h)=evL i (D[i]).1:=by
 unfold evD
 rw[List.getElem_mapIdx]
theorem gq0(D:List (EnP×SV))(p:EnP×SV):evD (D++[p])=evD D++[evL D.length p.1]:=by
 unfold evD
 rw[List.mapIdx_concat]
structure oe0 (s:St) (D:List (EnP×SV)):Prop where
 ev:s.events=(evD D).drop s.first.toNat
 first:0≤s.first∧s.first≤D.length
 hz:∀i (h:i<D.length),(i:Int)<s.first→(D[i]).1.time<s.horizon
 right:tT s
 part:s.part=0
structure VB0 (l:LS) (D:List (EnP×SV)):Prop where
 done:l.done=PE D
 next:l.x.next=D.length
 good:RN l.x
 fin:∃times,ek0 l.x times
 known:l.x.known=ksL
theorem oe0.next{s:St}{D:List (EnP×SV)}(h:oe0 s D):s.next=D.length∧(s.events.length:Int)=D.length-s.first:=by
 have h1:=congrArg List.length h.ev
 rw[List.length_drop,tZ] at h1
 have:=h.first
 unfold St.next
 omega
theorem AD0:oe0 ⟨0,0,0,[]⟩ []:=⟨rfl,by show (0:Int)≤0∧(0:Int)≤(0:Nat);omega,fun i h=>(by cases h),
 ⟨by show inI 0;unfold inI;omega,by show (0:Int)≤0∧(0:Int)≤_;omega,by show (0:Int)≤0∧(0:Int)≤_;omega,Iff.rfl,Nat.zero_le _,fun e he=>(by cases he),fun i h=>(by cases h)⟩,rfl⟩
theorem iD0{c:CfD}(h:uF c):VB0 ⟨YP c ksL,⟨0,0,0,[]⟩,[]⟩ []:=⟨rfl,rfl,so0 h _,⟨[],sC0 h _⟩,rfl⟩
theorem oe0.cut{s:St}{D:List (EnP×SV)}(h:oe0 s D){n:Nat}(hn:n≤s.events.length)(hD:D.length≤1000000):oe0 (Ye0 s n) D:=by
 obtain⟨h1,h2⟩:=h.next
 have h3:=h.first
 obtain⟨g1,g2⟩:=sq0 s.horizon (s.events.take n)
 refine⟨?_,?_,fun i hi hlt=>?_,h.right.cut hn (by omega),h.part⟩
 ·show s.events.drop n=(evD D).drop (s.first+n).toNat
  rw[h.ev,List.drop_drop,show (s.first+(n:Int)).toNat=s.first.toNat+n by omega]
 ·show 0≤s.first+n∧s.first+n≤(D.length:Int)
  omega
 ·have hlt:(i:Int)<s.first+n:=hlt
  show (D[i]).1.time<hor s.horizon (s.events.take n)
  by_cases c:(i:Int)<s.first
  ·have:=h.hz i hi c
   omega
  ·have hj:i-s.first.toNat<s.events.length:=by omega
   have hm:s.events[i-s.first.toNat]'hj∈s.events.take n:=by
    rw[List.mem_take_iff_getElem]
    exact⟨i-s.first.toNat,by omega,rfl⟩
   have e:s.events[i-s.first.toNat]'hj=evL i (D[i]).1:=by
    rw[←Ts0 hi]
    have h5:s.events[i-s.first.toNat]'hj=((evD D).drop s.first.toNat)[i-s.first.toNat]'(by rw[←h.ev];exact hj):=by congr 1;exact h.ev
    rw[h5,List.getElem_drop]
    congr 1
    omega
   have:=g2 _ hm
   rw[e] at this
   have:(evL (↑i) (D[i]).1).time=(D[i]).1.time:=rfl
   omega
theorem Ip0{s:IS}{e:EnD}{r:List OD}(h:¬(e.kind=0∧(GD s e r).1.2=0)):(GD s e r).2.next=s.next:=by
 unfold GD at h ⊢
 by_cases c0:e.kind=0
 ·rw[if_pos c0] at h ⊢
  unfold ES at h ⊢
  simp only at h ⊢
  by_cases c:(CX s e r).2≠0
  ·rw[if_pos c]
   simp only
   split<;>rfl
  ·rw[if_neg c] at h
   exact absurd ⟨c0,Decidable.of_not_not c⟩ h
 rw[if_neg c0]
 by_cases c1:e.kind=1
 ·rw[if_pos c1]
  simp only
  split<;>rfl
 rw[if_neg c1]
 split
 ·split
  ·rfl
  ·split
   ·rfl
   ·split<;>rfl
 ·rfl
theorem zu0{s:IS}{e:EnD}{r:List OD}(h0:e.kind=0)(h:(GD s e r).1.2=0):(GD s e r).1.1=s.next∧(GD s e r).2.next=s.next+1∧YE e.time∧WX s.known e.source e.schema r=0∧O9 s<e.time:=by
 unfold GD at h ⊢
 rw[if_pos h0] at h ⊢
 unfold ES at h ⊢
 simp only at h ⊢
 by_cases c:(CX s e r).2≠0
 ·rw[if_pos c] at h
  exact absurd h c
 ·rw[if_neg c]
  obtain⟨_,p2,p3,p4,_,_,p7⟩:=fe0 (Decidable.of_not_not c)
  exact⟨p7,rfl,p2,p3,p4⟩
theorem By0{src:ByteArray}{schema:Int}{r:List OD}(h:WX ksL src schema r=0):DK r=true∧schema=1∧src.size≤200:=by
 unfold WX at h
 cases hf:ksL.find? (Kq0 src schema) with
 | none=>rw[hf] at h;cases h
 | some k =>
  rw[hf] at h
  simp only at h
  split at h
  ·rename_i hh
   refine⟨by rw[←Vc0];exact hh.2,?_⟩
   have h1:=List.find?_some hf
   have h2:=List.mem_of_find?_eq_some hf
   unfold Kq0 at h1
   rw[Bool.and_eq_true,decide_eq_true_eq,decide_eq_true_eq] at h1
   have h2:=List.mem_singleton.1 h2
   rw[←h1.2,←h1.1,h2]
   exact⟨rfl,by decide⟩
  ·cases h
structure Yw0 (e:EnP):Prop where
 vals:∀v∈e.row,VK v
theorem Km0{l:LS}{D:List (EnP×SV)}(hr:oe0 l.s D)(hp:VB0 l D){e:EnP}(v:SV)(he:Yw0 e)(hn:D.length<2000)(hrf:l.x.refused<1000000000) :
  (OE l e v).2=true∧(OE l e v).1.x.cfg=l.x.cfg∧(OE l e v).1.x.refused≤l.x.refused+1∧∃D',(D'=D∨D'=D++[(e,v)])∧oe0 (OE l e v).1.s D'∧VB0 (OE l e v).1 D':=by
 have hnx:=hp.next
 obtain⟨g1,g2,g3,g4,g5⟩:=nY hp.good (e.raw v) e.row (by omega) hrf
 obtain⟨times,hfin⟩:=hp.fin
 have hF:=Lm0 hfin (e.raw v) e.row
 have hnext:=fun h=>Ip0 (s:=l.x) (e:=e.raw v) (r:=e.row) h
 have hput:=fun h0 h=>zu0 (s:=l.x) (e:=e.raw v) (r:=e.row) h0 h
 unfold OE
 generalize GD l.x (e.raw v) e.row=a at *
 unfold Gp0
 by_cases c:e.kind≠0∨a.1.2≠0
 ·rw[if_pos c]
  have hno:¬((e.raw v).kind=0∧a.1.2=0):=fun hh=>c.elim (fun h=>h hh.1) fun h=>h hh.2
  exact⟨rfl,g2,g5,D,.inl rfl,hr,hp.done,(hnext hno).trans hnx,g1,⟨_,hF.no hno⟩,g3.trans hp.known⟩
 ·rw[if_neg c]
  have c0:e.kind=0:=Classical.byContradiction fun h=>c (.inl h)
  have c1:a.1.2=0:=Classical.byContradiction fun h=>c (.inr h)
  obtain⟨p1,p2,p3,p4,p5⟩:=hput c0 c1
  rw[hp.known] at p4
  obtain⟨q1,q2,q3⟩:=By0 p4
  have q3:e.source.size≤200:=q3
  have q2:e.schema=1:=q2
  have p3:YE e.time:=p3
  obtain⟨n1,n2⟩:=hr.next
  have hfs:=hr.first
  have hpos:a.1.1=l.s.next:=by rw[p1,hnx,n1]
  have hadd:pQ l.s (evL a.1.1 e)=(0,{ l.s with events:=l.s.events++[evL a.1.1 e] }):=by
   refine Vr0 ?_ q1 hpos (by omega)
   unfold YE at p3
   show (decide ((0:Int)=l.s.part)&&(decide (e.source.size≤200)&&(decide (0≤e.schema)&&(decide (0≤e.time)&&decide (e.time≤1099511627776)))))=true
   rw[hr.part,decide_eq_true rfl,decide_eq_true q3,decide_eq_true (show 0≤e.schema by omega),decide_eq_true p3.1,decide_eq_true p3.2]
   rfl
  have hR:=hr.right.add (evL a.1.1 e) he.vals (show inI e.schema by unfold inI;omega) (show inI e.time by unfold YE at p3;unfold inI;omega)
  rw[hadd] at hR ⊢
  refine⟨rfl,g2,g5,D++[(e,v)],.inr rfl,⟨?_,?_,fun i hi hlt=>?_,hR,hr.part⟩,?_,?_,g1,⟨_,(hF.yes c0 c1).2.2⟩,g3.trans hp.known⟩
  ·show l.s.events++[evL a.1.1 e]=(evD (D++[(e,v)])).drop l.s.first.toNat
   rw[gq0,List.drop_append_of_le_length (by rw[tZ];omega),←hr.ev,p1,hnx]
  ·show 0≤l.s.first∧l.s.first≤((D++[(e,v)]).length:Int)
   rw[List.length_append,List.length_singleton]
   omega
  ·have hlt:(i:Int)<l.s.first:=hlt
   show ((D++[(e,v)])[i]).1.time<l.s.horizon
   rw[List.getElem_append_left (by omega)]
   exact hr.hz i (by omega) hlt
  ·show l.done++[e.raw v]=PE (D++[(e,v)])
   unfold PE
   rw[List.map_append,hp.done]
   rfl
  ·show a.2.next=((D++[(e,v)]).length:Int)
   rw[p2,hnx,List.length_append,List.length_singleton]
   omega
theorem AA0{s:St}{D:List (EnP×SV)}(h:oe0 s D){t:Int}(ht:s.horizon≤t):zf0 s t=(evD D).filter fun e=>decide (t≤e.time):=by
 unfold zf0
 rw[h.ev]
 conv=>rhs;rw[←List.take_append_drop s.first.toNat (evD D)]
 rw[List.filter_append]
 have hz:((evD D).take s.first.toNat).filter (fun e=>decide (t≤e.time))=[]:=by
  rw[List.filter_eq_nil_iff]
  intro e hm hd
  obtain⟨i,hi,rfl⟩:=List.mem_take_iff_getElem.1 hm
  have hf:=h.first
  rw[tZ] at hi
  have hi2:i<D.length:=by omega
  rw[Ts0 hi2] at hd
  have h1:=h.hz i hi2 (by omega)
  have h2:t≤(D[i]).1.time:=of_decide_eq_true hd
  omega
 rw[hz,List.nil_append]
theorem Bj0{s:St}{D:List (EnP×SV)}(h:oe0 s D)(hD:D.length≤10000):PY s 0 10000=(evD D).drop s.first.toNat:=by
 obtain⟨h1,h2⟩:=h.next
 have hf:=h.first
 have hp:ZB s 0=0:=by unfold ZB;omega
 unfold PY
 rw[hp,List.drop_zero,List.take_of_length_le (by omega),h.ev]
def evP(D:List (EnP×SV)):EvL:=D.mapIdx fun i p=>(evL i p.1,p.2)
theorem Us0(D:List (EnP×SV)):evs (evP D)=evD D:=by
 unfold evs evP evD
 refine List.ext_getElem (by rw[List.length_map,List.length_mapIdx,List.length_mapIdx]) fun i h1 h2=>?_
 rw[List.getElem_map,List.getElem_mapIdx,List.getElem_mapIdx]
theorem KS(D:List (EnP×SV)):(evP D).length=D.length:=by unfold evP;rw[List.length_mapIdx]
theorem Nk0{D:List (EnP×SV)}{i:Nat}(h:i<D.length):(evP D)[i]'(by rw[KS];exact h)=(evL i (D[i]).1,(D[i]).2):=by
 unfold evP
 rw[List.getElem_mapIdx]
theorem bq0{s:IS}(hf:ne0 s):(rZ s).length≤1000000:=by
 have htop:=hf.top
 have hlk:=Oa0 (s:=s) hf.cfg
 have a1:=Q6 hf.now
 have a2:=Q6 (n:=s.top) (by constructor<;>omega)
 have a3:=Q6 hf.next
 have a4:=Q6 hf.refused
 have a5:=TU hf.prods
 have a6:=wE (bI s.prods) (by omega)
 have a8:=Q6 (n:=((CE s).length:Int)) ⟨by omega,by omega⟩
 have a9:=xE (qZ s) (CE s) 42 fun t ht=>by
  have h1:=Q6 (hf.key ht).1
  have h2:=Q6 (hf.key ht).2
  unfold qZ
  rw[List.length_append]
  omega
 unfold rZ ly0
 simp only[List.length_append]
 omega
structure BS (c:CfD) (L:List (EnP×SV)) (i:Nat) (l:LS) (D:List (EnP×SV)):Prop where
 par:VB0 l D
 ret:oe0 l.s D
 cfg:l.x.cfg=c
 refused:l.x.refused≤i
 len:D.length≤i
 sub:∀p∈D,p∈L
theorem BS.ok{c:CfD}{L D:List (EnP×SV)}{i:Nat}{l:LS}(h:BS c L i l D)(hi:i≤999999):LOk l:=by
 have h1:=h.par.next
 have h2:=h.refused
 have h3:=h.len
 refine⟨h.par.good,by omega,by omega,?_,?_⟩
 ·rw[h.par.known];show 1≤1000000;omega
 ·rw[h.par.done];unfold PE;rw[List.length_map];omega
theorem BS.cut{c:CfD}{L D:List (EnP×SV)}{i:Nat}{l:LS}(h:BS c L i l D)(hi:i≤999999){n:Nat}(hn:n≤l.s.events.length):BS c L i { l with s:=Ye0 l.s n } D :=
 ⟨⟨h.par.done,h.par.next,h.par.good,h.par.fin,h.par.known⟩,h.ret.cut hn (by have:=h.len;omega),h.cfg,h.refused,h.len,h.sub⟩
theorem BS.step{c:CfD}{L D:List (EnP×SV)}{i:Nat}{l:LS}(h:BS c L i l D)(hi:i<2000){p:EnP×SV}(hp:p∈L)(he:Yw0 p.1):(OE l p.1 p.2).2=true∧∃D',BS c L (i+1) (OE l p.1 p.2).1 D':=by
 have h2:=h.refused
 have h3:=h.len
 obtain⟨a,b,d,D',e,f,g⟩:=Km0 h.ret h.par p.2 he (by omega) (by omega)
 refine⟨a,D',g,f,b.trans h.cfg,by omega,?_,fun q hq=>?_⟩
 ·rcases e with rfl | rfl
  ·omega
  ·rw[List.length_append,List.length_singleton];omega
 ·rcases e with rfl | rfl
  ·exact h.sub q hq
  ·rcases List.mem_append.1 hq with hq | hq
   ·exact h.sub q hq
   ·rw[List.mem_singleton.1 hq];exact hp
theorem BS.up{c:CfD}{L D:List (EnP×SV)}{i:Nat}{l:LS}(h:BS c L i l D):BS c L (i+1) l D :=
 ⟨h.par,h.ret,h.cfg,by have:=h.refused;omega,by have:=h.len;omega,h.sub⟩
section
variable {B:Base}
theorem za0(l:List UInt8):Op.bytesLess l l=false:=by
 induction l with
 | nil=>rfl
 | cons a l ih=>simp [Op.bytesLess,ih]
def tY(a b:Val):Int:=if a.kind<b.kind then -1 else if b.kind<a.kind then 1 else if a.n<b.n then -1 else if b.n<a.n then 1 else if Op.bytesLess a.s.toList b.s.toList=true then -1 else if a.s=b.s then 0 else 1
theorem Gd0{a b:Val}:tY a b=0↔a=b:=by
 unfold tY
 constructor
 ·intro h
  repeat' split at h
  all_goals first | (cases h;done) | skip
  obtain⟨k,n,s⟩:=a
  obtain⟨k',n',s'⟩:=b
  simp_all
  omega
 ·rintro rfl
  rw[if_neg (by omega),if_neg (by omega),if_neg (by omega),if_neg (by omega),if_neg (by simp [za0]),if_pos rfl]
theorem Ku0(x y:Val):Gives prog B (Z0 wJ #[x.v,y.v]) (.int .i64 (tY x y)):=by
 refine Gives.intro fun B' w K base h k=>?_
 refine eH.up ?_
 unfold eH.pt
 refine h.box fun a w1 h=>?_
 refine h.box fun b w2 h=>?_
 replace h:Rel B' w2 [O1 a R3 #[.int .i64 x.kind,.int .i64 x.n,.string x.s],O1 b R3 #[.int .i64 y.kind,.int .i64 y.n,.string y.s]]:=h
 have e1:(x.s.toList == y.s.toList)=decide (x.s=y.s):=qV
 simp -zeta only[U0 vP,U0 KT,U0 mM,Nat.zero_add,h.ld 0 rfl Y2 (o:=0) rfl,h.ld 0 rfl Y2 (o:=1) rfl,h.ld 0 rfl U6 (o:=2) rfl,h.ld 1 rfl Y2 (o:=0) rfl,h.ld 1 rfl Y2 (o:=1) rfl,h.ld 1 rfl U6 (o:=2) rfl,
  G6,x9,YD0,TD0,e1,K3]
 have kk:=fun c (hc:tY x y=c)=>(show K (.int .i64 c) w2 by rw[←hc];exact k _ _ h)
 refine⟨fun h1=>kk _ (by unfold tY;rw[if_pos h1]),fun h1=>⟨fun h2=>kk _ (by unfold tY;rw[if_neg h1,if_pos h2]),fun h2=>⟨fun h3=>kk _ (by unfold tY;rw[if_neg h1,if_neg h2,if_pos h3]),fun h3=>⟨fun h4=>kk _ (by unfold tY;rw[if_neg h1,if_neg h2,if_neg h3,if_pos h4]),fun h4=>?_⟩⟩⟩⟩
 rw[R5]
 refine⟨fun h5=>kk _ (by unfold tY;rw[if_neg h1,if_neg h2,if_neg h3,if_neg h4,if_pos h5]),fun h5=>?_⟩
 rw[h5]
 simp -zeta only[Bool.false_or,G5,K3]
 refine⟨fun h6=>kk _ (by unfold tY;rw[if_neg h1,if_neg h2,if_neg h3,if_neg h4,if_neg (by rw[h5];decide),if_pos h6]),fun h6=>kk _ (by unfold tY;rw[if_neg h1,if_neg h2,if_neg h3,if_neg h4,if_neg (by rw[h5];decide),if_neg h6])⟩
def JJ:List Val→List Val→Int
 | [],[]=>0
 | [],_ :: _ => -1
 | _ :: _,[]=>1
 | a :: l,b :: m=>if tY a b≠0 then tY a b else JJ l m
theorem Lp0{l m:List Val}:JJ l m=0↔l=m:=by
 induction l generalizing m with
 | nil=>cases m<;>simp [JJ]
 | cons a l ih=>cases m with
  | nil=>simp [JJ]
  | cons b m =>
   simp only[JJ]
   split
   ·rename_i h
    constructor
    ·intro h';exact absurd h' h
    ·intro h';cases h';exact absurd (Gd0.2 rfl) h
   ·rename_i h
    have h:tY a b=0:=Classical.not_not.1 h
    rw[ih]
    have:=Gd0.1 h
    subst this
    simp
theorem jZ{l m:List Val}{i:Nat}(h:l.take i=m.take i)(hi:i≤l.length)(hm:i≤m.length):JJ l m=JJ (l.drop i) (m.drop i):=by
 induction i generalizing l m with
 | zero=>simp
 | succ i ih=>cases l with
  | nil=>simp at hi
  | cons a l=>cases m with
   | nil=>simp at hm
   | cons b m =>
    simp only[List.take_succ_cons,List.cons.injEq] at h
    obtain⟨rfl,h⟩:=h
    simp only[List.length_cons] at hi hm
    have:JJ (a :: l) (a :: m)=JJ l m:=by simp only[JJ];rw[if_neg (by simp [Gd0])]
    rw[this,ih h (by omega) (by omega)]
    rfl
theorem Oh0{va vb:Value}{l m:List Val}(ra:O4 va l B)(rb:O4 vb m B)(hl:l.length≤4611686018427387904):Gives prog B (Z0 XF #[va,vb]) (.int .i64 (JJ l m)):=by
 refine Gives.intro fun B' w K base h k=>?_
 replace ra:=base ra
 replace rb:=base rb
 refine UD.up ?_
 unfold UD.pt
 refine P6 fun J hJ=>?_
 have hJ2:∀w' (i:Nat),l.take i=m.take i→i≤l.length→i≤m.length→(i=l.length∨i=m.length)→Rel B' w' []→J () w':=by
  intro w' i h1 h2 h3 h4 h
  refine hJ _ _ ?_
  simp -zeta only[O4.len ra Q8,O4.len rb Q8,G6,x9,K3]
  have hd:=jZ h1 h2 h3
  rw[hd] at k
  refine⟨fun e=>?_,fun e=>⟨fun e'=>?_,fun e'=>?_⟩⟩
  ·have:i=l.length:=by omega
   subst this
   rw[List.drop_length,List.drop_eq_getElem_cons (by omega)] at k
   exact k _ _ h
  ·have:i=m.length:=by omega
   subst this
   rw[List.drop_length,List.drop_eq_getElem_cons (by omega)] at k
   exact k _ _ h
  ·rw[List.drop_of_length_le (by omega),List.drop_of_length_le (by omega)] at k
   exact k _ _ h
 clear hJ
 refine F6 (fun x w'=>∃i:Nat,i≤l.length∧i≤m.length∧x=(.int .i64 i,())∧l.take i=m.take i∧Rel B' w' []) (fun x _=>l.length-(match x.1 with | .int _ n=>n.toNat | _=>0)) ⟨0,Nat.zero_le _,Nat.zero_le _,rfl,rfl,h⟩ ?_
 clear h
 rintro x w1 ⟨i,hi,hi',rfl,he,h⟩ next hnext
 simp -zeta only[O4.len ra Q8,O4.len rb Q8,G6,K3]
 refine⟨fun h1=>⟨fun h2=>?_,fun h2=>hJ2 _ i he hi hi' (by omega) h⟩,fun h1=>hJ2 _ i he hi hi' (by omega) h⟩
 have hil:i<l.length:=by omega
 have him:i<m.length:=by omega
 have h:=h.tick
 obtain⟨g,o,hx,hc⟩:=O4.idx ra Q8 hil
 obtain⟨g',o',hx',hc'⟩:=O4.idx rb Q8 him
 simp -zeta only[hx,hx',K6.r9 (h.L6 hc) Z7 rfl,K6.r9 (h.L6 hc') Z7 rfl]
 refine h.ask (fun _ _ _=>Ku0 l[i] m[i]) fun w2 h=>?_
 simp -zeta only[Q7,G5,K3]
 have hd:=jZ he hi hi'
 rw[List.drop_eq_getElem_cons hil,List.drop_eq_getElem_cons him] at hd
 refine⟨fun e=>?_,fun e=>?_⟩
 ·rw[Z5,E5 (by omega) (by omega)]
  refine hnext _ _ ⟨i+1,by omega,by omega,rfl,?_,h⟩ (by simp only;omega)
  rw[List.take_succ_eq_append_getElem hil,List.take_succ_eq_append_getElem him,he,Gd0.1 e]
 ·have:JJ l m=tY l[i] m[i]:=by rw[hd];simp only[JJ];rw[if_pos e]
  rw[this] at k
  exact k _ _ h
theorem sw0{va vb:Value}{l m:List Val}(ra:O4 va l B)(rb:O4 vb m B)(hl:l.length≤4611686018427387904):Gives prog B (Z0 UM #[va,vb]) (.bool (decide (l=m))):=by
 refine Gives.intro fun B' w K base h k=>?_
 refine aL.up ?_
 unfold aL.pt
 refine h.ask (fun _ _ base2=>Oh0 (base2 (base ra)) (base2 (base rb)) hl) fun w1 h=>?_
 rw[F7]
 have:decide (JJ l m=0)=decide (l=m):=by rw[decide_eq_decide];exact Lp0
 rw[this]
 exact k _ _ h
theorem Ev.FH0{a b:Ev}(h0:a.part=b.part)(h1:a.pos=b.pos)(h2:a.source=b.source)(h3:a.schema=b.schema)(h4:a.time=b.time)(h5:a.row=b.row):a=b:=by
 cases a;cases b;simp_all
theorem Qo0{va vb:Value}{L M:EvL}(ra:sy0 va L B)(rb:sy0 vb M B)(hl:L.length≤4611686018427387904)(hrl:∀p∈L,p.1.row.length≤4611686018427387904):Gives prog B (Z0 vI #[va,vb]) (.bool (decide (evs L=evs M))):=by
 refine Gives.intro fun B' w K base h k=>?_
 have ra1:=base ra.1
 have rb1:=base rb.1
 have ra2:=base ra.2
 have rb2:=base rb.2
 refine bL.up ?_
 unfold bL.pt
 have hL:(l_ L).length=L.length:=by simp [l_]
 have hM:(l_ M).length=M.length:=by simp [l_]
 simp -zeta only[O4.len ra1 u7,O4.len rb1 u7,hL,hM,Q7,G5,K3]
 have no:∀w',Rel B' w' []→evs L≠evs M→K (.bool false) w':=fun w' h hne=>by
  rw[decide_eq_false hne] at k
  exact k _ _ h
 refine⟨fun e=>?_,fun e=>no _ h fun he=>e (by have:=congrArg List.length he;simp [evs] at this;omega)⟩
 have hlm:L.length=M.length:=by omega
 refine F6 (fun x w'=>∃i:Nat,i≤L.length∧x=(.int .i64 i,())∧(evs L).take i=(evs M).take i∧Rel B' w' []) (fun x _=>L.length-(match x.1 with | .int _ n=>n.toNat | _=>0)) ⟨0,Nat.zero_le _,rfl,rfl,h⟩ ?_
 clear h
 rintro x w1 ⟨i,hi,rfl,he,h⟩ next hnext
 simp -zeta only[G6,K3]
 refine⟨fun h1=>?_,fun h1=>?_⟩
 ·have hil:i<L.length:=by omega
  have him:i<M.length:=by omega
  obtain⟨g,o,hx,hc⟩:=O4.idx ra1 u7 (i:=i) (by omega)
  obtain⟨g',o',hx',hc'⟩:=O4.idx rb1 u7 (i:=i) (by omega)
  have hel:(l_ L)[i]'(by omega)=L[i].1.raw L[i].2:=by simp [l_]
  have hem:(l_ M)[i]'(by omega)=M[i].1.raw M[i].2:=by simp [l_]
  rw[hel] at hc
  rw[hem] at hc'
  have rr1:O4 L[i].2.1 L[i].1.row B':=ra2 L[i] (List.getElem_mem hil)
  have rr2:O4 M[i].2.1 M[i].1.row B':=rb2 M[i] (List.getElem_mem him)
  simp -zeta only[hx,K6.r9 (h.L6 hc) Y8 rfl]
  refine h.R8 (ds:=(L[i].1.raw L[i].2).cs.toArray) TC rfl Y8 rfl (fun v hv=>Enc.one (L[i].1.raw L[i].2) v hv) fun bx w2 h=>?_
  simp -zeta only[hx',K6.r9 (h.L6 hc') Y8 rfl]
  refine h.R8 (ds:=(M[i].1.raw M[i].2).cs.toArray) TC rfl Y8 rfl (fun v hv=>Enc.one (M[i].1.raw M[i].2) v hv) fun by' w3 h=>?_
  have q:∀(h':(evs L).take (i+1)≠(evs M).take (i+1)),evs L≠evs M:=fun h' e=>h' (by rw[e])
  have s1:(evs L).take (i+1)=(evs L).take i++[L[i].1]:=by rw[List.take_succ_eq_append_getElem (by simpa [evs] using hil)];simp [evs]
  have s2:(evs M).take (i+1)=(evs M).take i++[M[i].1]:=by rw[List.take_succ_eq_append_getElem (by simpa [evs] using him)];simp [evs]
  have ne:L[i].1≠M[i].1→evs L≠evs M:=fun hne=>q (by rw[s1,s2,he];simpa using hne)
  simp -zeta only[U0 LX,U0 MX,U0 ET,U0 FT,U0 tJ,U0 lM,Nat.zero_add,
   h.ld 0 rfl Y2 (o:=0) rfl,h.ld 0 rfl Y2 (o:=1) rfl,h.ld 0 rfl U6 (o:=2) rfl,h.ld 0 rfl Y2 (o:=3) rfl,h.ld 0 rfl Y2 (o:=4) rfl,h.ld 0 rfl H7 (o:=5) rfl,
   h.ld 1 rfl Y2 (o:=0) rfl,h.ld 1 rfl Y2 (o:=1) rfl,h.ld 1 rfl U6 (o:=2) rfl,h.ld 1 rfl Y2 (o:=3) rfl,h.ld 1 rfl Y2 (o:=4) rfl,h.ld 1 rfl H7 (o:=5) rfl,Q7,FZ,G5,K3]
  have no':L[i].1≠M[i].1→K (.bool false) w3:=fun hne=>no _ h.nil (ne hne)
  refine⟨fun(p0:L[i].1.part=M[i].1.part)=>⟨fun(p1:L[i].1.pos=M[i].1.pos)=>⟨fun(p2:L[i].1.source=M[i].1.source)=>⟨fun(p3:L[i].1.schema=M[i].1.schema)=>⟨fun(p4:L[i].1.time=M[i].1.time)=>?_,fun(p:¬L[i].1.time=M[i].1.time)=>no' fun e=>p (by rw[e])⟩,fun(p:¬L[i].1.schema=M[i].1.schema)=>no' fun e=>p (by rw[e])⟩,
   fun(p:¬L[i].1.source=M[i].1.source)=>no' fun e=>p (by rw[e])⟩,fun(p:¬L[i].1.pos=M[i].1.pos)=>no' fun e=>p (by rw[e])⟩,fun(p:¬L[i].1.part=M[i].1.part)=>no' fun e=>p (by rw[e])⟩
  refine h.ask (fun _ _ base2=>sw0 (base2 rr1) (base2 rr2) (hrl _ (List.getElem_mem hil))) fun w4 h=>?_
  simp -zeta only[V7,G5,K3]
  refine⟨fun p5=>?_,fun p=>no _ h.nil (ne fun e=>p (by rw[e]))⟩
  rw[Z5,E5 (by omega) (by omega)]
  refine hnext _ _ ⟨i+1,by omega,rfl,?_,h.nil⟩ (by simp only;omega)
  rw[s1,s2,he]
  rw[Ev.FH0 p0 p1 p2 p3 p4 p5]
 ·have:i=L.length:=by omega
  subst this
  rw[List.take_of_length_le (by simp [evs]),List.take_of_length_le (by simp [evs];omega)] at he
  rw[decide_eq_true he] at k
  exact k _ _ h
end
abbrev OpD:=fF
structure OpP where
 kind:Int
 id:Int
 n:Int
 data:ByteArray
 keep:List Int
def OpP.raw(o:OpP)(v:SV):OpD:=⟨o.kind,o.id,o.n,o.data,v⟩
section
variable {B:Base} {w:World} {σ τ:List Dat} {K:PtK}
theorem Dm0{a b:Value}{l m:List ByteArray}(ra:O4 a l B)(rb:O4 b m B)(hl:l.length≤4611686018427387904):Gives prog B (Z0 MH #[a,b]) (.bool (decide (l=m))):=by
 refine Gives.intro fun B' w K base h k=>?_
 replace ra:=base ra
 replace rb:=base rb
 refine LF.up ?_
 unfold LF.pt
 have no:∀w' τ,Rel B' w' τ→l≠m→K (.bool false) w':=fun w' τ h hn=>by rw[decide_eq_false hn] at k;exact k _ _ h
 simp -zeta only[O4.len ra K7,O4.len rb K7,Q7,G5,K3]
 refine⟨fun he=>?_,fun hne=>no _ _ h fun hh=>hne (by rw[hh])⟩
 refine F6 (fun x w'=>∃i:Nat,i≤l.length∧x=(.int .i64 i,())∧(∀j (h1:j<l.length) (h2:j<m.length),j<i→l[j]=m[j])∧Rel B' w' []) (fun x _=>l.length-(match x.1 with | .int _ n=>n.toNat | _=>0))
  ⟨0,Nat.zero_le _,rfl,fun j _ _ hj=>absurd hj (Nat.not_lt_zero j),h⟩ ?_
 clear h
 rintro x w1 ⟨i,hi,rfl,hin,h⟩ next hnext
 simp -zeta only[G6,K3]
 refine⟨fun hlt=>?_,fun hge=>?_⟩
 ·have hil:i<l.length:=by omega
  have him:i<m.length:=by omega
  have h:=h.tick
  obtain⟨q,q1,q2⟩:=O4.eZ ra h K7 hil U6 (x := .string l[i]) rfl
  obtain⟨q',q3,q4⟩:=O4.eZ rb h K7 him U6 (x := .string m[i]) rfl
  simp -zeta only[q1,q2,q3,q4,FZ,G5,K3]
  refine⟨fun c=>?_,fun c=>no _ _ h fun hh=>c (by simp only[hh])⟩
  rw[Z5,E5 (by omega) (by omega)]
  refine hnext _ _ ⟨i+1,hil,rfl,fun j h1 h2 hj=>?_,h⟩ (by simp only;omega)
  by_cases e:j=i
  ·subst e;exact c
  ·exact hin j h1 h2 (by omega)
 ·have:l=m:=List.ext_getElem (by omega) fun j h1 h2=>hin j h1 h2 (by omega)
  rw[decide_eq_true this] at k
  exact k _ _ h
end
def smE:EnP:=⟨0,1,0,0,⟨#[115]⟩,1,7,[⟨0,3,⟨#[]⟩⟩]⟩
def smC:CfD:=⟨0,0,5,50,1,0⟩
def smL:LS:=⟨YP smC ksL,⟨0,0,0,[]⟩,[]⟩
theorem Ij0:uF smC:=by decide
theorem dB0:LOk smL:=⟨so0 Ij0 ksL,by show (0:Int)<1000000;omega,by show (0:Int)<1000000;omega,by show 1≤1000000;omega,Nat.zero_le _⟩
theorem ZJ:WE0 smE:=⟨by unfold inI;decide,by unfold inI;decide,by unfold inI;decide,by unfold inI;decide,by unfold inI;decide,by unfold inI;decide,by decide,by decide,fun v hv=>by
 rw[List.mem_singleton.1 hv]
 exact⟨⟨by unfold inI;decide,by unfold inI;decide,by decide⟩,by decide⟩⟩
theorem fB0(v:SV):(OE smL smE v).2=true∧(OE smL smE v).1.done.length=1∧(OE smL smE v).1.s.next=1∧O9 (OE smL smE v).1.x=1:=⟨rfl,rfl,rfl,rfl⟩
theorem eB0(v v':SV):(GD (OE smL smE v).1.x (smE.raw v') smE.row).1=(0,5)∧O9 (GD (OE smL smE v).1.x (smE.raw v') smE.row).2=1:=⟨rfl,rfl⟩
def smD:ByteArray:=ofL (Aa0 smE)
noncomputable def Br0:nA:=kX ji0 0 99
noncomputable def Er0:nA:=(oJ Br0 0 smD).g
noncomputable def aB0:nA:=(oJ Er0 0 smD).g
noncomputable def Zg0:nA:=kX aB0 0 99
theorem Zc0:∀(k:Nat) {g:nA},GOk g→GOk (rJ k g)
 | 0,_,h=>h
 | k+1,g,h=>by
  rw[rJ]
  split
  ·exact h
  ·exact Zc0 k (QV h 0 _)
theorem gY:∀(k:Nat) (g:nA),E_ g (rJ k g)
 | 0,g=>E_.refl g
 | k+1,g=>by
  rw[rJ]
  split
  ·exact E_.refl g
  ·exact(JX g 0 _).trans (gY k _)
theorem NY{g:nA}(h:GOk g)(id most:Int):GOk (kX g id most):=Zc0 _ (TZ h id)
theorem lm0(g:nA)(id most:Int):E_ g (kX g id most):=(VY g id oI).trans (gY _ _)
theorem eY(g:nA)(id:Int)(data:ByteArray):E_ g (oJ g id data).g:=by
 unfold oJ
 split
 ·exact E_.refl g
 rename_i c
 obtain⟨hi,u,hu⟩:=BU (Classical.byContradiction c)
 rw[hu]
 show E_ g (ZP g id u (U8 u.r data)).g
 have h1:E_ g (pI g id u (U8 u.r data).r):=E_.XG g hi ⟨rfl,rfl⟩
 have h2:E_ (pI g id u (U8 u.r data).r) (doS (pI g id u (U8 u.r data).r) id { u with r:=(U8 u.r data).r } (U8 u.r data).o).1:=on0 _ hi _ _
 unfold ZP
 split
 ·exact h1
 split
 ·exact h1.trans h2
 ·exact h1.trans h2
section
variable {B:Base} {w:World} {σ τ:List Dat} {K:PtK}
set_option maxHeartbeats 4000000 in
theorem jo0(hT:VT B)(hW:qC B)(hP:VI B)(hcom:Zg0.committed=[Aa0 smE,Aa0 smE]):Gives prog B (Z0 CF #[]) (.bool true):=by
 refine Gives.intro fun B' w K base h k=>?_
 replace hT:=base hT
 replace hW:=base hW
 replace hP:=base hP
 refine iH.up ?_
 unfold iH.pt
 have ok0:=Jl0.1
 have ke0:=Jl0.2 B'
 have ok1:GOk Br0:=NY ok0 0 99
 have ke1:bG Br0.mem B':=(lm0 ji0 0 99).keep ke0
 have ok2:GOk Er0:=TS ok1 0 smD
 have ke2:bG Er0.mem B':=(eY Br0 0 smD).keep ke1
 have ok3:GOk aB0:=TS ok2 0 smD
 have ke3:bG aB0.mem B':=(eY Er0 0 smD).keep ke2
 have ok4:GOk Zg0:=NY ok3 0 99
 refine h.make (fun B2 own base2=>eG0 (base2 hT) (base2 hW) (base2 hP)) fun u τ w1 hp h=>?_
 obtain⟨pg,rfl,rfl⟩:=hp
 rw[uX]
 refine h.make (fun B2 own base2=>cj0 smC) fun u τ w2 hp h=>?_
 rcases hp with⟨_,pl,rfl,rfl⟩ | ⟨hr,_,_⟩
 case inr=>exact absurd Ij0 hr
 have h:Rel B' w2 [kC pg ji0,lsD pl smL]:=h
 rw[OA gd0,d_,OA WH,d_,Oe0]
 refine h.XH (α:=OD) ⟨0,3,⟨#[]⟩⟩ Q8 (by decide) fun rv w3 h=>?_
 have hrv:rv.oneCell'=true:=h.oneCell (i:=2) rfl
 obtain⟨rx,rn,rc,rfl⟩:=FW h 2 rfl
 rw[KU]
 refine h.R8 (ds:=(smE.raw ⟨.slice rx rn rc,rfl⟩).cs.toArray) fQ rfl M8 rfl (fun v hv=>Enc.one (smE.raw ⟨.slice rx rn rc,rfl⟩) v hv) fun e3 w4 h=>?_
 have h:Rel B' w4 [kC pg ji0,lsD pl smL,Y3 R3 (.slice rx rn rc) smE.row,O1 e3 U1 (smE.raw ⟨.slice rx rn rc,rfl⟩).cs.toArray]:=h
 refine h.act 0 rfl (fun B2 own base2=>Dj0 (base2 hT) (base2 hW) (base2 hP) ok0 (ke0.mono base2) 0 99 (by omega)) fun v e' τ w5 hp h=>?_
 obtain⟨rfl,rfl⟩:=hp
 have h:Rel B' w5 [kC pg Br0,lsD pl smL,Y3 R3 (.slice rx rn rc) smE.row,O1 e3 U1 (smE.raw ⟨.slice rx rn rc,rfl⟩).cs.toArray]:=h
 rw[h.r9 3 rfl M8 rfl]
 refine h.ask (fun B2 own base2=>QS (base2 hP) ZJ (v:=⟨.slice rx rn rc,rfl⟩) (Y3.read (own (i:=2) rfl))) fun w6 h=>?_
 refine h.act 0 rfl (fun B2 own base2=>Cg0 (base2 hT) (base2 hP) ok1 (ke1.mono base2) 0 smD) fun v e' τ w7 hp h=>?_
 obtain⟨_,rfl,rfl⟩:=hp
 have h:Rel B' w7 [kC pg Er0,lsD pl smL,Y3 R3 (.slice rx rn rc) smE.row,O1 e3 U1 (smE.raw ⟨.slice rx rn rc,rfl⟩).cs.toArray]:=h
 rw[h.r9 3 rfl M8 rfl]
 refine h.ask (fun B2 own base2=>QS (base2 hP) ZJ (v:=⟨.slice rx rn rc,rfl⟩) (Y3.read (own (i:=2) rfl))) fun w6 h=>?_
 refine h.act 0 rfl (fun B2 own base2=>Cg0 (base2 hT) (base2 hP) ok2 (ke2.mono base2) 0 smD) fun v e' τ w7 hp h=>?_
 obtain⟨_,rfl,rfl⟩:=hp
 refine h.act 0 rfl (fun B2 own base2=>Dj0 (base2 hT) (base2 hW) (base2 hP) ok3 (ke3.mono base2) 0 99 (by omega)) fun v e' τ w8 hp h=>?_
 obtain⟨rfl,rfl⟩:=hp
 have h:Rel B' w8 [kC pg Zg0,lsD pl smL,Y3 R3 (.slice rx rn rc) smE.row,O1 e3 U1 (smE.raw ⟨.slice rx rn rc,rfl⟩).cs.toArray]:=h
 refine h.make (fun B2 own base2=>gn0 (own (i:=0) rfl) ok4.com) fun cv τ w9 hp h=>?_
 subst hp
 rw[hcom] at h
 have h:Rel B' w9 [kC pg Zg0,lsD pl smL,Y3 R3 (.slice rx rn rc) smE.row,O1 e3 U1 (smE.raw ⟨.slice rx rn rc,rfl⟩).cs.toArray,Y3 M3 cv ([smD,smD]:List ByteArray)]:=h
 rw[O4.len (Y3.read (h.here (i:=4) rfl)) K7,Q7,G5,K3]
 refine⟨fun _=>?_,fun c=>absurd rfl c⟩
 have i0:∀{Kp:Value→Prop} {w':World} {τ:List Dat},Rel B' w' (kC pg Zg0 :: lsD pl smL :: Y3 R3 (.slice rx rn rc) smE.row :: O1 e3 U1 (smE.raw ⟨.slice rx rn rc,rfl⟩).cs.toArray :: Y3 M3 cv ([smD,smD]:List ByteArray) :: τ)→(M0 prog (I5 Z4 cv (.int .i64 0)) fun t39=>Y0 prog (X0 M3 t39) w' Kp)=Kp (.string smD):=by
  intro Kp w' τ h
  obtain⟨g,o,hx,hc⟩:=O4.idx (Y3.read (h.here (i:=4) rfl)) K7 (P:=prog) (i:=0) (show 0<2 by omega)
  rw[show ((0:Int))=((0:Nat):Int) from rfl,hx,K6.ld0 hc U6 (v := .string smD) rfl]
 rw[i0 h]
 clear i0
 have hsl:(Aa0 smE).length≤100000000:=by
  have hr:=am0 ZJ.len ZJ.row
  have l1:=Q6 ZJ.kind
  have l2:=Q6 ZJ.producer
  have l3:=Q6 ZJ.epoch
  have l4:=Q6 ZJ.seq
  have l5:=wE (bl smE.source) (by decide)
  have l6:=Q6 ZJ.schema
  have l7:=Q6 ZJ.time
  have l8:=wE (dG smE.row) (by omega)
  have l9:(bl smE.source).length≤20:=by decide
  unfold Aa0
  simp only[List.length_append]
  omega
 refine h.make (fun B2 own base2=>Uf0 (base2 hW) hsl) fun u τ w10 hp h=>?_
 obtain⟨v1,rfl,rfl⟩:=hp
 rw[yj0 ZJ] at h ⊢
 have h:Rel B' w10 [kC pg Zg0,lsD pl smL,Y3 R3 (.slice rx rn rc) smE.row,O1 e3 U1 (smE.raw ⟨.slice rx rn rc,rfl⟩).cs.toArray,Y3 M3 cv ([smD,smD]:List ByteArray),Y3 R3 v1.1 smE.row]:=h
 refine h.act 1 rfl (fun B2 own base2=>Jm0 dB0 (Y3.read (own (j:=5) (by decide) rfl)) (by decide) (fun x hx=>by rw[List.mem_singleton.1 hx];decide)) fun u e' τ w11 hp h=>?_
 obtain⟨rfl,rfl,rfl⟩:=hp
 obtain⟨f1,f2,f3,f4⟩:=fB0 v1
 have f5:=fun v'=>eB0 v1 v'
 have hgood:=(nY dB0.x (smE.raw v1) smE.row (by show (0:Int)<_;omega) (by show (0:Int)<_;omega))
 have hxe:(OE smL smE v1).1.x=(GD smL.x (smE.raw v1) smE.row).2:=rfl
 rw[←hxe] at hgood
 have hnx:(OE smL smE v1).1.x.next<1000000000:=by have:=hgood.2.2.2.1;have e:smL.x.next=0:=rfl;omega
 have hrx:(OE smL smE v1).1.x.refused<1000000000:=by have:=hgood.2.2.2.2;have e:smL.x.refused=0:=rfl;omega
 have hkx:(OE smL smE v1).1.x.known.length≤4611686018427387904:=by rw[hgood.2.2.1];decide
 rw[f1]
 generalize (OE smL smE v1).1=l1 at *
 have h:Rel B' w11 (lsD pl l1 :: [kC pg Zg0,Y3 R3 (.slice rx rn rc) smE.row,O1 e3 U1 (smE.raw ⟨.slice rx rn rc,rfl⟩).cs.toArray,Y3 M3 cv ([smD,smD]:List ByteArray),Y3 R3 v1.1 smE.row]):=h.pick [1,0,2,3,4,5] (by decide)
 obtain⟨⟨px,ps⟩,dv,h⟩:=lsD.open h
 have h:Rel B' w11 [O1 pl F4 #[ptr px,ptr ps,dv.1],intD px l1.x,U7 ps l1.s,Y3 U1 dv.1 l1.done,kC pg Zg0,Y3 R3 (.slice rx rn rc) smE.row,O1 e3 U1 (smE.raw ⟨.slice rx rn rc,rfl⟩).cs.toArray,Y3 M3 cv ([smD,smD]:List ByteArray),Y3 R3 v1.1 smE.row]:=h
 have h:=h.tick
 generalize tick w11=w11 at *
 simp -zeta only[J5,U0 jC,U0 A9,U0 VD,Nat.zero_add]
 rw[h.ld 0 rfl KA (o:=0) (v:=ptr px) rfl]
 obtain⟨g,o,hx,hc⟩:=O4.idx (Y3.read (h.here (i:=7) rfl)) K7 (P:=prog) (i:=1) (show 1<2 by omega)
 rw[show ((1:Int))=((1:Nat):Int) from rfl,hx,K6.ld0 hc U6 (v := .string smD) rfl]
 clear hx hc
 refine h.make (fun B2 own base2=>Uf0 (base2 hW) hsl) fun u τ w12 hp h=>?_
 obtain⟨v2,rfl,rfl⟩:=hp
 rw[yj0 ZJ] at h ⊢
 refine⟨h.is 0 rfl KA (o:=0) rfl,?_⟩
 refine h.act 1 rfl (fun B2 own base2=>Zr0 (en:=smE.raw v2) (r:=smE.row) hgood.1 hnx hrx (Y3.read (own (j:=9) (by decide) rfl)) (by decide) hkx) fun u e' τ w13 hp h=>?_
 obtain⟨rfl,rfl,rfl⟩:=hp
 obtain⟨f6,f7⟩:=f5 v2
 have hg2:=(nY hgood.1 (smE.raw v2) smE.row hnx hrx).1
 generalize GD l1.x (smE.raw v2) smE.row=a at *
 obtain⟨⟨n,f⟩,x2⟩:=a
 simp only[Prod.mk.injEq] at f6
 obtain⟨rfl,rfl⟩:=f6
 rw[M9,D9,lC]
 have h:Rel B' w13 [O1 pl F4 #[ptr px,ptr ps,dv.1],intD px x2,U7 ps l1.s,Y3 U1 dv.1 l1.done,kC pg Zg0,Y3 R3 (.slice rx rn rc) smE.row,O1 e3 U1 (smE.raw ⟨.slice rx rn rc,rfl⟩).cs.toArray,Y3 M3 cv ([smD,smD]:List ByteArray),Y3 R3 v1.1 smE.row,Y3 R3 v2.1 smE.row]:=h
 have h:=h.tick
 generalize tick w13=w13 at *
 have isl:∀{w':World} {ρ:List Dat},Rel B' w' (O1 pl F4 #[ptr px,ptr ps,dv.1] :: intD px x2 :: U7 ps l1.s :: Y3 U1 dv.1 l1.done :: ρ)→Is prog (M5 .len #[D6] Q0 #[false] #[dv.1]) (.int .i64 l1.done.length) w':=by
  intro w' ρ h
  have:=O4.len (P:=prog) (w:=w') (T:=D6) (U:=Q0) (bs:=#[false]) (Kp:=fun x=>x = .int .i64 l1.done.length) (Y3.read (h.here (i:=3) rfl)) iA
  obtain⟨x,h1,rfl⟩:=this.mpr rfl
  exact h1
 rw[h.ld 0 rfl fA (o:=2) (v:=dv.1) rfl,O4.len (Y3.read (h.here (i:=3) rfl)) iA,F7,K3]
 refine⟨fun _=>?_,fun c=>absurd (show (l1.done.length:Int)=1 by omega) c⟩
 rw[h.ld 0 rfl O7 (o:=1) (v:=ptr ps) rfl]
 refine h.ask (fun B2 own base2=>cb0 (U7.read (own (i:=2) rfl))) fun w14 h=>?_
 rw[F7,K3]
 refine⟨fun _=>?_,fun c=>absurd f3 c⟩
 rw[F7,K3]
 refine⟨fun _=>?_,fun c=>absurd rfl c⟩
 rw[F7,K3]
 refine⟨fun _=>?_,fun c=>absurd rfl c⟩
 rw[h.ld 0 rfl KA (o:=0) (v:=ptr px) rfl]
 refine h.ask (fun B2 own base2=>qv0 (own (i:=1) rfl) hg2) fun w15 h=>?_
 refine⟨isl h,h.is 0 rfl fA (o:=2) rfl,?_⟩
 rw[F7,K3]
 refine⟨fun _=>?_,fun c=>absurd f7 c⟩
 rw[h.r9 6 rfl M8 rfl,h.r9 6 rfl M8 rfl]
 refine h.ask (fun B2 own base2=>QS (base2 hP) ZJ (v:=⟨.slice rx rn rc,rfl⟩) (Y3.read (own (i:=5) rfl))) fun w16 h=>?_
 refine⟨h.bV 6 rfl M8 rfl,h.is 0 rfl O7 (o:=1) rfl,isl h,h.is 0 rfl fA (o:=2) rfl,?_⟩
 refine h.ask (fun B2 own base2=>QS (base2 hP) ZJ (v:=⟨.slice rx rn rc,rfl⟩) (Y3.read (own (i:=5) rfl))) fun w17 h=>?_
 refine⟨h.is 0 rfl O7 (o:=1) rfl,isl h,h.is 0 rfl fA (o:=2) rfl,?_⟩
 refine h.NV ([smD,smD]:List ByteArray) K7 fun v5 w18 h=>?_
 refine⟨h.is 0 rfl O7 (o:=1) rfl,isl h,h.is 0 rfl fA (o:=2) rfl,?_⟩
 refine h.ask (fun B2 own base2=>Dm0 (Y3.read (own (i:=7) rfl)) (Y3.read (own (i:=10) rfl)) (show 2≤_ by omega)) fun w19 h=>?_
 refine⟨h.is 0 rfl O7 (o:=1) rfl,isl h,h.is 0 rfl fA (o:=2) rfl,?_⟩
 rw[decide_eq_true rfl]
 exact k _ _ h.nil
end
theorem iM{a b:Int}{r s:Bs}(ha:inI a)(hb:inI b)(h:encI a++r=encI b++s):a=b∧r=s:=by
 have h1:=yE ha r false
 rw[h,yE hb s false] at h1
 cases h1
 exact⟨rfl,rfl⟩
theorem oy0{a b r s:Bs}(ha:a.length≤9223372036854775807)(hb:b.length≤9223372036854775807)(h:yB a++r=yB b++s):a=b∧r=s:=by
 have h1:=BR ha r
 rw[h,BR hb s] at h1
 cases h1
 exact⟨rfl,rfl⟩
theorem eq0{x y:uB}{r s:Bs}(hx:MR x)(hy:MR y)(h:d9 x++r=d9 y++s):x=y∧r=s:=by
 unfold d9 at h
 rw[List.append_assoc,List.append_assoc] at h
 obtain⟨h1,h2⟩:=iM hx.term hy.term h
 have l1:=hx.data
 have l2:=hy.data
 obtain⟨h3,h4⟩:=oy0 (by rw[aP];omega) (by rw[aP];omega) h2
 refine⟨?_,h4⟩
 obtain⟨a,b⟩:=x
 obtain⟨c,d⟩:=y
 simp only at h1 h3
 rw[h1,←pO b,h3,pO]
theorem Jo0:∀{l m:List uB},(∀x∈l,MR x)→(∀x∈m,MR x)→l.length=m.length→l.flatMap d9=m.flatMap d9→l=m
 | [],[],_,_,_,_=>rfl
 | [],y :: m,_,_,h,_=>by cases h
 | x :: l,[],_,_,h,_=>by cases h
 | x :: l,y :: m,hl,hm,hn,h=>by
  rw[List.flatMap_cons,List.flatMap_cons] at h
  obtain⟨h1,h2⟩:=eq0 (hl x (List.mem_cons_self ..)) (hm y (List.mem_cons_self ..)) h
  rw[h1,Jo0 (fun x hx=>hl x (List.mem_cons_of_mem _ hx)) (fun x hx=>hm x (List.mem_cons_of_mem _ hx)) (by simpa using hn) h2]
theorem my0{m n:R9}(hm:bM m)(hn:bM n)(h:EN m=EN n):m=n:=by
 have e8:∀m:R9,EN m=encI m.kind++(encI m.from_++(encI m.to_++(encI m.term++(encI m.index++(encI m.prev++(encI m.commit++(encI (if m.yes then 1 else 0)++(encI m.recs.length++m.recs.flatMap d9)))))))):=fun m=>by
  unfold EN EL
  simp only[List.flatMap_cons,List.flatMap_nil,List.append_assoc,List.nil_append]
 rw[e8,e8] at h
 have hi:=hm.ints
 unfold EL at hi
 simp only[List.mem_cons,List.not_mem_nil,or_false,forall_eq_or_imp,forall_eq] at hi
 obtain⟨i0,i1,i2,i3,i4,i5,i6,i7⟩:=hi
 have hj:=hn.ints
 unfold EL at hj
 simp only[List.mem_cons,List.not_mem_nil,or_false,forall_eq_or_imp,forall_eq] at hj
 obtain⟨j0,j1,j2,j3,j4,j5,j6,j7⟩:=hj
 have f1:=hm.few
 have f2:=hn.few
 obtain⟨a0,h⟩:=iM i0 j0 h
 obtain⟨a1,h⟩:=iM i1 j1 h
 obtain⟨a2,h⟩:=iM i2 j2 h
 obtain⟨a3,h⟩:=iM i3 j3 h
 obtain⟨a4,h⟩:=iM i4 j4 h
 obtain⟨a5,h⟩:=iM i5 j5 h
 obtain⟨a6,h⟩:=iM i6 j6 h
 obtain⟨a7,h⟩:=iM i7 j7 h
 obtain⟨a8,h⟩:=iM (by unfold inI;omega) (by unfold inI;omega) h
 have a9:=Jo0 hm.recs hn.recs (by omega) h
 obtain⟨m0,m1,m2,m3,m4,m5,m6,m7,m8⟩:=m
 obtain⟨n0,n1,n2,n3,n4,n5,n6,n7,n8⟩:=n
 simp only at a0 a1 a2 a3 a4 a5 a6 a7 a9
 subst a0 a1 a2 a3 a4 a5 a6 a9
 congr 1
 cases m7<;>cases n7<;>first | rfl | (simp at a7)
theorem Ov0{m:R9}(hm:bM m):DZ (ofL (EN m))=m:=by
 have hex:∃n,bM n∧ofL (EN m)=ofL (EN n):=⟨m,hm,rfl⟩
 unfold DZ
 rw[dif_pos hex]
 obtain⟨h1,h2⟩:=hex.choose_spec
 have h3:=congrArg bl h2
 rw[GI,GI] at h3
 exact(my0 hm h1 h3).symm
structure PI (fs:Int→YA) (qs:List Sec):Prop where
 le:∀f,(fs f).last.size≤(fs f).now.size
 eq:∀f (i:Nat),(⟨f,((i / 64:Nat):Int)⟩:Sec)∈qs∨(bl (fs f).last).getD i 0=(bl (fs f).now).getD i 0
 len:∀f,(fs f).now.size=(fs f).last.size∨(0<(fs f).now.size∧(⟨f,((((fs f).now.size-1) / 64:Nat):Int)⟩:Sec)∈qs)
abbrev PIs(s:DS):Prop:=PI s.fs s.queue
theorem PI.flat(g:Int→ByteArray):PI (fun f=>⟨g f,g f⟩) []:=⟨fun _=>Nat.le_refl _,fun _ _ => .inr rfl,fun _ => .inl rfl⟩
theorem PI.add{s:DS}(h:PIs s)(f:Int)(a:Nat)(t:ByteArray):PIs (KJ s f a t):=by
 unfold KJ
 split
 ·exact h
 ·rename_i ht
  have hpos:=size_pos ht
  have hsz:=rb0 (s:=(s.fs f).now) (t:=t) (at_:=a)
  rw[if_neg ht] at hsz
  refine⟨fun g=>?_,fun g i=>?_,fun g=>?_⟩
  ·show (upd s.fs f _ g).last.size≤(upd s.fs f _ g).now.size
   unfold upd
   split
   ·show (s.fs f).last.size≤(JO _ _ _).size
    have:=h.le f
    omega
   ·exact h.le g
  ·show _∈JU f s.queue (secs a t.size)∨(bl (upd s.fs f _ g).last).getD i 0=(bl (upd s.fs f _ g).now).getD i 0
   by_cases e:g=f
   ·subst e
    by_cases hin:a / 64≤i / 64∧i / 64≤(a+t.size-1) / 64
    ·exact .inl (dM.2 (.inr ⟨i / 64,(Vg0 hpos).2 hin,rfl⟩))
    ·rcases h.eq g i with h1 | h1
     ·exact .inl (dM.2 (.inl h1))
     ·right
      rw[upd_same]
      show (bl (s.fs g).last).getD i 0=(bl (JO _ _ _)).getD i 0
      unfold JO
      rw[if_neg ht,GI,jA0,B_,if_neg (by omega)]
      exact h1
   ·rw[upd_ne e]
    rcases h.eq g i with h1 | h1
    ·exact .inl (dM.2 (.inl h1))
    ·exact .inr h1
  ·show (upd s.fs f _ g).now.size=(upd s.fs f _ g).last.size∨(0<(upd s.fs f _ g).now.size∧(⟨g,((((upd s.fs f _ g).now.size-1) / 64:Nat):Int)⟩:Sec)∈JU f s.queue (secs a t.size))
   by_cases e:g=f
   ·subst e
    rw[upd_same]
    show (JO _ _ _).size=(s.fs g).last.size∨(0<(JO _ _ _).size∧_)
    by_cases hgrow:(s.fs g).now.size<a+t.size
    ·right
     refine⟨by omega,dM.2 (.inr ⟨(a+t.size-1) / 64,(Vg0 hpos).2 ⟨by omega,Nat.le_refl _⟩,?_⟩)⟩
     congr 3
     show (JO _ _ _).size-1=_
     omega
    ·have e2:(JO (s.fs g).now a t).size=(s.fs g).now.size:=by omega
     rcases h.len g with h1 | ⟨h1,h2⟩
     ·left;omega
     ·right
      refine⟨by omega,dM.2 (.inl ?_)⟩
      show (⟨g,((((JO (s.fs g).now a t).size-1) / 64:Nat):Int)⟩:Sec)∈s.queue
      rw[e2]
      exact h2
   ·rw[upd_ne e]
    exact(h.len g).imp id fun⟨h1,h2⟩=>⟨h1,dM.2 (.inl h2)⟩
theorem PI.write{s:DS}(h:PIs s)(f a:Int)(t:ByteArray):PIs (fG s f a t):=by unfold fG;split;exact PI.add h _ _ _;exact h
theorem PI.Te0{s:DS}(h:PIs s)(keep:List Int):PIs (SL s keep):=by
 unfold SL
 split
 ·exact h
 ·exact PI.flat _
theorem PI.ends{s:DS}(h:PIs s):PIs (vF s):=by unfold vF;split<;>exact h
theorem PI.come{s:DS}(h:PIs s):PIs (TF s):=by unfold TF;split;exact PI.Te0 (PI.ends h) _;exact PI.ends h
theorem PI.settle{s:DS}(h:PIs s)(f:Int)(x:ByteArray):PIs (OM s f x):=by
 refine⟨fun g=>?_,fun g i=>?_,fun g=>?_⟩
 ·show (upd s.fs f _ g).last.size≤(upd s.fs f _ g).now.size
  unfold upd
  split
  ·exact Nat.le_refl _
  ·exact h.le g
 ·show _∈s.queue.filter _∨(bl (upd s.fs f _ g).last).getD i 0=(bl (upd s.fs f _ g).now).getD i 0
  by_cases e:g=f
  ·subst e;right;rw[upd_same]
  ·rw[upd_ne e]
   exact(h.eq g i).imp (fun h=>List.mem_filter.2 ⟨h,by simp [e]⟩) id
 ·show (upd s.fs f _ g).now.size=(upd s.fs f _ g).last.size∨(0<(upd s.fs f _ g).now.size∧(⟨g,((((upd s.fs f _ g).now.size-1) / 64:Nat):Int)⟩:Sec)∈s.queue.filter _)
  by_cases e:g=f
  ·subst e;left;rw[upd_same]
  ·rw[upd_ne e]
   exact(h.len g).imp id fun⟨h1,h2⟩=>⟨h1,List.mem_filter.2 ⟨h2,by simp [e]⟩⟩
structure Calm (s:DS):Prop where
 down:s.down=false
 armed:s.armed=0
 lost:s.lost=0
structure Sim (f:Int) (s s':DS):Prop where
 fs:∀g,g≠f→s'.fs g=s.fs g
 q:∀x:Sec,x.file≠f→(x∈s'.queue↔x∈s.queue)
 down:s'.down=s.down
 armed:s'.armed=s.armed
 lost:s'.lost=s.lost
 keep:s'.keep=s.keep
theorem Sim.refl(f:Int)(s:DS):Sim f s s:=⟨fun _ _=>rfl,fun _ _=>Iff.rfl,rfl,rfl,rfl,rfl⟩
theorem Sim.trans{f:Int}{a b c:DS}(h:Sim f a b)(h':Sim f b c):Sim f a c :=
 ⟨fun g hg=>(h'.fs g hg).trans (h.fs g hg),fun x hx=>(h'.q x hx).trans (h.q x hx),h'.down.trans h.down,h'.armed.trans h.armed,h'.lost.trans h.lost,h'.keep.trans h.keep⟩
theorem Sim.calm{f:Int}{a b:DS}(h:Sim f a b)(hc:Calm a):Calm b:=⟨h.down.trans hc.down,h.armed.trans hc.armed,h.lost.trans hc.lost⟩
theorem Sim.add(s:DS)(f:Int)(a:Nat)(t:ByteArray):Sim f s (KJ s f a t):=by
 unfold KJ
 split
 ·exact Sim.refl f s
 ·refine⟨fun g hg=>upd_ne hg,fun x hx=>⟨fun h=>?_,fun h=>dM.2 (.inl h)⟩,rfl,rfl,rfl,rfl⟩
  rcases dM.1 h with h | ⟨n,_,rfl⟩
  ·exact h
  ·exact absurd rfl hx
theorem Sim.settle(s:DS)(f:Int)(x:ByteArray):Sim f s (OM s f x):=by
 refine⟨fun g hg=>upd_ne hg,fun y hy=>⟨fun h=>(List.mem_filter.1 h).1,fun h=>List.mem_filter.2 ⟨h,by simpa using hy⟩⟩,rfl,rfl,rfl,rfl⟩
theorem tx0(s:DS)(f:Int)(a:Nat)(t:ByteArray):(KJ s f a t).fs f=⟨JO (s.fs f).now a t,(s.fs f).last⟩:=by
 unfold KJ
 split
 ·rename_i e
  unfold JO
  rw[if_pos e]
 ·exact upd_same
theorem Tb0(s:DS)(f:Int)(x:ByteArray):(OM s f x).fs f=⟨x,x⟩:=upd_same
theorem OW{s:DS}(h:Calm s){f:Int}(hf:0≤f∧f<16){a:Int}{t:ByteArray}(ha:0≤a)(hfit:a+t.size≤16777216):fB s f a t=(KJ s f a.toNat t,0):=by
 have hE:ZL s f a t=0:=(um0 h.down).2 ⟨hf,ha,hfit⟩
 rw[oi0 h.armed,hE]
 unfold fG
 rw[if_pos hE]
theorem wS{s:DS}(h:Calm s){f:Int}(hf:0≤f∧f<16):L9 s f=(OM s f (s.fs f).now,0):=by
 unfold L9
 rw[Ck0 h.armed,if_neg (by rw[qU.2 ⟨h.down,hf⟩];decide),if_neg (by rw[h.lost];decide)]
def uH0(st:CS)(N v:ByteArray):ByteArray:=JO (JO N (ZQ (UF st)).toNat v) 0 (mJ st v)
theorem ar0(st:CS):0≤ZQ (UF st)∧ZQ (UF st)≤131072:=by
 rcases rW st with e | e<;>rw[e]<;>decide
theorem qq0(st:CS)(v:ByteArray):(mJ st v).size=5:=rfl
theorem Cj0{s:DS}(h:Calm s){f:Int}(hf:0≤f∧f<16){st:CS}{v:ByteArray}(hv:v.size≤65536) :
  ∃s',EX s st f v=((s',⟨UF st,v,true⟩),0)∧Sim f s s'∧s'.fs f=⟨uH0 st (s.fs f).now v,uH0 st (s.fs f).now v⟩∧∀x∈s'.queue,x.file≠f:=by
 have hs1:∃s1,OO s st f=(s1,0)∧Sim f s s1∧(s1.fs f).now=(s.fs f).now:=by
  unfold OO
  split
  ·rw[wS h hf]
   exact⟨_,rfl,Sim.settle s f _,by rw[Tb0]⟩
  ·exact⟨s,rfl,Sim.refl f s,rfl⟩
 obtain⟨s1,e1,m1,n1⟩:=hs1
 have c1:=m1.calm h
 have ho:=ar0 st
 have hk:UF (qI st)=UF st:=rfl
 unfold EX
 rw[if_neg (by omega),e1]
 dsimp only
 rw[if_neg (fun hh=>hh rfl)]
 unfold set1
 rw[hk,OW c1 hf ho.1 (by omega)]
 dsimp only
 rw[if_neg (fun hh=>hh rfl)]
 have m2:=Sim.add s1 f (ZQ (UF st)).toNat v
 have n2:=tx0 s1 f (ZQ (UF st)).toNat v
 generalize KJ s1 f (ZQ (UF st)).toNat v=s2 at m2 n2 ⊢
 have c2:=m2.calm c1
 unfold set2
 rw[wS c2 hf]
 dsimp only
 rw[if_neg (fun hh=>hh rfl)]
 have m3:=Sim.settle s2 f (s2.fs f).now
 have n3:=Tb0 s2 f (s2.fs f).now
 generalize OM s2 f (s2.fs f).now=s3 at m3 n3 ⊢
 have c3:=m3.calm c2
 unfold sr0
 rw[hk,show mJ (qI st) v=mJ st v from rfl,OW c3 hf (Int.le_refl 0) (by rw[qq0];decide)]
 dsimp only
 rw[if_neg (fun hh=>hh rfl)]
 have m4:=Sim.add s3 f (0:Int).toNat (mJ st v)
 have n4:=tx0 s3 f (0:Int).toNat (mJ st v)
 generalize KJ s3 f (0:Int).toNat (mJ st v)=s4 at m4 n4 ⊢
 have c4:=m4.calm c3
 rw[wS c4 hf]
 refine⟨OM s4 f (s4.fs f).now,rfl,(((m1.trans m2).trans m3).trans m4).trans (Sim.settle s4 f _),?_,fun x hx=>by simpa using (List.mem_filter.1 hx).2⟩
 rw[Tb0,n4,n3,n2,n1]
 rfl
theorem Wq0{s:DS}(h:Calm s)(j:JP){b n:Int}(hb:inI b)(hn:inI n):∃s' c',FL s j b n=((s',{ j with c:=c',broken:=false }),0)∧Calm s':=by
 have hsz:=sg0 hb hn
 obtain⟨s',e,hs,_,_⟩:=Cj0 h (f:=1) (by omega) (st:=j.c) (v:=UT b n) (by omega)
 refine⟨s',⟨UF j.c,UT b n,true⟩,?_,hs.calm h⟩
 unfold FL
 rw[e]
 rfl
theorem FB0{s:DS}(h:Calm s){j:JP}(hj:0≤j.bytes){t:ByteArray}(ht:j.bytes+t.size≤16777216):∃s',wsJ s j t=(s',0)∧Calm s':=by
 have e1:=OW h (f:=0) (by omega) hj ht
 have h1:Calm (KJ s 0 j.bytes.toNat t):=(Sim.add s 0 j.bytes.toNat t).calm h
 have e2:=wS h1 (f:=0) (by omega)
 refine⟨_,?_,(Sim.settle (KJ s 0 j.bytes.toNat t) 0 ((KJ s 0 j.bytes.toNat t).fs 0).now).calm h1⟩
 unfold wsJ
 rw[e1,if_pos rfl]
 exact e2
theorem mk0{s:DS}(h:Calm s){j:JP}(hj:JOk j)(hb:j.broken=false){l:List Bs}(hl:l≠[])(hr:j.bytes+(H8 l).length≤1048576) :
  ∃s' j',IJ s j l=((s',j'),0)∧Calm s'∧j'.broken=false∧j'.list=j.list++l∧JOk j':=by
 have hjb:=hj.bytes
 have hjf:=hj.form
 have hjc:=fP j.list
 have hlc:=fP l
 have hfs:(ofL (H8 l)).size=(H8 l).length:=Q_ _
 obtain⟨s1,e1,h1⟩:=FB0 h hjb.1 (t:=ofL (H8 l)) (by rw[hfs];omega)
 obtain⟨s2,c2,e2,h2⟩:=Wq0 h1 j (b:=j.bytes+(H8 l).length) (n:=j.list.length+l.length) (by unfold inI;omega) (by unfold inI;omega)
 have e:IJ s j l=((s2,{ j with c:=c2,broken:=false,list:=j.list++l,bytes:=j.bytes+(H8 l).length }),0):=by
  unfold IJ
  rw[if_neg (by rw[hb];decide),if_neg hl,if_neg (by omega),e1,if_pos rfl]
  unfold dZ
  simp only
  rw[e2]
  rfl
 refine⟨s2,_,e,h2,rfl,rfl,?_⟩
 have:=Ge0 (s:=s) (l:=l) hj
 rw[e] at this
 exact this
theorem Wo0{m:UH}{u:UpP}{o:vE}(h:Calm m.d)(hj:JOk u.j)(hb:u.j.broken=false)(hh:inI o.hard.term∧inI o.hard.vote)(hf:0<o.from_→o.from_-1=u.j.list.length∧o.recs≠[]∧u.j.bytes+(H8 (o.recs.map d9)).length≤1048576) :
  ∃s' j' c',XE m u o=(⟨s',m.kv,some ⟨j',c',u.r⟩⟩,0)∧Calm s'∧JOk j'∧j'.broken=false∧j'.list=if 0<o.from_ then u.j.list++o.recs.map d9 else u.j.list:=by
 have h1:∃s1 c1,YL m u o=((s1,c1),0)∧Calm s1:=by
  unfold YL
  split
  ·have hsz:=sg0 hh.1 hh.2
   obtain⟨s',e,hs,_,_⟩:=Cj0 h (f:=2) (by omega) (st:=u.c) (v:=UT o.hard.term o.hard.vote) (by omega)
   exact⟨s',_,e,hs.calm h⟩
  ·exact⟨m.d,u.c,rfl,h⟩
 obtain⟨s1,c1,e1,h1⟩:=h1
 unfold XE
 rw[e1]
 simp only
 unfold vS
 by_cases c:0<o.from_
 ·obtain⟨f1,f2,f3⟩:=hf c
  rw[if_pos ⟨rfl,c⟩,if_pos c]
  have hcut:PV s1 u.j (min (o.from_-1) u.j.list.length)=((s1,u.j),0):=by
   have hm:min (o.from_-1) (u.j.list.length:Int)=u.j.list.length:=by omega
   rw[hm]
   unfold PV
   rw[if_neg (by rw[hb];decide),if_neg (by omega),if_pos rfl]
  obtain⟨s2,j2,e2,h2,h3,h4,h5⟩:=mk0 h1 hj hb (l:=o.recs.map d9) (fun hh=>f2 (List.map_eq_nil_iff.1 hh)) f3
  refine⟨s2,j2,c1,?_,h2,h5,h3,h4⟩
  unfold IW
  rw[hcut,if_neg (fun hh=>hh rfl)]
  simp only
  rw[e2]
  rfl
 ·rw[if_neg (fun hh=>c hh.2),if_neg c]
  exact⟨s1,u.j,c1,rfl,h1,hj,hb,rfl⟩
structure ck0 (s:DS):Prop where
 calm:Calm s
 fs:∀f,(s.fs f).now=⟨#[]⟩
theorem Gx0:ck0 iC:=⟨⟨rfl,rfl,rfl⟩,fun _=>rfl⟩
theorem ra0{s:DS}(h:ck0 s){f:Int}(hf:0≤f∧f<16):∃s',L9 s f=(s',0)∧ck0 s':=by
 refine⟨OM s f (s.fs f).now,wS h.calm hf,(Sim.settle s f (s.fs f).now).calm h.calm,fun g=>?_⟩
 show ((upd s.fs f ⟨(s.fs f).now,(s.fs f).now⟩) g).now=_
 by_cases c:g=f
 ·subst c;rw[upd_same];exact h.fs g
 ·rw[upd_ne c];exact h.fs g
theorem zi0{s:DS}(h:ck0 s){f:Int}(hf:0≤f∧f<16){a n:Int}(ha:0≤a)(hn:0≤n):LD s f a n=(⟨#[]⟩,0):=by
 rw[wA0 (qU.2 ⟨h.calm.down,hf⟩) ha hn,h.fs f]
 have e:bl (⟨#[]⟩:ByteArray)=[]:=rfl
 rw[e,List.drop_nil,List.take_nil]
 try rfl
theorem yi0{s:DS}(h:ck0 s){f:Int}(hf:0≤f∧f<16):EQ s f=(some c0S,0):=by
 unfold EQ
 rw[zi0 h hf (by omega) (by omega)]
 rfl
def j0J:JP:=⟨[],0,false,c0S⟩
theorem Jp0{s:DS}(h:ck0 s):∃s',rM s=(s',(some j0J,0))∧ck0 s':=by
 obtain⟨s1,e1,h1⟩:=ra0 h (f:=0) (by omega)
 obtain⟨s2,e2,h2⟩:=ra0 h1 (f:=1) (by omega)
 refine⟨s2,?_,h2⟩
 unfold rM
 rw[e1]
 simp only
 rw[if_neg (fun hh=>hh rfl),e2]
 simp only
 rw[if_neg (fun hh=>hh rfl)]
 unfold uW
 rw[yi0 h2 (by omega)]
 simp only
 unfold Bo0
 have hn:VF c0S=((0,0),true):=by
  unfold VF
  rw[if_neg (by decide)]
 rw[hn]
 simp only
 rw[zi0 h2 (by omega) (by omega) (by omega)]
 have hq:vU (bl (⟨#[]⟩:ByteArray)) 0=([],true):=by
  have e:bl (⟨#[]⟩:ByteArray)=[]:=rfl
  rw[e]
  have hQ:Qc0 [] 0=([],⟨[],false⟩):=by
   unfold Qc0
   show wb0 0 1 [] ⟨[],false⟩=_
   rw[wb0,if_neg (by decide)]
  unfold vU
  rw[hQ]
  rfl
 simp only
 rw[hq,if_neg (by decide),if_neg (fun hh=>hh rfl),if_neg (by decide),if_neg (fun hh=>hh rfl)]
 rfl
theorem bw0{s:DS}(h:ck0 s):∃s',dY s=(s',(some (j0J,c0S),0))∧ck0 s':=by
 obtain⟨s1,e1,h1⟩:=ra0 h (f:=2) (by omega)
 obtain⟨s2,e2,h2⟩:=Jp0 h1
 refine⟨s2,?_,h2⟩
 unfold dY
 rw[e1]
 simp only
 rw[if_neg (fun hh=>hh rfl)]
 unfold Do0
 rw[e2]
 simp only
 rw[yi0 h2 (by omega)]
theorem eE0{id:Int}(hi:I3 id)(kv:Value):∃s',upM id kv iC=(⟨s',kv,some ⟨j0J,c0S,newR id ⟨0,-1⟩ []⟩⟩,0)∧Calm s':=by
 obtain⟨s',e,h⟩:=bw0 Gx0
 refine⟨s',?_,h.calm⟩
 unfold upM
 rw[e]
 simp only
 have hh:vZ c0S=⟨0,-1⟩:=by
  unfold vZ
  rw[if_neg (by decide)]
 unfold rD0
 rw[hh]
 have hn:WY id ⟨0,-1⟩ (j0J.list.map IY):=by
  unfold I3 at hi
  exact⟨by omega,by show (0:Int)≤0∧(0:Int)≤_;omega,by show (-1:Int) ≤ -1∧(-1:Int)≤2;omega,Nat.zero_le _,rfl⟩
 rw[if_pos hn]
 rfl
abbrev wm0:=Int×Int×R9
def KV(p:wm0):bU:=⟨p.1,p.2.1,ofL (EN p.2.2)⟩
structure AG where
 r:T3 G8
 fl:List wm0
 com:List Bs
 deriving DecidableEq
def gc0(id:Int)(fl:List wm0)(m:R9):List wm0:=if lU id=true∧lU m.to_=true∧id≠m.to_ then(if fl.length<500 then fl++[(id,m.to_,m)] else fl) else fl
def aZ(c:List Bs)(r:G8):List Bs:=if r.commit≤c.length then c else(r.log.take r.commit.toNat).map fun x=>bl x.data
def aDo(a:AG)(id:Int)(r:G8)(o:vE):AG :=
 ⟨a.r.set id r,o.send.foldl (gc0 id) a.fl,aZ (aZ (aZ a.com (a.r.set id r).a) (a.r.set id r).b) (a.r.set id r).c⟩
def ye0(a:AG)(id:Int)(f:G8→G8×vE):AG:=aDo a id (f (a.r.get id)).1 (f (a.r.get id)).2
def qe0(a:AG):AG:=match a.fl with
 | []=>a
 | (_,t,m) :: fl=>ye0 { a with fl:=fl } t fun r=>nJ r m
def cZ:Nat→AG→AG
 | 0,a=>a
 | k+1,a=>if a.fl=[] then a else cZ k (qe0 a)
def we0(a:AG)(id:Int)(data:ByteArray):AG:=aDo a id (U8 (a.r.get id) data).r (U8 (a.r.get id) data).o
theorem Zm0(a:Int):Au0 0 a=0:=by
 unfold Au0
 rw[Int.zero_fdiv]
 rfl
theorem Qi0(fl:List bU)(a b:Int):xZ ⟨fl,0⟩ a b=(lU a&&lU b):=by
 unfold xZ
 show (lU a&&(lU b&&decide (Au0 0 a=Au0 0 b)))=_
 rw[Zm0,Zm0,decide_eq_true rfl,Bool.and_true]
theorem lx0(id:Int)(fl:List wm0)(m:R9):(xV ⟨fl.map KV,0⟩ ⟨id,m.to_,ofL (EN m)⟩).2=⟨(gc0 id fl m).map KV,0⟩:=by
 unfold xV gc0
 simp only
 split
 ·rename_i h
  rw[if_pos (by rw[Qi0,h.1,h.2.1];rfl),List.length_map]
  split
  ·rw[List.map_append]
   rfl
  ·rfl
 ·rfl
theorem ic0(id:Int):∀(l:List R9) (fl:List wm0),sendAll id ⟨fl.map KV,0⟩ l=⟨(l.foldl (gc0 id) fl).map KV,0⟩
 | [],_=>rfl
 | m :: l,fl=>by
  show sendAll id (xV ⟨fl.map KV,0⟩ ⟨id,m.to_,ofL (EN m)⟩).2 l=_
  rw[lx0,ic0 id l]
  rfl
structure Rw0 (m:UH) (r:G8):Prop where
 calm:Calm m.d
 up:∃j c,m.up=some ⟨j,c,r⟩∧JOk j∧j.broken=false∧j.list=r.log.map d9
structure AIs (g:nA) (a:AG):Prop where
 mem:∀i,I3 i→Rw0 (g.mem.get i) (a.r.get i)
 net:g.net=⟨a.fl.map KV,0⟩
 com:g.committed=a.com
 fit:∀p∈a.fl,bM p.2.2
theorem qu0{id:Int}{fl:List wm0}{m:R9}(h:∀p∈fl,bM p.2.2)(hm:bM m):∀p∈gc0 id fl m,bM p.2.2:=by
 intro p hp
 unfold gc0 at hp
 split at hp
 ·split at hp
  ·rcases List.mem_append.1 hp with hp | hp
   ·exact h p hp
   ·rw[List.mem_singleton.1 hp]
    exact hm
  ·exact h p hp
 ·exact h p hp
theorem bZ(id:Int):∀(l:List R9) (fl:List wm0),(∀p∈fl,bM p.2.2)→(∀m∈l,bM m)→∀p∈l.foldl (gc0 id) fl,bM p.2.2
 | [],_,h,_=>h
 | m :: l,fl,h,hl=>bZ id l (gc0 id fl m) (qu0 h (hl m (List.mem_cons_self ..))) fun x hx=>hl x (List.mem_cons_of_mem _ hx)
theorem te0{m:UH}{r:G8}(h:Rw0 m r)(c:List Bs):lS c m=aZ c r:=by
 obtain⟨j,c',hu,_⟩:=h.up
 unfold lS
 rw[hu]
 rfl
theorem set_set{α:Type}(t:T3 α){i:Int}(hi:I3 i)(x y:α):(t.set i x).set i y=t.set i y:=by
 rcases hi.cases with rfl | rfl | rfl<;>rfl
theorem kx0{g:nA}{a:AG}{id:Int}(hi:I3 id)(h:AIs g a){u:UpP}(hu:(g.mem.get id).up=some u){r:G8}{o:vE}(hh:inI o.hard.term∧inI o.hard.vote)(hfit:∀m∈o.send,bM m)
  (hl:(0<o.from_∧o.from_-1=(a.r.get id).log.length∧o.recs≠[]∧r.log=(a.r.get id).log++o.recs∧u.j.bytes+(H8 (o.recs.map d9)).length≤1048576)∨(¬0<o.from_∧r.log=(a.r.get id).log)) :
  AIs (doS (pI g id u r) id { u with r:=r } o).1 (aDo a id r o)∧(doS (pI g id u r) id { u with r:=r } o).2=0:=by
 obtain⟨hcalm,j,c,hu2,hj1,hj2,hj3⟩:=h.mem id hi
 rw[hu] at hu2
 cases hu2
 have hm:(pI g id ⟨j,c,a.r.get id⟩ r).mem.get id={ (g.mem.get id) with up:=some ⟨j,c,r⟩ }:=T3.IA _ hi _
 obtain⟨s',j',c',e,h1,h2,h3,h4⟩:=Wo0 (m:={ (g.mem.get id) with up:=some ⟨j,c,r⟩ }) (u:=⟨j,c,r⟩) (o:=o) hcalm hj1 hj2 hh (fun hp=>by
  rcases hl with⟨_,l1,l2,_,l4⟩ | ⟨l0,_⟩
  ·exact⟨by rw[l1,hj3,List.length_map],l2,l4⟩
  ·exact absurd hp l0)
 have hj':j'.list=r.log.map d9:=by
  rw[h4]
  rcases hl with⟨l0,_,_,l3,_⟩ | ⟨l0,l3⟩
  ·rw[if_pos l0,l3,List.map_append]
   show j.list++_=_
   rw[hj3]
  ·rw[if_neg l0,l3]
   exact hj3
 unfold doS
 rw[hm,e]
 refine⟨?_,rfl⟩
 have hmem:∀i,I3 i→Rw0 ((XG (pI g id ⟨j,c,a.r.get id⟩ r) id ⟨s',(g.mem.get id).kv,some ⟨j',c',r⟩⟩).mem.get i) ((a.r.set id r).get i):=by
  intro i hi2
  show Rw0 (((g.mem.set id _).set id _).get i) _
  rw[set_set _ hi]
  by_cases ci:i=id
  ·subst ci
   rw[T3.IA _ hi,T3.IA _ hi]
   exact⟨h1,j',c',rfl,h2,h3,hj'⟩
  ·rw[T3.WG _ hi hi2 _ ci,T3.WG _ hi hi2 _ ci]
   exact h.mem i hi2
 unfold do2
 rw[if_pos rfl]
 refine⟨hmem,?_,?_,bZ id o.send a.fl h.fit hfit⟩
 ·show sendAll id g.net o.send=_
  rw[h.net,ic0]
  rfl
 ·show qM _ 3=_
  have n0:=fun c=>te0 (hmem 0 (by unfold I3;omega)) c
  have n1:=fun c=>te0 (hmem 1 (by unfold I3;omega)) c
  have n2:=fun c=>te0 (hmem 2 (by unfold I3;omega)) c
  show lS (lS (lS g.committed _) _) _=_
  rw[h.com]
  show _=aZ (aZ (aZ a.com (a.r.set id r).a) (a.r.set id r).b) (a.r.set id r).c
  exact(n2 _).trans (congrArg (fun x=>aZ x (a.r.set id r).c) ((n1 _).trans (congrArg (fun x=>aZ x (a.r.set id r).b) (n0 _))))
def a0A:AG:=⟨⟨newR 0 ⟨0,-1⟩ [],newR 1 ⟨0,-1⟩ [],newR 2 ⟨0,-1⟩ []⟩,[],[]⟩
theorem If0{n:Nat}(h:n<10):Go.Lib.itoa (n:Int)=[UInt8.ofNat (48+n)]:=by rw[dz0,kU h]
theorem QU{n:Nat}(h:n<10):encI (n:Int)=[UInt8.ofNat (48+n),59]:=by
 unfold encI
 rw[If0 h]
 rfl
theorem xY{s:Bs}(h:s.length<10):yB s=UInt8.ofNat (48+s.length) :: 58 :: (s++[44]):=by
 unfold yB
 rw[If0 h]
 rfl
def smB:Bs:=[48,59,49,59,48,59,48,59,49,58,115,44,49,59,55,59,57,58,49,59,48,59,51,59,48,58,44,44]
theorem UA0:Aa0 smE=smB:=by
 have e0:encI 0=[48,59]:=QU (n:=0) (by omega)
 have e1:encI 1=[49,59]:=QU (n:=1) (by omega)
 have e3:encI 3=[51,59]:=QU (n:=3) (by omega)
 have e7:encI 7=[55,59]:=QU (n:=7) (by omega)
 have t0:yB []=[48,58,44]:=xY (s:=[]) (by decide)
 have ts:yB [115]=[49,58,115,44]:=xY (s:=[115]) (by decide)
 have hr:dG smE.row=[49,59,48,59,51,59,48,58,44]:=by
  show encI 1++((encI 0++encI 3++yB [])++[])=_
  rw[e0,e1,e3,t0]
  rfl
 have tr:yB [49,59,48,59,51,59,48,58,44]=[57,58,49,59,48,59,51,59,48,58,44,44]:=xY (s:=[49,59,48,59,51,59,48,58,44]) (by decide)
 unfold Aa0
 rw[hr,tr]
 show encI 0++encI 1++encI 0++encI 0++yB [115]++encI 1++encI 7++_=_
 rw[e0,e1,e7,ts]
 rfl
theorem AG0:smD=ofL smB:=by
 unfold smD
 rw[UA0]
theorem Ll0{id:Int}(hi:I3 id):Rw0 (upM id gNil iC).1 (newR id ⟨0,-1⟩ []):=by
 obtain⟨s',e,h⟩:=eE0 hi gNil
 rw[e]
 exact⟨h,j0J,c0S,rfl,⟨by show (0:Int)≤0∧(0:Int)≤_;omega,rfl⟩,rfl,rfl⟩
theorem YC0:AIs ji0 a0A:=⟨fun i hi=>by
 rcases hi.cases with rfl | rfl | rfl
 ·exact Ll0 hi
 ·exact Ll0 hi
 ·exact Ll0 hi,rfl,rfl,fun p hp=>by cases hp⟩
def XT(old r:G8)(o:vE):Bool :=
 decide (inI o.hard.term∧inI o.hard.vote)&&((decide (0<o.from_)&&(decide (o.from_-1=old.log.length)&&(decide (o.recs≠[])&&(decide (r.log=old.log++o.recs)&&decide (r.log.length≤10)))))||(decide (¬0<o.from_)&&decide (r.log=old.log)))
theorem fv0{l:List uB}(h:∀x∈l,MR x)(hl:l.length≤10):(H8 (l.map d9)).length≤1048576:=by
 have h1:=xE yB (l.map d9) 100065 fun x hx=>by
  obtain⟨y,hy,rfl⟩:=List.mem_map.1 hx
  have h1:=RU (h y hy)
  have h2:=wE (d9 y) (by omega)
  omega
 rw[List.length_map] at h1
 have:(H8 (l.map d9)).length≤100065 * l.length:=h1
 omega
theorem du0{old r:G8}{o:vE}{u:UpP}(h:XT old r o=true)(hj:JOk u.j)(hjl:u.j.list=old.log.map d9)(hr:Y9 r) :
  (inI o.hard.term∧inI o.hard.vote)∧((0<o.from_∧o.from_-1=old.log.length∧o.recs≠[]∧r.log=old.log++o.recs∧u.j.bytes+(H8 (o.recs.map d9)).length≤1048576)∨(¬0<o.from_∧r.log=old.log)):=by
 unfold XT at h
 rw[Bool.and_eq_true] at h
 refine⟨of_decide_eq_true h.1,?_⟩
 have h2:=h.2
 rw[Bool.or_eq_true] at h2
 rcases h2 with h2 | h2
 ·simp only[Bool.and_eq_true,decide_eq_true_eq] at h2
  obtain⟨a,b,c,d,e⟩:=h2
  refine .inl ⟨a,b,c,d,?_⟩
  have h1:=fv0 (fun x hx=>Ws0 hr hx) e
  rw[d] at h1
  have hf:=hj.form
  rw[hjl] at hf
  unfold H8 at h1 hf ⊢
  rw[List.map_append,List.flatMap_append,List.length_append] at h1
  omega
 ·simp only[Bool.and_eq_true,decide_eq_true_eq] at h2
  exact .inr ⟨h2.1,h2.2⟩
theorem qB0{g:nA}{id:Int}(hi:I3 id){u:UpP}(hu:(g.mem.get id).up=some u):upE g id=0:=by
 unfold upE
 unfold I3 at hi
 rw[if_neg (by omega),hu]
 rfl
theorem fp0{g:nA}{a:AG}{id:Int}(hi:I3 id)(h:AIs g a){f:G8→G8×vE}(hr:Y9 (f (a.r.get id)).1)(hf:QN (f (a.r.get id)).2)(hs:XT (a.r.get id) (f (a.r.get id)).1 (f (a.r.get id)).2=true):AIs (zV g id f).1 (ye0 a id f):=by
 obtain⟨_,j,c,hu,hj1,hj2,hj3⟩:=h.mem id hi
 obtain⟨hh,hl⟩:=du0 (u:=⟨j,c,a.r.get id⟩) hs hj1 hj3 hr
 have:=(kx0 hi h hu hh hf.send hl).1
 unfold zV
 rw[if_neg (fun hh=>hh (qB0 hi hu)),hu]
 exact this
theorem Nl0{g:nA}{a:AG}(hok:GOk g)(h:AIs g a){id:Int}(hi:I3 id):Y9 (a.r.get id)∧((a.r.get id).role=2→1≤(a.r.get id).hard.term):=by
 obtain⟨_,j,c,hu,_⟩:=h.mem id hi
 have:=hok.ups id hi _ hu
 exact⟨this.r,this.term⟩
theorem cp0{g:nA}{a:AG}{id:Int}(hi:I3 id)(hok:GOk g)(h:AIs g a)(hs:XT (a.r.get id) (oI (a.r.get id)).1 (oI (a.r.get id)).2=true):AIs (lh0 g id).1 (ye0 a id oI) :=
 fp0 hi h (je0 (Nl0 hok h hi).1).1 (rf0 (Nl0 hok h hi).1) hs
theorem Oc0{g:nA}{a:AG}{id:Int}(hi:I3 id)(hok:GOk g)(h:AIs g a)(data:ByteArray)(he:(U8 (a.r.get id) data).e=0)(hs:XT (a.r.get id) (U8 (a.r.get id) data).r (U8 (a.r.get id) data).o=true):AIs (oJ g id data).g (we0 a id data):=by
 obtain⟨_,j,c,hu,hj1,hj2,hj3⟩:=h.mem id hi
 obtain⟨ho1,ho2⟩:=Nl0 hok h hi
 obtain⟨hh,hl⟩:=du0 (u:=⟨j,c,a.r.get id⟩) hs hj1 hj3 (iV ho1 ho2 data).1
 have:=kx0 hi h hu hh (iW ho1 ho2 data).send hl
 unfold oJ
 rw[if_neg (fun hh=>hh (qB0 hi hu)),hu]
 show AIs (ZP g id ⟨j,c,a.r.get id⟩ (U8 (a.r.get id) data)).g _
 unfold ZP
 rw[if_neg (fun hh=>hh he),if_neg (fun hh=>hh this.2)]
 exact this.1
def dy0(a:AG):Bool:=match a.fl with
 | []=>false
 | (f,t,m) :: _=>decide (I3 t)&&(lU f&&(lU t&&(XT (a.r.get t) (nJ (a.r.get t) m).1 (nJ (a.r.get t) m).2)))
def Ro0:Nat→AG→Bool
 | 0,_=>true
 | k+1,a=>if a.fl=[] then true else dy0 a&&Ro0 k (qe0 a)
theorem ln0{g:nA}{a:AG}(hok:GOk g)(h:AIs g a)(hs:dy0 a=true):AIs (lZ g 0).1 (qe0 a):=by
 obtain⟨r,fl,com⟩:=a
 cases fl with
 | nil=>cases hs
 | cons p fl =>
  obtain⟨f,t,m⟩:=p
  unfold dy0 at hs
  simp only[Bool.and_eq_true,decide_eq_true_eq] at hs
  obtain⟨hi,hf,ht,hs⟩:=hs
  have hnet:g.net=⟨KV (f,t,m) :: fl.map KV,0⟩:=h.net
  have hat:atS g.net 0=some (0,KV (f,t,m)):=by
   rw[hnet]
   rfl
  have hd:aA g.net 0=((KV (f,t,m),0),⟨fl.map KV,0⟩):=by
   unfold aA
   rw[hat]
   simp only
   have hh:xZ g.net (KV (f,t,m)).from_ (KV (f,t,m)).to_=true:=by
    rw[hnet,Qi0]
    show (lU f&&lU t)=true
    rw[hf,ht]
    rfl
   rw[if_pos hh,hnet]
   rfl
  have hfm:bM m:=h.fit (f,t,m) (List.mem_cons_self ..)
  have hb:DZ (ofL (EN m))=m:=Ov0 hfm
  have h2:AIs (CU g ⟨fl.map KV,0⟩) ⟨r,fl,com⟩:=⟨h.mem,rfl,h.com,fun p hp=>h.fit p (List.mem_cons_of_mem _ hp)⟩
  have hok2:GOk (CU g ⟨fl.map KV,0⟩):=by
   have:=tp0 hok (uY (i:=0) hok.net)
   rw[hd] at this
   exact this
  have ho:=Nl0 hok2 h2 hi
  have:=fp0 (f:=fun r=>nJ r m) hi h2 (el0 ho.1 ho.2 m).1 (qf0 ho.1 ho.2 m) hs
  unfold lZ WN
  rw[hd]
  show AIs (if(0:Int)≠0 then _ else zV (CU g ⟨fl.map KV,0⟩) t fun r=>nJ r (DZ (ofL (EN m)))).1 _
  rw[if_neg (fun c=>c rfl),hb]
  exact this
theorem OY:∀(k:Nat) {g:nA} {a:AG},GOk g→AIs g a→Ro0 k a=true→AIs (rJ k g) (cZ k a)
 | 0,_,_,_,h,_=>h
 | k+1,g,a,hok,h,hs=>by
  unfold Ro0 at hs
  rw[rJ,cZ]
  by_cases c:a.fl=[]
  ·rw[if_pos c,if_pos (show g.net.fl=[] by rw[h.net,c];rfl)]
   exact h
  ·rw[if_neg c] at hs
   rw[Bool.and_eq_true] at hs
   rw[if_neg c,if_neg (fun e=>c (List.map_eq_nil_iff.1 (show a.fl.map KV=[] by rw[h.net] at e;exact e)))]
   exact OY k (QV hok 0 _) (ln0 hok h hs.1) hs.2
def dB:ByteArray:=⟨smB.toArray⟩
def a1B:AG:=cZ 99 (ye0 a0A 0 oI)
def a2B:AG:=we0 a1B 0 dB
def a3B:AG:=we0 a2B 0 dB
def a4B:AG:=cZ 99 (ye0 a3B 0 oI)
theorem CA0:XT (a0A.r.get 0) (oI (a0A.r.get 0)).1 (oI (a0A.r.get 0)).2=true∧Ro0 99 (ye0 a0A 0 oI)=true:=by decide
theorem ge0:((U8 (a1B.r.get 0) dB).e=0∧XT (a1B.r.get 0) (U8 (a1B.r.get 0) dB).r (U8 (a1B.r.get 0) dB).o=true)∧((U8 (a2B.r.get 0) dB).e=0∧XT (a2B.r.get 0) (U8 (a2B.r.get 0) dB).r (U8 (a2B.r.get 0) dB).o=true):=by decide
theorem Mt0:XT (a3B.r.get 0) (oI (a3B.r.get 0)).1 (oI (a3B.r.get 0)).2=true∧Ro0 99 (ye0 a3B 0 oI)=true:=by decide
theorem FD0:a4B.com=[smB,smB]:=by decide
theorem nm0:smD=dB:=by rw[AG0];rfl
theorem CG0:Zg0.committed=[Aa0 smE,Aa0 smE]:=by
 have k0:=Jl0.1
 have k1:GOk Br0:=NY k0 0 99
 have k2:GOk Er0:=TS k1 0 smD
 have k3:GOk aB0:=TS k2 0 smD
 have i1:AIs Br0 a1B:=OY 99 (TZ k0 0) (cp0 (by unfold I3;omega) k0 YC0 CA0.1) CA0.2
 have i2:AIs Er0 a2B:=by
  have:=Oc0 (id:=0) (by unfold I3;omega) k1 i1 dB ge0.1.1 ge0.1.2
  rw[←nm0] at this
  unfold a2B
  rw[←nm0]
  exact this
 have i3:AIs aB0 a3B:=by
  have:=Oc0 (id:=0) (by unfold I3;omega) k2 i2 dB ge0.2.1 ge0.2.2
  rw[←nm0] at this
  unfold a3B
  rw[←nm0]
  exact this
 have i4:AIs Zg0 a4B:=OY 99 (TZ k3 0) (cp0 (by unfold I3;omega) k3 i3 Mt0.1) Mt0.2
 rw[i4.com,FD0,UA0]
section
variable {B:Base}
theorem OD0(hT:VT B)(hW:qC B)(hP:VI B):Gives prog B (Z0 CF #[]) (.bool true):=jo0 hT hW hP CG0
end
theorem rj0{W:World}:∀{l:List EnD},(∀x∈l,aR W x)→∃L:List (EnP×SV),PE L=l∧Os0 L (EE W)∧∀p∈L,p.1.row.length≤maxLen∧inI p.1.schema∧inI p.1.time∧∀v∈p.1.row,VK v
 | [],_=>⟨[],rfl,fun x hx=>(by cases hx),fun x hx=>(by cases hx)⟩
 | x :: l,hq=>by
  obtain⟨L,h1,h2,h3⟩:=rj0 (l:=l) fun y hy=>hq y (List.mem_cons_of_mem _ hy)
  obtain⟨_,_,_,_,_,a5,a6,ls,hr,hm,hv⟩:=hq x List.mem_cons_self
  refine⟨(⟨x.kind,x.producer,x.epoch,x.seq,x.source,x.schema,x.time,ls⟩,x.row) :: L,?_,fun y hy=>?_,fun y hy=>?_⟩
  ·show _ :: PE L=_
   rw[h1]
   rfl
  ·rcases List.mem_cons.1 hy with rfl | hy
   ·exact hr
   ·exact h2 y hy
  ·rcases List.mem_cons.1 hy with rfl | hy
   ·refine⟨hm,a5,a6,fun v hv2=>?_⟩
    obtain⟨b1,b2,b3⟩:=hv v hv2
    exact⟨b1,b2,by rw[B_];unfold Bt0 maxLen at b3;omega⟩
   ·exact h3 y hy
theorem rC0{L:List (EnP×SV)}{n:Int}(h:qC0 (L.map (·.1)) n=true):(L.length:Int)≤n∧∀p∈L,p.1.row.length≤3∧p.1.source.size≤20∧∀v∈p.1.row,v.s.size≤20:=by
 unfold qC0 at h
 rw[Bool.and_eq_true,List.length_map] at h
 refine⟨of_decide_eq_true h.1,fun p hp=>?_⟩
 have:=List.all_eq_true.1 h.2 p.1 (List.mem_map.2 ⟨p,hp,rfl⟩)
 unfold zP at this
 simp only[Bool.and_eq_true,decide_eq_true_eq,List.all_eq_true] at this
 exact this
section
variable {W:World} {K:PtK}
theorem lsD.here{B:Base}{w:World}{τ:List Dat}{pl:Nat}{l:LS}(h:Rel B w (lsD pl l :: τ)):∃px ps dv,Rel B w (O1 pl F4 #[ptr px,ptr ps,(dv:SV).1] :: intD px l.x :: U7 ps l.s :: Y3 U1 dv.1 l.done :: τ):=by
 obtain⟨⟨px,ps⟩,dv,h⟩:=lsD.open h
 exact⟨px,ps,dv,h⟩
set_option maxHeartbeats 4000000 in
theorem mh0{v cv:Value}{l0:List EnD}{cuts:List Int}{c:CfD}{fr:Int}(hT:VT (EE W))(hW:qC (EE W))(hP:VI (EE W))(r0:O4 v l0 (EE W))(hm:l0.length≤maxLen)(hq:∀x∈l0,aR W x)(rc:O4 cv cuts (EE W))
  (fin:∀w' σ,Rel (EE W) w' σ→K (.bool true) w'):V_.pt c.v v cv (.int .i64 fr) W K:=by
 obtain⟨L,hLe,q,hlq⟩:=rj0 hq
 have r:O4 v (PE L) (EE W):=by rw[hLe];exact r0
 have hal:(PE L).length=L.length:=List.length_map ..
 have hlL:L.length≤maxLen:=by rw[←hal,hLe];exact hm
 unfold V_.pt
 have h:=EE.start W
 refine h.box fun cb w1 h=>?_
 have h:Rel (EE W) w1 [O1 cb V4 c.cs.toArray]:=h
 refine h.ask (fun B2 own base2=>OD0 (base2 hT) (base2 hW) (base2 hP)) fun w2 h=>?_
 rw[h.r9 0 rfl uD rfl]
 refine h.make (fun B2 own base2=>cj0 c) fun u τ w3 hp h=>?_
 have hf:=fun {σ:List Dat} {w:World} {K:PtK} (h:Rel (EE W) w σ)=>h.ask (K:=K) (fun B2 own base2=>Mv0 (base2 r) (base2 q) (by unfold maxLen at hlL;omega) (n:=120) (by omega))
 refine hf h fun w4 h=>?_
 clear hf
 rw[V7,G5,R5]
 refine⟨fun hfew=>?_,fun _=>fin _ _ h⟩
 obtain⟨h120,hfew⟩:=rC0 hfew
 rw[O4.len rc N8,x9,K3]
 refine⟨fun _=>fin _ _ h,fun hcl=>?_⟩
 rcases hp with⟨hRc,pl,rfl,rfl⟩ | ⟨_,rfl,rfl⟩
 case inr =>
  rw[wT WH,lC]
  exact fin _ _ h
 rw[OA WH,d_]
 have h:Rel (EE W) w4 [lsD pl ⟨YP c ksL,⟨0,0,0,[]⟩,[]⟩,O1 cb V4 c.cs.toArray]:=h.pick [1,0] (by decide)
 have hst0:BS c L 0 ⟨YP c ksL,⟨0,0,0,[]⟩,[]⟩ []:=⟨iD0 hRc,AD0,rfl,Int.le_refl _,Nat.le_refl _,fun p hp=>by cases hp⟩
 refine F6 (fun x w'=>∃(i:Nat) (l:LS) (D:List (EnP×SV)),i≤L.length∧x=(.int .i64 i,())∧BS c L i l D∧Rel (EE W) w' [lsD pl l,O1 cb V4 c.cs.toArray]) (fun x _=>L.length-(match x.1 with | .int _ n=>n.toNat | _=>0))
  ⟨0,_,_,Nat.zero_le _,rfl,hst0,h⟩ ?_
 clear h hst0
 rintro x w5 ⟨i,l,D,hi,rfl,hI,h⟩ next hnext
 rw[O4.len r iA,hal,G6,K3]
 refine⟨fun hlt=>?_,fun hge=>?_⟩
 ·have hil:i<L.length:=by omega
  obtain⟨go,oo,hx,hcl2⟩:=O4.idx r iA (P:=prog) (i:=i) (by omega)
  have hel:(PE L)[i]'(by omega)=(L[i]).1.raw (L[i]).2:=by simp [PE]
  rw[hel] at hcl2
  have hcl2:K6 go oo ((L[i]).1.raw (L[i]).2).cs (EE W):=hcl2
  have hmem:=List.getElem_mem hil
  have hrow:=q _ hmem
  have hval:=hlq _ hmem
  have hlit:=hfew _ hmem
  have hok:Yw0 (L[i]).1:=⟨hval.2.2.2⟩
  obtain⟨hyes,D',hI'⟩:=hI.step (by omega) hmem hok
  generalize L[i]=p at *
  obtain⟨e,ev⟩:=p
  rw[hx,K6.r9 (h.L6 hcl2) M8 rfl]
  refine h.act 0 rfl (fun B2 own base2=>Jm0 (hI.ok (by omega)) (base2 hrow) (by omega) (fun x hx=>by have:=hlit.2.2 x hx;omega)) fun u e' τ w6 hp h=>?_
  obtain⟨rfl,rfl,rfl⟩:=hp
  rw[hyes,V7,G5,lC]
  have h:Rel (EE W) w6 [lsD pl (OE l e ev).1,O1 cb V4 c.cs.toArray]:=h
  clear hI hyes
  generalize (OE l e ev).1=l at *
  clear D
  refine P6 fun J hJ=>?_
  replace hJ:∀l',BS c L (i+1) l' D'→∀w',Rel (EE W) w' [lsD pl l',O1 cb V4 c.cs.toArray]→J () w':=by
   intro l' hI2 w' h
   refine hJ _ _ ?_
   obtain⟨px,ps,dv,h⟩:=lsD.here h
   have h:=h.tick
   generalize tick w'=w' at *
   obtain⟨n1,n2⟩:=hI2.ret.next
   have hfi:=hI2.ret.first
   have hdl:l'.done.length=D'.length:=by rw[hI2.par.done];unfold PE;rw[List.length_map]
   simp -zeta only[J5,U0 A9,U0 VD,Nat.zero_add]
   rw[h.ld 0 rfl O7 (o:=1) (v:=ptr ps) rfl,h.ld 0 rfl fA (o:=2) (v:=dv.1) rfl,O4.len (Y3.read (h.here (i:=3) rfl)) iA]
   refine h.ask (fun B2 own base2=>cb0 (U7.read (own (i:=2) rfl))) fun w8 h=>?_
   refine⟨?_,h.is 0 rfl fA (o:=2) rfl,?_⟩
   ·have:=O4.len (P:=prog) (w:=w8) (T:=D6) (U:=Q0) (bs:=#[false]) (Kp:=fun x=>x = .int .i64 l'.done.length) (Y3.read (h.here (i:=3) rfl)) iA
    obtain⟨x,h1,rfl⟩:=this.mpr rfl
    exact h1
   rw[Q7,decide_eq_true (show l'.s.next=l'.done.length by omega),Bool.not_true,d_,h.ld 0 rfl O7 (o:=1) (v:=ptr ps) rfl,h.ld 0 rfl O7 (o:=1) (v:=ptr ps) rfl]
   refine h.ask (fun B2 own base2=>Sk0 (U7.read (own (i:=2) rfl))) fun w9 h=>?_
   refine⟨h.is 0 rfl O7 (o:=1) rfl,?_⟩
   refine h.ask (fun B2 own base2=>cb0 (U7.read (own (i:=2) rfl))) fun w10 h=>?_
   rw[x9,decide_eq_false (by omega),d_,h.ld 0 rfl O7 (o:=1) (v:=ptr ps) rfl]
   refine h.ask (fun B2 own base2=>Sk0 (U7.read (own (i:=2) rfl))) fun w11 h=>?_
   rw[G6,decide_eq_false (by omega),d_,Z5,E5 (by omega) (by omega)]
   exact hnext _ _ ⟨i+1,l',D',hil,rfl,hI2,lsD.close (l:=l') (q:=(px,ps)) (v:=dv) h⟩ (by simp only;omega)
  clear hnext
  rw[O4.len rc N8,G6,K3]
  refine⟨fun hic=>?_,fun _=>hJ l hI' _ h⟩
  obtain⟨gc,oc,hxc,hcc⟩:=O4.idx rc N8 (P:=prog) (i:=i) (by omega)
  have hcc:K6 gc oc [(Value.int .i64 cuts[i])] (EE W):=hcc
  generalize cuts[i]=cu at hcc
  simp -zeta only[hxc]
  rw[K6.ld0 (h.L6 hcc) Y2 (v := .int .i64 cu) rfl]
  have h0:=h
  have h:=h.tick
  generalize tick w6=w6t at *
  obtain⟨px,ps,dv,h⟩:=lsD.here h
  obtain⟨n1,n2⟩:=hI'.ret.next
  have hfi:=hI'.ret.first
  have hDl:=hI'.len
  rw[iZ]
  generalize IntKind.i64.wrap _=z
  rw[F7,K3]
  refine⟨fun _=>?_,fun _=>?_⟩
  ·simp -zeta only[J5,U0 A9,Nat.zero_add]
   rw[h.ld 0 rfl O7 (o:=1) (v:=ptr ps) rfl,K6.ld0 (h.L6 hcc) Y2 (v := .int .i64 cu) rfl,TW (by decide)]
   refine h.act 2 rfl (fun B2 own base2=>MG0 _ (by omega)) fun u e' τ w7 hp h=>?_
   obtain⟨rfl,rfl,rfl⟩:=hp
   exact hJ _ (hI'.cut (by omega) (nh0 _ _)) _ (lsD.close (l:={ l with s:=Ye0 l.s _ }) (q:=(px,ps)) (v:=dv) h)
  rw[F7,K3]
  refine⟨fun _=>?_,fun _=>?_⟩
  ·simp -zeta only[J5,U0 A9,Nat.zero_add]
   rw[h.ld 0 rfl O7 (o:=1) (v:=ptr ps) rfl,K6.ld0 (h.L6 hcc) Y2 (v := .int .i64 cu) rfl,TW (by decide)]
   refine h.act 2 rfl (fun B2 own base2=>BF0 _ (by omega)) fun u e' τ w7 hp h=>?_
   obtain⟨rfl,rfl,rfl⟩:=hp
   exact hJ _ (hI'.cut (by omega) (ob0 _ _)) _ (lsD.close (l:={ l with s:=Ye0 l.s _ }) (q:=(px,ps)) (v:=dv) h)
  rw[F7,K3]
  refine⟨fun _=>?_,fun _=>hJ l hI' _ h0⟩
  simp -zeta only[J5,U0 jC,U0 A9,Nat.zero_add]
  have h:Rel (EE W) w6t [O1 pl F4 #[ptr px,ptr ps,dv.1],intD px l.x,U7 ps l.s,Y3 U1 dv.1 l.done,O1 cb V4 c.cs.toArray]:=h
  rw[h.r9 4 rfl uD rfl,h.ld 0 rfl KA (o:=0) (v:=ptr px) rfl]
  refine h.make (fun B2 own base2=>Mc0) fun kv τ w7 hp h=>?_
  subst hp
  refine⟨h.is 0 rfl KA (o:=0) rfl,h.bV 4 rfl uD rfl,?_⟩
  obtain⟨times,hfin⟩:=hI'.par.fin
  have hfit:=hI'.par.good.fit hfin.keys
  have hel:=bq0 hfit
  refine h.ask (fun B2 own base2=>Ry0 (base2 hP) (own (i:=1) rfl) hfit) fun w8 h=>?_
  refine⟨h.bV 4 rfl uD rfl,?_⟩
  have hread:xW c ksL (rZ l.x)=some l.x:=by
   have hg:=hI'.par.good
   have:=ir0 hfit hg.now ⟨hg.next.1,by have:=hg.next;omega⟩ hg.refused.1
   rw[hI'.cfg,hI'.par.known] at this
   exact this
  have h:Rel (EE W) w8 [O1 pl F4 #[ptr px,ptr ps,dv.1],intD px l.x,U7 ps l.s,Y3 U1 dv.1 l.done,O1 cb V4 c.cs.toArray,JA kv ksL]:=h
  refine h.make (fun B2 own base2=>GC0 (base2 hW) c (own (i:=5) rfl) HE0 hel) fun u4 τ w9 hp h=>?_
  rcases hp with⟨_,s',a,hs',rfl,rfl⟩ | ⟨hno,_⟩
  case inr=>rw[hread] at hno;cases hno hRc
  rw[hread] at hs'
  injection hs' with hs'
  subst hs'
  simp -zeta only[M9,D9]
  have h:Rel (EE W) w9 [O1 pl F4 #[ptr px,ptr ps,dv.1],intD px l.x,U7 ps l.s,Y3 U1 dv.1 l.done,O1 cb V4 c.cs.toArray,JA kv ksL,intD a l.x]:=h
  rw[h.ld 0 rfl O7 (o:=1) (v:=ptr ps) rfl]
  refine h.ask (fun B2 own base2=>Ew0 (base2 hW) (U7.read (own (i:=2) rfl)) hI'.ret.right) fun w10 h=>?_
  have hsl:=dv0 hI'.ret.right
  refine h.make (fun B2 own base2=>iB0 (base2 hW) (t:=df0 l.s) (by omega)) fun u5 τ w11 hp h=>?_
  rw[kr0 hI'.ret.right] at hp
  rcases hp with⟨s',b',e,rfl,rfl⟩ | ⟨hn,_⟩
  case inr=>cases hn
  injection e with e
  subst e
  simp -zeta only[M9,D9]
  have h:Rel (EE W) w11 [O1 pl F4 #[ptr px,ptr ps,dv.1],intD px l.x,U7 ps l.s,Y3 U1 dv.1 l.done,O1 cb V4 c.cs.toArray,JA kv ksL,intD a l.x,U7 b' l.s]:=h
  rw[V7,Bool.not_true,d_,V7,Bool.not_true,d_,OA uG,d_,OA UpS,d_]
  refine h.st 0 rfl KA (o:=0) (show 0<3 by omega) rfl fun w12 h=>?_
  refine h.st 0 rfl O7 (o:=1) (show 1<3 by omega) rfl fun w13 h=>?_
  have h:Rel (EE W) w13 [O1 pl F4 #[ptr a,ptr b',dv.1],intD px l.x,U7 ps l.s,Y3 U1 dv.1 l.done,O1 cb V4 c.cs.toArray,JA kv ksL,intD a l.x,U7 b' l.s]:=h
  have h:=h.pick [0,6,7,3,4] (by decide)
  exact hJ l hI' _ (lsD.close (l:=l) (q:=(a,b')) (v:=dv) h)
 clear hnext
 have hie:i=L.length:=by omega
 subst hie
 obtain⟨n1,n2⟩:=hI.ret.next
 have hfi:=hI.ret.first
 have hDl:=hI.len
 obtain⟨px,ps,dv,h⟩:=lsD.here h
 rw[hI.par.done] at h
 have hdl:(PE D).length=D.length:=List.length_map ..
 have hrowsD:∀p∈evP D,O4 p.2.1 p.1.row (EE W):=by
  intro p hp
  obtain⟨j,hj,rfl⟩:=List.getElem_of_mem hp
  rw[KS] at hj
  rw[Nk0 hj]
  exact q _ (hI.sub _ (List.getElem_mem hj))
 have hrlD:∀p∈evP D,p.1.row.length≤4611686018427387904:=by
  intro p hp
  obtain⟨j,hj,rfl⟩:=List.getElem_of_mem hp
  rw[KS] at hj
  rw[Nk0 hj]
  have:=(hfew _ (hI.sub _ (List.getElem_mem hj))).1
  show (D[j]).1.row.length≤_
  omega
 simp -zeta only[J5,U0 A9,Nat.zero_add]
 rw[h.ld 0 rfl O7 (o:=1) (v:=ptr ps) rfl]
 refine h.ask (fun B2 own base2=>ov0 (U7.read (own (i:=2) rfl))) fun w6 h=>?_
 rw[II]
 have hge:l.s.horizon≤max fr l.s.horizon:=by omega
 generalize max fr l.s.horizon=t at hge
 have h:=h.VC Y7 Q3
 have h:=h.VC Y7 Q3
 have h:Rel (EE W) w6 [O1 pl F4 #[ptr px,ptr ps,dv.1],intD px l.x,U7 ps l.s,Y3 U1 dv.1 (PE D),O1 cb V4 c.cs.toArray,Y3 Q3 (.slice none 0 0) ([]:List Y7),Y3 Q3 (.slice none 0 0) ([]:List Y7)]:=h
 refine F6 (fun x w'=>∃(j:Nat) (wv kv:Value),j≤D.length∧x=(wv,kv,.int .i64 j,())∧Rel (EE W) w' [O1 pl F4 #[ptr px,ptr ps,dv.1],intD px l.x,U7 ps l.s,Y3 U1 dv.1 (PE D),O1 cb V4 c.cs.toArray,Y3 Q3 wv (l_ (((evP D).take j).filter fun p=>decide (t≤p.1.time))),Y3 Q3 kv (l_ (((evP D).take j).drop l.s.first.toNat))]) (fun x _=>D.length-(match x.2.2.1 with | .int _ n=>n.toNat | _=>0))
  ⟨0,_,_,Nat.zero_le _,rfl,by rw[List.take_zero,List.drop_nil];exact h⟩ ?_
 clear h
 rintro x w7 ⟨j,wv,kv,hj,rfl,h⟩ next hnext
 simp -zeta only[J5,U0 A9,U0 VD,Nat.zero_add]
 rw[h.ld 0 rfl fA (o:=2) (v:=dv.1) rfl,O4.len (Y3.read (h.here (i:=3) rfl)) iA,hdl,G6,K3]
 refine⟨fun hlt=>?_,fun hgej=>?_⟩
 ·have hjl:j<D.length:=by omega
  obtain⟨go,oo,hx,hcl2⟩:=O4.idx (Y3.read (h.here (i:=3) rfl)) iA (P:=prog) (i:=j) (by omega)
  have hel:(PE D)[j]'(by omega)=(D[j]).1.raw (D[j]).2:=by simp [PE]
  rw[hel] at hcl2
  have hrow:=q _ (hI.sub _ (List.getElem_mem hjl))
  have htake:(evP D).take (j+1)=(evP D).take j++[(evL j (D[j]).1,(D[j]).2)]:=by rw[List.take_succ_eq_append_getElem (by rw[KS];exact hjl),Nk0 hjl]
  generalize hp:D[j]=p at *
  obtain⟨e,ev⟩:=p
  have htake:(evP D).take (j+1)=(evP D).take j++[(evL j e,ev)]:=htake
  have hcl2:K6 go oo (e.raw ev).cs ⟨w7,fun _=>True⟩:=hcl2
  refine P6 fun J hJ=>?_
  replace hJ:∀wv' kv' w',Rel (EE W) w' [O1 pl F4 #[ptr px,ptr ps,dv.1],intD px l.x,U7 ps l.s,Y3 U1 dv.1 (PE D),O1 cb V4 c.cs.toArray,Y3 Q3 wv' (l_ (((evP D).take (j+1)).filter fun p=>decide (t≤p.1.time))),Y3 Q3 kv' (l_ (((evP D).take (j+1)).drop l.s.first.toNat))]→J (wv',kv',()) w':=by
   intro wv' kv' w' h
   refine hJ _ _ ?_
   rw[Z5,E5 (by omega) (by omega)]
   exact hnext _ _ ⟨j+1,wv',kv',hjl,rfl,h⟩ (by simp only;omega)
  clear hnext
  rw[h.ld 0 rfl fA (o:=2) (v:=dv.1) rfl,hx,K6.r9 hcl2 M8 rfl]
  refine h.R8 (ds:=(e.raw ev).cs.toArray) fQ rfl M8 rfl (fun v hv=>Enc.one (e.raw ev) v hv) fun e3 w8 h=>?_
  have h:Rel (EE W) w8 [O1 pl F4 #[ptr px,ptr ps,dv.1],intD px l.x,U7 ps l.s,Y3 U1 dv.1 (PE D),O1 cb V4 c.cs.toArray,Y3 Q3 wv (l_ (((evP D).take j).filter fun p=>decide (t≤p.1.time))),Y3 Q3 kv (l_ (((evP D).take j).drop l.s.first.toNat)),O1 e3 U1 (e.raw ev).cs.toArray]:=h
  simp -zeta only[U0 sJ,U0 kM,U0 UG,U0 aF,Nat.zero_add]
  rw[h.ld 7 rfl U6 (o:=4) (v := .string e.source) rfl,h.ld 7 rfl Y2 (o:=5) (v := .int .i64 e.schema) rfl,h.ld 7 rfl Y2 (o:=6) (v := .int .i64 e.time) rfl,h.ld 7 rfl H7 (o:=7) (v:=ev.1) rfl]
  obtain⟨vx,vn,vc,hvs⟩:∃x n c,ev.1 = .slice x n c:=by obtain⟨x,c,hx,_⟩:=hrow;exact⟨x,_,c,hx⟩
  rw[hvs,UN]
  have hev:(Value.agg #[(.int .i64 0),.int .i64 j,.string e.source,.int .i64 e.schema,.int .i64 e.time,.slice vx vn vc]) = .agg (((evL j e).raw ev).cs.toArray):=by
   show _=Value.agg #[.int .i64 0,.int .i64 j,.string e.source,.int .i64 e.schema,.int .i64 e.time,ev.1]
   rw[hvs]
  rw[hev]
  refine h.R8 (ds:=((evL j e).raw ev).cs.toArray) TC rfl Y8 rfl (fun v hv=>Enc.one ((evL j e).raw ev) v hv) fun y3 w9 h=>?_
  have h:Rel (EE W) w9 [O1 pl F4 #[ptr px,ptr ps,dv.1],intD px l.x,U7 ps l.s,Y3 U1 dv.1 (PE D),O1 cb V4 c.cs.toArray,Y3 Q3 wv (l_ (((evP D).take j).filter fun p=>decide (t≤p.1.time))),Y3 Q3 kv (l_ (((evP D).take j).drop l.s.first.toNat)),O1 e3 U1 (e.raw ev).cs.toArray,O1 y3 Q3 ((evL j e).raw ev).cs.toArray]:=h
  have hlf:(l_ (((evP D).take j).filter fun p=>decide (t≤p.1.time))).length≤j:=by
   unfold l_
   rw[List.length_map]
   have:=List.length_filter_le (fun p:Ev×SV=>decide (t≤p.1.time)) ((evP D).take j)
   rw[List.length_take] at this
   omega
  have hld:(l_ (((evP D).take j).drop l.s.first.toNat)).length≤j:=by
   unfold l_
   rw[List.length_map,List.length_drop,List.length_take]
   omega
  refine P6 fun J2 hJ2=>?_
  replace hJ2:∀wv' w',Rel (EE W) w' [O1 pl F4 #[ptr px,ptr ps,dv.1],intD px l.x,U7 ps l.s,Y3 U1 dv.1 (PE D),O1 cb V4 c.cs.toArray,Y3 Q3 wv' (l_ (((evP D).take (j+1)).filter fun p=>decide (t≤p.1.time))),Y3 Q3 kv (l_ (((evP D).take j).drop l.s.first.toNat)),O1 e3 U1 (e.raw ev).cs.toArray,O1 y3 Q3 ((evL j e).raw ev).cs.toArray]→J2 (wv',()) w':=by
   intro wv' w' h
   refine hJ2 _ _ ?_
   rw[h.ld 0 rfl O7 (o:=1) (v:=ptr ps) rfl]
   refine h.ask (fun B2 own base2=>Sk0 (U7.read (own (i:=2) rfl))) fun w10 h=>?_
   rw[FC,K3]
   refine⟨fun hfj=>?_,fun hfj=>?_⟩
   ·rw[h.r9 8 rfl Y8 rfl]
    refine h.WS (α:=Y7) 6 rfl ((evL j e).raw ev) u7 (by decide) (show ((l_ (((evP D).take j).drop l.s.first.toNat)).length+1) * _≤_ by omega) (by omega) fun kv2 w11 h=>?_
    have e2:l_ (((evP D).take (j+1)).drop l.s.first.toNat)=l_ (((evP D).take j).drop l.s.first.toNat)++[(evL j e).raw ev]:=by
     rw[htake,List.drop_append_of_le_length (by rw[List.length_take,KS];omega)]
     unfold l_
     rw[List.map_append]
     rfl
    refine hJ _ _ _ ?_
    rw[e2]
    exact h.take 7
   ·have e2:l_ (((evP D).take (j+1)).drop l.s.first.toNat)=l_ (((evP D).take j).drop l.s.first.toNat):=by
     rw[List.drop_eq_nil_of_le (by rw[List.length_take,KS];omega),List.drop_eq_nil_of_le (by rw[List.length_take,KS];omega)]
    refine hJ _ _ _ ?_
    rw[e2]
    exact h.take 7
  clear hJ
  rw[h.ld 7 rfl Y2 (o:=6) (v := .int .i64 e.time) rfl,FC,K3]
  refine⟨fun hte=>?_,fun hte=>?_⟩
  ·rw[h.r9 8 rfl Y8 rfl]
   refine h.WS (α:=Y7) 5 rfl ((evL j e).raw ev) u7 (by decide) (show ((l_ (((evP D).take j).filter fun p=>decide (t≤p.1.time))).length+1) * _≤_ by omega) (by omega) fun wv2 w11 h=>?_
   have e2:l_ (((evP D).take (j+1)).filter fun p=>decide (t≤p.1.time))=l_ (((evP D).take j).filter fun p=>decide (t≤p.1.time))++[(evL j e).raw ev]:=by
    have ef:([(evL j e,ev)]:EvL).filter (fun p=>decide (t≤p.1.time))=[(evL j e,ev)]:=List.filter_cons_of_pos (p:=fun p:Ev×SV=>decide (t≤p.1.time)) (decide_eq_true (show t≤e.time from hte))
    rw[htake,List.filter_append,ef]
    unfold l_
    rw[List.map_append]
    rfl
   refine hJ2 _ _ ?_
   rw[e2]
   exact h
  ·have e2:l_ (((evP D).take (j+1)).filter fun p=>decide (t≤p.1.time))=l_ (((evP D).take j).filter fun p=>decide (t≤p.1.time)):=by
    have ef:([(evL j e,ev)]:EvL).filter (fun p=>decide (t≤p.1.time))=[]:=List.filter_cons_of_neg (p:=fun p:Ev×SV=>decide (t≤p.1.time)) (by rw[decide_eq_true_eq];exact hte)
    rw[htake,List.filter_append,ef,List.append_nil]
   refine hJ2 _ _ ?_
   rw[e2]
   exact h
 ·clear hnext
  have hje:j=D.length:=by omega
  subst hje
  rw[List.take_of_length_le (by rw[KS];exact Nat.le_refl _)] at h
  have hR1:sM ((evP D).filter fun p=>decide (t≤p.1.time)) (EE W):=fun p hp=>hrowsD p (List.mem_filter.1 hp).1
  have hR2:sM ((evP D).drop l.s.first.toNat) (EE W):=fun p hp=>hrowsD p (List.mem_of_mem_drop hp)
  have he1:evs ((evP D).filter fun p=>decide (t≤p.1.time))=zf0 l.s t:=by
   rw[AA0 hI.ret hge,←Us0]
   unfold evs
   rw[List.filter_map]
   rfl
  have he2:evs ((evP D).drop l.s.first.toNat)=PY l.s 0 10000:=by
   rw[Bj0 hI.ret (by omega),←Us0]
   unfold evs
   rw[List.map_drop]
  have hl1:(zf0 l.s t).length≤1000000:=by
   unfold zf0
   have:=List.length_filter_le (fun e:Ev=>decide (t≤e.time)) l.s.events
   omega
  have hl2:(PY l.s 0 10000).length≤1000000:=by
   rw[Bj0 hI.ret (by omega),List.length_drop,tZ]
   omega
  have hrl1:∀e∈zf0 l.s t,e.row.length≤4611686018427387904:=by
   intro e he
   rw[←he1] at he
   obtain⟨p,hp,rfl⟩:=List.mem_map.1 he
   exact hrlD p (List.mem_filter.1 hp).1
  have hrl2:∀e∈PY l.s 0 10000,e.row.length≤4611686018427387904:=by
   intro e he
   rw[←he2] at he
   obtain⟨p,hp,rfl⟩:=List.mem_map.1 he
   exact hrlD p (List.mem_of_mem_drop hp)
  rw[lC,h.ld 0 rfl O7 (o:=1) (v:=ptr ps) rfl]
  refine h.make (fun B2 own base2=>JF0 (U7.read (own (i:=2) rfl)) t) fun u τ w8 hp h=>?_
  obtain⟨L1,hL1,rfl⟩:=hp
  have hlen1:L1.length≤4611686018427387904:=by
   have:=congrArg List.length hL1
   unfold evs at this
   rw[List.length_map] at this
   omega
  refine h.ask (v := .bool true) (fun B2 own base2=>?_) fun w9 h=>?_
  ·have:=Qo0 (B:=B2) (L:=L1) (M:=(evP D).filter fun p=>decide (t≤p.1.time)) (ig0.read own) ⟨Y3.read (own (i:=5) rfl),base2 hR1⟩ hlen1 fun p hp=>hrl1 _ (by rw[←hL1];exact List.mem_map.2 ⟨p,hp,rfl⟩)
   rw[decide_eq_true (by rw[hL1,he1])] at this
   exact this
  have h:=h.drop
  rw[lC,h.ld 0 rfl O7 (o:=1) (v:=ptr ps) rfl]
  refine h.make (fun B2 own base2=>MD0 (U7.read (own (i:=2) rfl)) 0 10000) fun u2 τ w10 hp h=>?_
  obtain⟨L2,hL2,rfl⟩:=hp
  have hlen2:L2.length≤4611686018427387904:=by
   have:=congrArg List.length hL2
   unfold evs at this
   rw[List.length_map] at this
   omega
  refine h.ask (v := .bool true) (fun B2 own base2=>?_) fun w11 h=>?_
  ·have:=Qo0 (B:=B2) (L:=L2) (M:=(evP D).drop l.s.first.toNat) (ig0.read own) ⟨Y3.read (own (i:=6) rfl),base2 hR2⟩ hlen2 fun p hp=>hrl2 _ (by rw[←hL2];exact List.mem_map.2 ⟨p,hp,rfl⟩)
   rw[decide_eq_true (by rw[hL2,he2])] at this
   exact this
  exact fin _ _ h
end
end Go.Proofs.YtngbebnhegcokaaGreatDoor
