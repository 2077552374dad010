/-
  Part 4 of the proof that TopRetained holds, for the parts that follow; made small by program out of longer texts. No condition.
-/
import Derived.Test.YtngbebnhegcokaaGreatDoorMaC
namespace Go.Proofs.YtngbebnhegcokaaGreatDoor
open Go.Proofs.Tryz (prog)
open Go.RowKit
set_option maxRecDepth 100000
theorem T3.IA{α:Type}(t:T3 α){i:Int}(hi:I3 i)(x:α):(t.set i x).get i=x:=by
 rcases hi.cases with rfl | rfl | rfl<;>rfl
theorem T3.WG{α:Type}(t:T3 α){i j:Int}(hi:I3 i)(hj:I3 j)(x:α)(h:j≠i):(t.set i x).get j=t.get j:=by
 rcases hi.cases with rfl | rfl | rfl<;>rcases hj.cases with rfl | rfl | rfl<;>first | rfl | exact absurd rfl h
theorem de0{r:G8}(hk:Y9 r){i n:Int}(hi:I3 i)(hn:1≤n∧n≤r.log.length+1):Y9 { r with next:=r.next.set i n } :=
 ⟨hk.id,hk.term,hk.vote,hk.len,hk.sound,hk.role,hk.commit,fun hl j hj=>by
  show 1≤(r.next.set i n).get j∧(r.next.set i n).get j≤_
  by_cases c:j=i
  ·rw[c,T3.IA _ hi];exact hn
  ·rw[T3.WG _ hi hj _ c];exact hk.next hl j hj,hk.mtch⟩
theorem tt0{r:G8}(hk:Y9 r){i n:Int}(hi:I3 i)(hn:0≤n∧n≤r.log.length):Y9 { r with mtch:=r.mtch.set i n } :=
 ⟨hk.id,hk.term,hk.vote,hk.len,hk.sound,hk.role,hk.commit,hk.next,fun hl j hj=>by
  show 0≤(r.mtch.set i n).get j∧(r.mtch.set i n).get j≤_
  by_cases c:j=i
  ·rw[c,T3.IA _ hi];exact hn
  ·rw[T3.WG _ hi hj _ c];exact hk.mtch hl j hj⟩
theorem De0{r:G8}(hk:Y9 r)(hl:r.role=2):Y9 (kJ r):=by
 have:=bg0 hk hl
 unfold kJ
 split
 ·exact⟨hk.id,hk.term,hk.vote,hk.len,hk.sound,hk.role,this,hk.next,hk.mtch⟩
 ·exact hk
theorem kk0(r:G8):(kJ r).role=r.role∧(kJ r).log=r.log∧(kJ r).next=r.next:=by unfold kJ;split<;>exact⟨rfl,rfl,rfl⟩
def wi0(r:G8)(m:R9):G8:={ r with next:=r.next.set m.from_ (max (r.mtch.get m.from_+1) (min (r.next.get m.from_-1) (m.index+1))) }
def BV(r:G8)(m:R9):G8:=kJ { r with mtch:=r.mtch.set m.from_ (max (r.mtch.get m.from_) m.index),next:=r.next.set m.from_ (max (r.mtch.get m.from_) m.index+1) }
def vR(r:G8)(m:R9):G8×vE :=
 if r.role≠2∨m.term≠r.hard.term∨(m.yes=true∧(r.log.length:Int)<m.index) then(r,o0)
 else if m.yes=false then(wi0 r m,{ o0 with send:=[z_ (wi0 r m) m.from_] })
 else if max (r.mtch.get m.from_) m.index+1≤r.log.length then(BV r m,{ o0 with send:=[z_ (BV r m) m.from_] })
 else(BV r m,o0)
section
variable {B:Base} {w:World} {σ τ:List Dat} {p:Nat} {r:G8} {K:PtK}
set_option maxHeartbeats 2000000 in
theorem Qt0{lv:SV}{o t:Nat}{cs ds:Array Value}(hk:Y9 r)(hlead:r.role=2){to_:Int}(ht:I3 to_)(hc:cs.size=6)
  (h:Rel B w [O1 p I1 (M_ r lv.1),Y3 X3 lv.1 r.log,O1 o Y1 ds,O1 t F3 cs])
  (k:∀u w',Rel B w' [bA p r,eG u { o0 with send:=[z_ r to_] }]→K u w') :
  upK prog (Z0 yA #[ptr p,.int .i64 to_]) w fun t70 w5 =>
  upK prog (Z0 A_ #[t70]) w5 fun t71 w6 =>
  upK prog (I4 F3 (.pointer (some ⟨t,0,none⟩)) t71) w6 fun _ w7 =>
  U9 prog (do loadVar F3 (←asAddr (.pointer (some ⟨t,0,none⟩)))) w7 fun t4_1=>K t4_1 w7:=by
 refine h.make (fun B2 own base2=>Ki0 (pJ.of lv.2 (own (i:=0) rfl) (Y3.read (own (i:=1) rfl))) hk hlead ht) fun u τ w1 hp h=>?_
 obtain⟨v,rfl,rfl⟩:=hp
 refine h.make (fun B2 own base2=>Fe0 (m:=z_ r to_) (v:=v) (Y3.read (own (i:=4) rfl))) fun u τ w2 hp h=>?_
 obtain⟨s,rfl,rfl⟩:=hp
 refine BK (i:=3) h rfl hc rfl (FE (o:={ o0 with send:=[z_ r to_] }) rfl s.2) fun w3 h=>?_
 have h:=h.pick [0,1,4,5] (by decide)
 have h:Rel B w3 ([O1 p I1 (M_ r lv.1),Y3 X3 lv.1 r.log]++[Y3 X3 v.1 (z_ r to_).recs,Y3 Y1 s.1 [(z_ r to_).raw v]]):=h
 have h:=h.wrap (c:=eG (.agg (f_ { o0 with send:=[z_ r to_] } (.slice none 0 0) s.1)) { o0 with send:=[z_ r to_] }) fun B2 own=>eG.of rfl s.2 BX (EZ (Y3.read (own (i:=1) rfl)) (Y3.read (own (i:=0) rfl)))
 exact k _ _ (bA.close lv h)
set_option maxHeartbeats 2000000 in
theorem Ep0(hk:Y9 r){m:R9}{v:SV}(hf:I3 m.from_)(hi:0≤m.index∧m.index≤4000):Does prog B (bA p r) (Z0 rF #[ptr p,(m.raw v).v]) fun u e' τ=>e'=bA p (vR r m).1∧τ=[eG u (vR r m).2]:=by
 refine Does.intro fun B' w K base h k=>?_
 refine vD.up ?_
 unfold vD.pt
 obtain⟨lv,h⟩:=bA.open h
 have h:Rel B' w [O1 p I1 (M_ r lv.1),Y3 X3 lv.1 r.log]:=h
 have hlen:=hk.len
 refine h.box fun o w1 h=>?_
 have h:Rel B' w1 [O1 p I1 (M_ r lv.1),Y3 X3 lv.1 r.log,O1 o Y1 (m.raw v).cs.toArray]:=h
 refine h.alloc qF fun t w2 h=>?_
 have h:Rel B' w2 [O1 p I1 (M_ r lv.1),Y3 X3 lv.1 r.log,O1 o Y1 (m.raw v).cs.toArray,O1 t F3 (f_ o0 (.slice none 0 0) (.slice none 0 0))]:=h
 refine P6 fun J hJ=>?_
 have h:=h.tick
 generalize tick w2=w2 at *
 unfold vR at k
 simp -zeta only[J5,U0 w_,U0 x_,U0 NC,U0 KC,U0 uK,U0 bF,U0 vK,Nat.zero_add,Nat.add_zero]
 rw[h.ld 0 rfl Y2 (o:=4) (v := .int .i64 r.role) rfl,Q7,G5,K3]
 refine⟨fun c1=>?_,fun c1=>?_⟩
 case refine_2 =>
  rw[if_pos (.inl c1)] at k
  refine UI (i:=3) h rfl rfl fun w3 h=>?_
  exact k _ _ _ _ ⟨rfl,rfl⟩ (oD (h.pick [0,1] (by decide)) rfl)
 rw[h.ld 2 rfl Y2 (o:=3) (v := .int .i64 m.term) rfl,h.ld 0 rfl Y2 (o:=1) (v := .int .i64 r.hard.term) rfl,Q7,G5,K3]
 refine⟨fun c2=>?_,fun c2=>?_⟩
 case refine_2 =>
  rw[if_pos (.inr (.inl c2))] at k
  refine UI (i:=3) h rfl rfl fun w3 h=>?_
  exact k _ _ _ _ ⟨rfl,rfl⟩ (oD (h.pick [0,1] (by decide)) rfl)
 have go:¬(m.yes=true∧(r.log.length:Int)<m.index)→∀w',Rel B' w' [O1 p I1 (M_ r lv.1),Y3 X3 lv.1 r.log,O1 o Y1 (m.raw v).cs.toArray,O1 t F3 (f_ o0 (.slice none 0 0) (.slice none 0 0))]→J () w':=by
  intro c3 w' h
  refine hJ _ _ ?_
  clear hJ
  rw[if_neg (fun hh=>hh.elim (fun h=>h c1) fun hh=>hh.elim (fun h=>h c2) c3)] at k
  have h:=h.tick
  generalize tick w'=w' at *
  simp -zeta only[U0 lN,Nat.zero_add]
  rw[h.ld 2 rfl Y2 (o:=1) (v := .int .i64 m.from_) rfl]
  simp -zeta only[J5,U0 UL,U0 VL,U0 bF,U0 vK,Nat.zero_add]
  rw[rv0 hf,h.ld 2 rfl Y2 (o:=1) (v := .int .i64 m.from_) rfl,rv0 hf]
  simp -zeta only[J5]
  have hn:=hk.next c1 _ hf
  have hm:=hk.mtch c1 _ hf
  rw[h.ld 2 rfl AB (o:=7) (v := .bool m.yes) rfl,V7,G5,R5]
  have h:=h.tick
  generalize tick w'=w' at *
  refine⟨fun c4=>?_,fun c4=>?_⟩
  ·rw[if_neg (by rw[c4];decide)] at k
   have c5:m.index≤r.log.length:=by
    by_cases c:(r.log.length:Int)<m.index
    ·exact absurd ⟨c4,c⟩ c3
    ·omega
   rw[h.ld 0 rfl Y2 (o:=12+m.from_.toNat) (XU hf).2.1,h.ld 2 rfl Y2 (o:=4) (v := .int .i64 m.index) rfl,II]
   refine h.st 0 rfl Y2 (o:=12+m.from_.toNat) (show 12+m.from_.toNat<15 by unfold I3 at hf;omega) rfl fun w3 h=>?_
   rw[(mV (r:=r) (lv:=lv.1) hf _ true).2.1] at h
   have g:=(XU (r:={ r with mtch:=r.mtch.set m.from_ (max (r.mtch.get m.from_) m.index) }) (lv:=lv.1) hf).2.1
   rw[show T3.get ({ r with mtch:=r.mtch.set m.from_ (max (r.mtch.get m.from_) m.index) }:G8).mtch m.from_=max (r.mtch.get m.from_) m.index from T3.IA _ hf _] at g
   have h:Rel B' w3 [O1 p I1 (M_ { r with mtch:=r.mtch.set m.from_ (max (r.mtch.get m.from_) m.index) } lv.1),Y3 X3 lv.1 r.log,O1 o Y1 (m.raw v).cs.toArray,O1 t F3 (f_ o0 (.slice none 0 0) (.slice none 0 0))]:=h
   rw[h.ld 0 rfl Y2 (o:=12+m.from_.toNat) g,Z5,E5 (by omega) (by omega)]
   refine h.st 0 rfl Y2 (o:=9+m.from_.toNat) (show 9+m.from_.toNat<15 by unfold I3 at hf;omega) rfl fun w4 h=>?_
   rw[(mV (r:={ r with mtch:=r.mtch.set m.from_ (max (r.mtch.get m.from_) m.index) }) (lv:=lv.1) hf _ true).1] at h
   have hk2:Y9 { r with mtch:=r.mtch.set m.from_ (max (r.mtch.get m.from_) m.index),next:=r.next.set m.from_ (max (r.mtch.get m.from_) m.index+1) }:=de0 (r:={ r with mtch:=r.mtch.set m.from_ (max (r.mtch.get m.from_) m.index) }) (tt0 hk hf (by omega)) hf (by show _∧_≤(r.log.length:Int)+1;omega)
   have h:Rel B' w4 ([O1 p I1 (M_ { r with mtch:=r.mtch.set m.from_ (max (r.mtch.get m.from_) m.index),next:=r.next.set m.from_ (max (r.mtch.get m.from_) m.index+1) } lv.1),Y3 X3 lv.1 r.log]++[O1 o Y1 (m.raw v).cs.toArray,O1 t F3 (f_ o0 (.slice none 0 0) (.slice none 0 0))]):=h
   have h:=bA.close (r:={ r with mtch:=r.mtch.set m.from_ (max (r.mtch.get m.from_) m.index),next:=r.next.set m.from_ (max (r.mtch.get m.from_) m.index+1) }) lv h
   refine h.act 0 rfl (fun B2 own base2=>tu0 hk2 c1) fun u e' τ w5 hp h=>?_
   obtain⟨rfl,rfl⟩:=hp
   have hac:=kk0 { r with mtch:=r.mtch.set m.from_ (max (r.mtch.get m.from_) m.index),next:=r.next.set m.from_ (max (r.mtch.get m.from_) m.index+1) }
   have hk3:=De0 hk2 c1
   have e1:(BV r m).log=r.log:=hac.2.1
   have e2:(BV r m).role=2:=hac.1.trans c1
   have e3:(BV r m).next.get m.from_=max (r.mtch.get m.from_) m.index+1:=by
    rw[show (BV r m).next=r.next.set m.from_ (max (r.mtch.get m.from_) m.index+1) from hac.2.2]
    exact T3.IA _ hf _
   have h:Rel B' w5 (bA p (BV r m) :: [O1 o Y1 (m.raw v).cs.toArray,O1 t F3 (f_ o0 (.slice none 0 0) (.slice none 0 0))]):=h
   have hk3:Y9 (BV r m):=hk3
   generalize BV r m=r2 at *
   clear hac hk2
   obtain⟨lv2,h⟩:=bA.open h
   have h:Rel B' w5 [O1 p I1 (M_ r2 lv2.1),Y3 X3 lv2.1 r2.log,O1 o Y1 (m.raw v).cs.toArray,O1 t F3 (f_ o0 (.slice none 0 0) (.slice none 0 0))]:=h
   have h:=h.tick
   generalize tick w5=w5 at *
   have g2:=(XU (r:=r2) (lv:=lv2.1) hf).1
   rw[e3] at g2
   rw[h.ld 0 rfl Y2 (o:=9+m.from_.toNat) g2]
   simp -zeta only[J5,U0 x_,Nat.zero_add]
   rw[h.ld 0 rfl X5 (o:=3) (v:=lv2.1) rfl,O4.len (Y3.read (h.here (i:=1) rfl)) u6,WC,K3,e1]
   refine⟨fun c6=>?_,fun c6=>?_⟩
   ·rw[if_pos c6] at k
    rw[h.ld 2 rfl Y2 (o:=1) (v := .int .i64 m.from_) rfl]
    exact Qt0 hk3 e2 hf rfl h fun u w' h=>k _ _ _ _ ⟨rfl,rfl⟩ h
   ·rw[if_neg c6] at k
    refine UI (i:=3) h rfl rfl fun w3 h=>?_
    exact k _ _ _ _ ⟨rfl,rfl⟩ (oD (h.pick [0,1] (by decide)) rfl)
  ·rw[if_pos c4] at k
   rw[h.ld 0 rfl Y2 (o:=12+m.from_.toNat) (XU hf).2.1,Z5,E5 (by omega) (by omega),h.ld 0 rfl Y2 (o:=9+m.from_.toNat) (XU hf).1,TB,E5 (by omega) (by omega),h.ld 2 rfl Y2 (o:=4) (v := .int .i64 m.index) rfl,Z5,E5 (by omega) (by omega),YK,II]
   refine h.st 0 rfl Y2 (o:=9+m.from_.toNat) (show 9+m.from_.toNat<15 by unfold I3 at hf;omega) rfl fun w3 h=>?_
   rw[(mV (r:=r) (lv:=lv.1) hf _ true).1] at h
   have hk2:Y9 (wi0 r m):=de0 hk hf (by omega)
   have h:Rel B' w3 [O1 p I1 (M_ (wi0 r m) lv.1),Y3 X3 lv.1 (wi0 r m).log,O1 o Y1 (m.raw v).cs.toArray,O1 t F3 (f_ o0 (.slice none 0 0) (.slice none 0 0))]:=h
   rw[h.ld 2 rfl Y2 (o:=1) (v := .int .i64 m.from_) rfl]
   exact Qt0 hk2 c1 hf rfl h fun u w' h=>k _ _ _ _ ⟨rfl,rfl⟩ h
 rw[h.ld 2 rfl AB (o:=7) (v := .bool m.yes) rfl,R5]
 refine⟨fun c3=>?_,fun c3=>go (fun hh=>by rw[c3] at hh;cases hh.1) _ h⟩
 rw[h.ld 2 rfl Y2 (o:=4) (v := .int .i64 m.index) rfl,h.ld 0 rfl X5 (o:=3) (v:=lv.1) rfl,O4.len (Y3.read (h.here (i:=1) rfl)) u6,x9,K3]
 refine⟨fun c4=>?_,fun c4=>go (fun hh=>c4 hh.2) _ h⟩
 rw[if_pos (.inr (.inr ⟨c3,c4⟩))] at k
 refine UI (i:=3) h rfl rfl fun w3 h=>?_
 exact k _ _ _ _ ⟨rfl,rfl⟩ (oD (h.pick [0,1] (by decide)) rfl)
end
def yF(log:List uB):Nat→List uB→Nat
 | _,[]=>0
 | i,x :: l=>if i+1≤log.length∧bK log ((i:Int)+1)=x.term then yF log (i+1) l+1 else 0
theorem ie0(log:List uB):∀(l:List uB) (i:Nat),yF log i l≤l.length
 | [],_=>Nat.le_refl _
 | x :: l,i=>by
  unfold yF
  have:=ie0 log l (i+1)
  split
  ·rw[List.length_cons];omega
  ·omega
def qQ(r:G8)(m:R9)(yes:Bool)(i:Int):R9:=⟨3,r.id,m.from_,r.hard.term,i,0,0,yes,[]⟩
def Qp0(r:G8)(m:R9):G8:={ r with commit:=max r.commit (min m.commit (m.index+m.recs.length)) }
def QZ(r:G8)(m:R9):G8×vE :=
 if(r.log.length:Int)<m.index∨bK r.log m.index≠m.prev then(r,{ o0 with send:=[qQ r m false (min r.log.length (m.index-1))] })
 else if yF r.log m.index.toNat m.recs=m.recs.length then(Qp0 r m,{ o0 with send:=[qQ r m true (m.index+m.recs.length)] })
 else if m.index+yF r.log m.index.toNat m.recs+1≤r.commit then(r,o0)
 else(Qp0 { r with log:=r.log.take (m.index.toNat+yF r.log m.index.toNat m.recs)++m.recs.drop (yF r.log m.index.toNat m.recs) } m,
  { o0 with from_:=m.index+yF r.log m.index.toNat m.recs+1,recs:=m.recs.drop (yF r.log m.index.toNat m.recs),send:=[qQ r m true (m.index+m.recs.length)] })
def QW(r:G8)(m:R9):G8×vE :=
 if m.term<r.hard.term then(r,{ o0 with send:=[qQ r m false 0] })
 else if r.role=2 then(r,o0)
 else QZ { r with role:=0 } m
section
variable {B:Base} {w:World} {σ τ:List Dat} {p:Nat} {r:G8} {K:PtK}
theorem vx0{r':G8}{lv:SV}{o t a:Nat}{cs ds:Array Value}{m:R9}(hm:m.recs=[])(hc:cs.size=6)
  (h:Rel B w [O1 p I1 (M_ r' lv.1),Y3 X3 lv.1 r'.log,O1 o Y1 ds,O1 t F3 cs,O1 a Y1 (m.raw nC).cs.toArray])
  (k:∀u w',Rel B w' [bA p r',eG u { o0 with send:=[m] }]→K u w') :
  Y0 prog (X0 Y1 (.pointer (some ⟨a,0,none⟩))) w fun t70 =>
  upK prog (Z0 A_ #[t70]) w fun t71 w6 =>
  upK prog (I4 F3 (.pointer (some ⟨t,0,none⟩)) t71) w6 fun _ w7 =>
  U9 prog (do loadVar F3 (←asAddr (.pointer (some ⟨t,0,none⟩)))) w7 fun t4_1=>K t4_1 w7:=by
 rw[h.r9 4 rfl Z8 rfl]
 refine h.make (fun B2 own base2=>Fe0 (m:=m) (v:=nC) (by rw[hm];exact BX)) fun u τ w9 hp h=>?_
 obtain⟨s,rfl,rfl⟩:=hp
 refine BK (i:=3) h rfl hc rfl (FE (o:={ o0 with send:=[m] }) rfl s.2) fun w10 h=>?_
 have h:=h.pick [0,1,5] (by decide)
 have h:Rel B w10 ([O1 p I1 (M_ r' lv.1),Y3 X3 lv.1 r'.log]++[Y3 Y1 s.1 [m.raw nC]]):=h
 have h:=h.wrap (c:=eG (.agg (f_ { o0 with send:=[m] } (.slice none 0 0) s.1)) { o0 with send:=[m] }) fun B2 own=>eG.of rfl s.2 BX (EZ (Y3.read (own (i:=0) rfl)) (by rw[hm];exact BX))
 exact k _ _ (bA.close lv h)
set_option maxHeartbeats 4000000 in
theorem zx0(hk:Y9 r){m:R9}{v:SV}(hm:WO r m)(q:O4 v.1 m.recs B):Does prog B (bA p r) (Z0 SG #[ptr p,(m.raw v).v]) fun u e' τ=>e'=bA p (QW r m).1∧τ=[eG u (QW r m).2]:=by
 refine Does.intro fun B' w K base h k=>?_
 replace q:=base q
 refine UE.up ?_
 unfold UE.pt
 obtain⟨lv,h⟩:=bA.open h
 have h:Rel B' w [O1 p I1 (M_ r lv.1),Y3 X3 lv.1 r.log]:=h
 have hlen:=hk.len
 have hmi:=hm.index
 have hmr:=hm.room
 have hmf:=hm.few
 refine h.box fun o w1 h=>?_
 have h:Rel B' w1 [O1 p I1 (M_ r lv.1),Y3 X3 lv.1 r.log,O1 o Y1 (m.raw v).cs.toArray]:=h
 refine h.alloc qF fun t w2 h=>?_
 have h:Rel B' w2 [O1 p I1 (M_ r lv.1),Y3 X3 lv.1 r.log,O1 o Y1 (m.raw v).cs.toArray,O1 t F3 (f_ o0 (.slice none 0 0) (.slice none 0 0))]:=h
 simp -zeta only[J5,U0 w_,U0 x_,U0 NC,U0 lH,U0 KC,U0 lN,U0 uK,U0 bF,U0 nN,U0 MS,U0 vK,U0 VP,Nat.zero_add,Nat.add_zero]
 rw[h.ld 2 rfl Y2 (o:=1) (v := .int .i64 m.from_) rfl]
 refine h.ask (fun B2 own base2=>eX (pJ.of lv.2 (own (i:=0) rfl) (Y3.read (own (i:=1) rfl))) 3 m.from_) fun w3 h=>?_
 refine h.R8 (ds:=((qQ r m false 0).raw nC).cs.toArray) vJ rfl Z8 rfl (fun v hv=>Enc.one ((qQ r m false 0).raw nC) v hv) fun a w4 h=>?_
 have h:Rel B' w4 [O1 p I1 (M_ r lv.1),Y3 X3 lv.1 r.log,O1 o Y1 (m.raw v).cs.toArray,O1 t F3 (f_ o0 (.slice none 0 0) (.slice none 0 0)),O1 a Y1 ((qQ r m false 0).raw nC).cs.toArray]:=h
 have h:=h.tick
 generalize tick w4=w4 at *
 unfold QW at k
 rw[h.ld 2 rfl Y2 (o:=3) (v := .int .i64 m.term) rfl,h.ld 0 rfl Y2 (o:=1) (v := .int .i64 r.hard.term) rfl,G6,K3]
 refine⟨fun c1=>?_,fun c1=>?_⟩
 ·rw[if_pos c1] at k
  exact vx0 rfl rfl h fun u w' h=>k _ _ _ _ ⟨rfl,rfl⟩ h
 rw[if_neg c1] at k
 rw[h.ld 0 rfl Y2 (o:=4) (v := .int .i64 r.role) rfl,F7,K3]
 refine⟨fun c2=>?_,fun c2=>?_⟩
 ·rw[if_pos c2] at k
  refine UI (i:=3) h rfl rfl fun w3 h=>?_
  exact k _ _ _ _ ⟨rfl,rfl⟩ (oD (h.pick [0,1] (by decide)) rfl)
 rw[if_neg c2] at k
 refine h.st 0 rfl Y2 (o:=4) (show 4<15 by omega) rfl fun w5 h=>?_
 have h:Rel B' w5 [O1 p I1 (M_ { r with role:=0 } lv.1),Y3 X3 lv.1 { r with role:=0 }.log,O1 o Y1 (m.raw v).cs.toArray,O1 t F3 (f_ o0 (.slice none 0 0) (.slice none 0 0)),O1 a Y1 ((qQ { r with role:=0 } m false 0).raw nC).cs.toArray]:=h
 have hlen:{ r with role:=0 }.log.length≤4000:=hlen
 have hcom:0≤{ r with role:=0 }.commit∧{ r with role:=0 }.commit≤{ r with role:=0 }.log.length:=hk.commit
 clear hk c1 c2 hm
 generalize { r with role:=0 }=r at *
 unfold QZ at k
 have back:((r.log.length:Int)<m.index∨bK r.log m.index≠m.prev)→∀w',Rel B' w' [O1 p I1 (M_ r lv.1),Y3 X3 lv.1 r.log,O1 o Y1 (m.raw v).cs.toArray,O1 t F3 (f_ o0 (.slice none 0 0) (.slice none 0 0)),O1 a Y1 ((qQ r m false 0).raw nC).cs.toArray] →
   Y0 prog (X0 U3 (.pointer (some ⟨p,3,none⟩))) w' fun t53 =>
   Y0 prog (M5 .len #[U3] Q0 #[false] #[t53]) w' fun t54 =>
   Y0 prog (X0 Q0 (.pointer (some ⟨o,4,none⟩))) w' fun t56 =>
   M0 prog (V3 .sub Q0 (.tmp 56) (.const (.int .i64 1)) t56 (.int .i64 1)) fun t57 =>
   M0 prog (M5 .min #[Q0,Q0] Q0 #[false,false] #[t54,t57]) fun t58 =>
   M0 prog (O0 Y1 (.pointer (some ⟨a,0,none⟩)) 4) fun t59 =>
   upK prog (I4 Q0 t59 t58) w' fun _ w10 =>
   Y0 prog (X0 Y1 (.pointer (some ⟨a,0,none⟩))) w10 fun t60 =>
   upK prog (Z0 A_ #[t60]) w10 fun t61 w11 =>
   upK prog (I4 F3 (.pointer (some ⟨t,0,none⟩)) t61) w11 fun _ w12 =>
   U9 prog (do loadVar F3 (←asAddr (.pointer (some ⟨t,0,none⟩)))) w12 fun t4_3=>K t4_3 w12:=by
  intro c w' h
  rw[if_pos c] at k
  rw[h.ld 0 rfl X5 (o:=3) (v:=lv.1) rfl,O4.len (Y3.read (h.here (i:=1) rfl)) u6,h.ld 2 rfl Y2 (o:=4) (v := .int .i64 m.index) rfl,TB,E5 (by omega) (by omega),YK,U0 bF,Nat.zero_add]
  refine h.st 4 rfl Y2 (o:=4) (show 4<9 by omega) rfl fun w6 h=>?_
  exact vx0 (m:=qQ r m false (min r.log.length (m.index-1))) rfl rfl h fun u w' h=>k _ _ _ _ ⟨rfl,rfl⟩ h
 have h:=h.tick
 generalize tick w5=w5 at *
 rw[h.ld 2 rfl Y2 (o:=4) (v := .int .i64 m.index) rfl]
 rw[h.ld 0 rfl X5 (o:=3) (v:=lv.1) rfl,O4.len (Y3.read (h.here (i:=1) rfl)) u6,x9,K3]
 refine⟨fun c3=>back (.inl c3) _ h.tick,fun c3=>?_⟩
 rw[h.ld 2 rfl Y2 (o:=4) (v := .int .i64 m.index) rfl,h.ld 2 rfl Y2 (o:=5) (v := .int .i64 m.prev) rfl]
 refine h.ask (fun B2 own base2=>iX (pJ.of lv.2 (own (i:=0) rfl) (Y3.read (own (i:=1) rfl))) (by omega) ⟨by omega,by omega⟩) fun w6 h=>?_
 refine⟨h.is 2 rfl Y2 (o:=5) rfl,?_⟩
 rw[Q7,G5,K3]
 refine⟨fun c4=>?_,fun c4=>back (.inr c4) _ h.tick⟩
 clear back
 rw[if_neg (fun hh=>hh.elim c3 fun h=>h c4)] at k
 obtain⟨mi,emi⟩:∃mi:Nat,m.index=mi:=⟨m.index.toNat,by omega⟩
 have emn:m.index.toNat=mi:=by omega
 rw[emn] at k
 refine h.alloc qF fun o6 w7 h=>?_
 have h:Rel B' w7 [O1 p I1 (M_ r lv.1),Y3 X3 lv.1 r.log,O1 o Y1 (m.raw v).cs.toArray,O1 t F3 (f_ o0 (.slice none 0 0) (.slice none 0 0)),O1 a Y1 ((qQ r m false 0).raw nC).cs.toArray,O1 o6 F3 (f_ o0 (.slice none 0 0) (.slice none 0 0))]:=h
 refine P6 fun J1 hJ1=>?_
 replace hJ1:∀(r':G8) (lv':SV) (o':vE) (rv:SV) (w':World),r'.commit=r.commit→(∀yes i,qQ r' m yes i=qQ r m yes i)→o'.send=[]→(∀u w',Rel B' w' [bA p (Qp0 r' m),eG u { o' with send:=[qQ r m true (m.index+m.recs.length)] }]→K u w') →
   Rel B' w' [O1 p I1 (M_ r' lv'.1),Y3 X3 lv'.1 r'.log,O1 o Y1 (m.raw v).cs.toArray,O1 t F3 (f_ o0 (.slice none 0 0) (.slice none 0 0)),O1 a Y1 ((qQ r' m false 0).raw nC).cs.toArray,O1 o6 F3 (f_ o' rv.1 (.slice none 0 0)),O4 rv.1 o'.recs]→J1 () w':=by
  intro r' lv' o' rv w' hc ha hs k2 h
  refine hJ1 _ _ ?_
  clear hJ1 k
  have h:=h.tick
  generalize tick w'=w' at *
  rw[h.ld 2 rfl Y2 (o:=4) (v := .int .i64 m.index) rfl,h.ld 2 rfl X5 (o:=8) (v:=v.1) rfl,O4.len q u6,Z5,E5 (by omega) (by omega)]
  simp -zeta only[U0 vK,U0 bF,Nat.zero_add]
  refine h.st 4 rfl AB (o:=7) (show 7<9 by omega) rfl fun w8 h=>?_
  refine⟨?_,h.is 2 rfl X5 (o:=8) rfl,h.is 2 rfl Y2 (o:=4) rfl,?_⟩
  ·have:=O4.len (P:=prog) (w:=w8) (T:=U3) (U:=Q0) (bs:=#[false]) (Kp:=fun x=>x = .int .i64 m.recs.length) (h.L6 q) u6
   obtain⟨x,h1,rfl⟩:=this.mpr rfl
   exact h1
  refine h.st 4 rfl Y2 (o:=4) (show 4<9 by omega) rfl fun w9 h=>?_
  have h:=h.tick
  generalize tick w9=w9 at *
  have h:Rel B' w9 [O1 p I1 (M_ r' lv'.1),Y3 X3 lv'.1 r'.log,O1 o Y1 (m.raw v).cs.toArray,O1 t F3 (f_ o0 (.slice none 0 0) (.slice none 0 0)),O1 a Y1 ((qQ r' m true (m.index+m.recs.length)).raw nC).cs.toArray,O1 o6 F3 (f_ o' rv.1 (.slice none 0 0)),O4 rv.1 o'.recs]:=h
  rw[h.ld 0 rfl Y2 (o:=5) (v := .int .i64 r'.commit) rfl,h.ld 2 rfl Y2 (o:=6) (v := .int .i64 m.commit) rfl,h.ld 4 rfl Y2 (o:=4) (v := .int .i64 (m.index+m.recs.length)) rfl,YK,II]
  refine h.st 0 rfl Y2 (o:=5) (show 5<15 by omega) rfl fun w10 h=>?_
  have h:Rel B' w10 [O1 p I1 (M_ (Qp0 r' m) lv'.1),Y3 X3 lv'.1 r'.log,O1 o Y1 (m.raw v).cs.toArray,O1 t F3 (f_ o0 (.slice none 0 0) (.slice none 0 0)),O1 a Y1 ((qQ r' m true (m.index+m.recs.length)).raw nC).cs.toArray,O1 o6 F3 (f_ o' rv.1 (.slice none 0 0)),O4 rv.1 o'.recs]:=h
  rw[h.r9 4 rfl Z8 rfl,ha]
  refine h.XH (α:=Cm0) ((qQ r m true (m.index+m.recs.length)).raw nC) vL (by decide) fun s w11 h=>?_
  have hs1:s.oneCell'=true:=h.oneCell (i:=7) rfl
  simp -zeta only[U0 ZV,Nat.zero_add]
  refine h.st 5 rfl pR (o:=5) (show 5<6 by omega) hs1 fun w12 h=>?_
  rw[h.r9 5 rfl EC rfl]
  refine BK (i:=3) (ds:=f_ { o' with send:=[qQ r m true (m.index+m.recs.length)] } rv.1 s) h rfl rfl rfl (FE rv.2 hs1) fun w13 h=>?_
  have h:=h.pick [0,1,6,7] (by decide)
  have h:Rel B' w13 ([O1 p I1 (M_ (Qp0 r' m) lv'.1),Y3 X3 lv'.1 (Qp0 r' m).log]++[O4 rv.1 o'.recs,Y3 Y1 s [(qQ r m true (m.index+m.recs.length)).raw nC]]):=h
  have h:=h.wrap (c:=eG (.agg (f_ { o' with send:=[qQ r m true (m.index+m.recs.length)] } rv.1 s)) { o' with send:=[qQ r m true (m.index+m.recs.length)] }) fun B2 own=>eG.of rv.2 hs1 (own (i:=0) rfl) (EZ (v:=nC) (Y3.read (own (i:=1) rfl)) BX)
  exact k2 _ _ (bA.close lv' h)
 rw[h.ld 2 rfl X5 (o:=8) (v:=v.1) rfl,O4.len q u6]
 refine F6 (fun z w'=>∃i:Nat,i≤m.recs.length∧z=(.int .i64 i,())∧mi+i≤r.log.length∧yF r.log mi m.recs=yF r.log (mi+i) (m.recs.drop i)+i∧Rel B' w' [O1 p I1 (M_ r lv.1),Y3 X3 lv.1 r.log,O1 o Y1 (m.raw v).cs.toArray,O1 t F3 (f_ o0 (.slice none 0 0) (.slice none 0 0)),O1 a Y1 ((qQ r m false 0).raw nC).cs.toArray,O1 o6 F3 (f_ o0 (.slice none 0 0) (.slice none 0 0))])
  (fun z _=>m.recs.length-(match z.1 with | .int _ n=>n.toNat | _=>0)) ⟨0,Nat.zero_le _,rfl,by omega,rfl,h⟩ ?_
 clear h
 rintro z w8 ⟨i,hi,rfl,hmil,hsk,h⟩ next hnext
 rw[G6,K3]
 refine⟨fun hlt=>?_,fun hge=>?_⟩
 case refine_2 =>
  have:i=m.recs.length:=by omega
  subst this
  rw[List.drop_length,yF,Nat.zero_add] at hsk
  rw[if_pos hsk] at k
  refine hJ1 r lv o0 nC _ rfl (fun _ _=>rfl) rfl (fun u w' h=>k _ _ _ _ ⟨rfl,rfl⟩ h) ?_
  exact h.jk0 fun B=>BX
 have hil:i<m.recs.length:=by omega
 rw[List.drop_eq_getElem_cons hil,yF] at hsk
 obtain⟨g,og,hx,hc⟩:=O4.idx q u6 (P:=prog) hil
 have hc:K6 g og m.recs[i].cs B':=hc
 rw[hx,K6.r9 (h.L6 hc) S9 rfl]
 have hsl:=ie0 r.log m.recs mi
 generalize m.recs[i]=x at hsk ⊢
 refine h.R8 (ds:=x.cs.toArray) CL rfl S9 rfl (fun v hv=>Enc.one x v hv) fun b w9 h=>?_
 have h:Rel B' w9 [O1 p I1 (M_ r lv.1),Y3 X3 lv.1 r.log,O1 o Y1 (m.raw v).cs.toArray,O1 t F3 (f_ o0 (.slice none 0 0) (.slice none 0 0)),O1 a Y1 ((qQ r m false 0).raw nC).cs.toArray,O1 o6 F3 (f_ o0 (.slice none 0 0) (.slice none 0 0)),O1 b X3 x.cs.toArray]:=h
 rw[h.ld 2 rfl Y2 (o:=4) (v := .int .i64 m.index) rfl,Z5,E5 (by omega) (by omega),Z5,E5 (by omega) (by omega)]
 rw[emi]
 refine P6 fun J2 hJ2=>?_
 replace hJ2:¬(mi+i+1≤r.log.length∧bK r.log ((mi+i:Nat)+1)=x.term)→∀w',Rel B' w' [O1 p I1 (M_ r lv.1),Y3 X3 lv.1 r.log,O1 o Y1 (m.raw v).cs.toArray,O1 t F3 (f_ o0 (.slice none 0 0) (.slice none 0 0)),O1 a Y1 ((qQ r m false 0).raw nC).cs.toArray,O1 o6 F3 (f_ o0 (.slice none 0 0) (.slice none 0 0)),O1 b X3 x.cs.toArray]→J2 () w':=by
  intro c w' h
  refine hJ2 _ _ ?_
  clear hJ2 hnext
  rw[if_neg c,Nat.zero_add] at hsk
  rw[hsk,if_neg (by omega)] at k
  rw[h.ld 0 rfl Y2 (o:=5) (v := .int .i64 r.commit) rfl,WC,K3]
  refine⟨fun c5=>?_,fun c5=>?_⟩
  ·rw[if_pos (by omega)] at k
   refine UI (i:=3) h rfl rfl fun w3 h=>?_
   exact k _ _ _ _ ⟨rfl,rfl⟩ (oD (h.pick [0,1] (by decide)) rfl)
  rw[if_neg (by omega)] at k
  simp -zeta only[U0 YV,U0 Ac0,Nat.zero_add]
  rw[h.ld 2 rfl X5 (o:=8) (v:=v.1) rfl]
  have hcut:∀Kp:Value→Prop,M0 prog (y9 U3 v.1 (some (.int .i64 i)) none none) Kp=Kp (cutV 2 v.1 i m.recs.length):=fun Kp =>
   O4.Ue0 (α:=uB) (P:=prog) (lo:=i) (hi:=m.recs.length) q u6 Bnd.some Bnd.none (by omega) (Nat.le_refl _)
  rw[hcut]
  have rc:=O4.Fk0 (lo:=i) (hi:=m.recs.length) q (by omega) (Nat.le_refl _)
  rw[List.take_length] at rc
  have hdl:(m.recs.drop i).length≤8:=by rw[List.length_drop];omega
  refine h.make (fun B2 own base2=>P_ (base2 rc) (by omega) (by omega)) fun u τ w10 hp h=>?_
  subst hp
  have hu1:u.oneCell'=true:=h.oneCell (i:=7) rfl
  refine h.st 5 rfl Y2 (o:=3) (show 3<6 by omega) rfl fun w11 h=>?_
  refine h.st 5 rfl X5 (o:=4) (show 4<6 by omega) hu1 fun w12 h=>?_
  have h:=h.tick
  generalize tick w12=w12 at *
  rw[h.ld 0 rfl X5 (o:=3) (v:=lv.1) rfl,TB,E5 (by omega) (by omega)]
  have hcut2:∀Kp:Value→Prop,M0 prog (y9 U3 lv.1 none (some (.int .i64 ((mi:Int)+i+1-1))) none) Kp=Kp (cutV 2 lv.1 0 (mi+i)):=fun Kp=>by
   rw[show (mi:Int)+i+1-1=((mi+i:Nat):Int) by omega]
   exact O4.Ue0 (α:=uB) (P:=prog) (lo:=0) (hi:=mi+i) (Y3.read (h.here (i:=1) rfl)) u6 Bnd.none Bnd.some (by omega) (by omega)
  rw[hcut2,h.ld 5 rfl X5 (o:=4) (v:=u) rfl]
  have htl:(r.log.take (mi+i)).length≤4000:=by rw[List.length_take];omega
  refine h.make (fun B2 own base2=>P_ (l:=r.log.take (mi+i)) (by
   have:=O4.Fk0 (lo:=0) (hi:=mi+i) (Y3.read (own (i:=1) rfl)) (by omega) (by omega)
   exact this) (by omega) (by omega)) fun u2 τ w13 hp h=>?_
  subst hp
  refine⟨h.is 5 rfl X5 (o:=4) rfl,?_⟩
  refine h.append (α:=uB) 8 rfl u6 (Rd.at 7 rfl) (by omega) (by omega) fun u3 w14 h=>?_
  have hu3:u3.oneCell'=true:=h.oneCell (i:=8) rfl
  refine h.st 0 rfl X5 (o:=3) (show 3<15 by omega) hu3 fun w15 h=>?_
  refine hJ1 { r with log:=r.log.take (mi+i)++m.recs.drop i } ⟨u3,hu3⟩ { o0 with from_:=m.index+i+1,recs:=m.recs.drop i } ⟨u,hu1⟩ _ rfl (fun _ _=>rfl) rfl (fun u w' h=>k _ _ _ _ ⟨rfl,rfl⟩ h) ?_
  rw[←emi] at h
  have h:=h.pick [0,8,2,3,4,5,7] (by decide)
  exact h.imp (i:=6) rfl fun B hB=>Y3.read hB
 have h:=h.tick
 generalize tick w9=w9 at *
 rw[h.ld 0 rfl X5 (o:=3) (v:=lv.1) rfl,O4.len (Y3.read (h.here (i:=1) rfl)) u6,WC,K3]
 refine⟨fun c5=>?_,fun c5=>hJ2 (fun hh=>c5 (by omega)) _ h⟩
 simp -zeta only[U0 NS,Nat.zero_add]
 rw[h.ld 6 rfl Y2 (o:=0) (v := .int .i64 x.term) rfl]
 refine h.ask (fun B2 own base2=>iX (pJ.of lv.2 (own (i:=0) rfl) (Y3.read (own (i:=1) rfl))) (by omega) ⟨by omega,by omega⟩) fun w10 h=>?_
 refine⟨h.is 6 rfl Y2 (o:=0) rfl,?_⟩
 rw[F7,K3]
 refine⟨fun c6=>?_,fun c6=>hJ2 (fun hh=>c6 (by rw[←hh.2,Int.natCast_add])) _ h⟩
 rw[Z5,E5 (by omega) (by omega)]
 refine hnext _ _ ⟨i+1,hil,rfl,by omega,?_,h.pick [0,1,2,3,4,5] (by decide)⟩ (by simp only;omega)
 rw[hsk,if_pos ⟨by omega,by rw[Int.natCast_add];exact c6⟩,Nat.add_assoc mi i 1]
 omega
end
theorem xO:∀(l l2:List uB) (a b:Int),RA (l++l2) a b=(RA l a b&&RA l2 (((l.getLast?).map (·.term)).getD a) b)
 | [],l2,a,b=>by simp [RA]
 | x :: l,l2,a,b=>by
  rw[List.cons_append,RA,RA,xO l l2 x.term b]
  have:(((x :: l).getLast?).map (·.term)).getD a=((l.getLast?).map (·.term)).getD x.term:=by
   cases l with
   | nil=>rfl
   | cons y l=>rw[List.getLast?_cons_cons,List.getLast?_eq_some_getLast (List.cons_ne_nil y l)];rfl
  rw[this]
  split
  ·rw[Bool.false_and]
  split
  ·rw[Bool.false_and]
  split
  ·rw[Bool.false_and]
  rfl
theorem RY{b c:Int}(h:b≤c):∀(l:List uB) (a:Int),RA l a b=true→RA l a c=true
 | [],_,_=>rfl
 | x :: l,a,hs=>by
  rw[RA] at hs ⊢
  split at hs
  ·cases hs
  split at hs
  ·cases hs
  split at hs
  ·cases hs
  rename_i h1 h2 h3
  rw[if_neg h1,if_neg (by omega),if_neg h3]
  exact RY h l _ hs
theorem Uo0{b:Int}:∀(l:List uB) {a a':Int},a'≤a→RA l a b=true→RA l a' b=true
 | [],_,_,_,_=>rfl
 | x :: l,a,a',h,hs=>by
  rw[RA] at hs ⊢
  split at hs
  ·cases hs
  rw[if_neg (by omega)]
  exact hs
theorem ah0{b:Int}:∀(l:List uB) (a:Int),a≤b→RA l a b=true→((l.getLast?).map (·.term)).getD a≤b
 | [],_,h,_=>h
 | [x],a,h,hs=>by
  rw[RA] at hs
  split at hs
  ·cases hs
  split at hs
  ·cases hs
  rename_i h1 h2
  show x.term≤b
  omega
 | x :: y :: l,a,h,hs=>by
  rw[RA] at hs
  split at hs
  ·cases hs
  split at hs
  ·cases hs
  split at hs
  ·cases hs
  rename_i h1 h2 h3
  have:=ah0 (y :: l) x.term (by omega) hs
  rw[List.getLast?_cons_cons]
  rw[List.getLast?_eq_some_getLast (List.cons_ne_nil y l)] at this ⊢
  exact this
theorem Gr0{l:List uB}{x:uB}{a b:Int}(hab:a≤b)(h:RA l a b=true)(hx:x.term=b)(hd:x.data.size≤2000):RA (l++[x]) a b=true:=by
 rw[xO,h,Bool.true_and]
 have:=ah0 l a hab h
 rw[RA,if_neg (by omega),if_neg (by omega),if_neg (by omega)]
 rfl
def wV(r:G8)(data:ByteArray):G8:={ r with log:=r.log++[⟨r.hard.term,data⟩] }
structure BE0 where
 n:Int
 e:Int
 r:G8
 o:vE
def U8(r:G8)(data:ByteArray):BE0 :=
 if r.role≠2 then⟨0,24,r,o0⟩
 else if 2000<data.size then⟨0,1,r,o0⟩
 else if r.log.length=4000 then⟨0,6,r,o0⟩
 else⟨r.log.length+1,0,wV r data,{ o0 with from_:=r.log.length+1,recs:=[⟨r.hard.term,data⟩],send:=PR (wV r data) }⟩
theorem It0{r:G8}(hk:Y9 r)(ht:1≤r.hard.term){data:ByteArray}(hd:data.size≤2000)(hl:r.log.length≠4000):Y9 (wV r data) where
 id:=hk.id
 term:=hk.term
 vote:=hk.vote
 len:=by
  show (r.log++[_]).length≤4000
  have:=hk.len
  rw[List.length_append]
  show r.log.length+1≤4000
  omega
 sound:=Gr0 ht hk.sound rfl hd
 role:=hk.role
 commit:=by
  show 0≤r.commit∧r.commit≤((r.log++[_]).length:Int)
  have:=hk.commit
  rw[List.length_append]
  omega
 next:=fun h i hi=>by
  have:=hk.next h i hi
  show 1≤r.next.get i∧r.next.get i≤((r.log++[_]).length:Int)+1
  rw[List.length_append]
  omega
 mtch:=fun h i hi=>by
  have:=hk.mtch h i hi
  show 0≤r.mtch.get i∧r.mtch.get i≤((r.log++[_]).length:Int)
  rw[List.length_append]
  omega
def KO(r:G8)(m:R9):G8:=if r.hard.term<m.term then { r with hard:=⟨m.term,-1⟩,role:=0 } else r
def aY(r:G8)(m:R9):G8×vE:=if m.kind=0 then Vj0 r m else if m.kind=1 then dc0 r m else if m.kind=2 then QW r m else vR r m
def Sg0(hd:SN)(q:G8×vE):G8×vE:=if q.1.hard=hd then q else(q.1,{ q.2 with save:=true,hard:=q.1.hard })
def nJ(r:G8)(m:R9):G8×vE:=if WO r m then Sg0 r.hard (aY (KO r m) m) else(r,o0)
theorem Wl0{r:G8}(hk:Y9 r){m:R9}(hm:WO r m):Y9 (KO r m)∧WO (KO r m) m:=by
 unfold KO
 split
 ·rename_i c
  have h1:=hm.term
  have h2:=hk.term
  exact⟨⟨hk.id,(show 0≤m.term∧m.term≤_ by omega),(show (-1:Int) ≤ -1∧(-1:Int)≤2 by omega),hk.len,RY (show r.hard.term≤m.term by omega) _ _ hk.sound,.inl rfl,hk.commit,(fun h=>by cases h),(fun h=>by cases h)⟩,
   ⟨hm.kind,hm.to_,hm.from_,hm.from3,hm.term,hm.index,hm.prev,hm.zero,hm.commit,hm.few,hm.room,hm.sound⟩⟩
 ·exact⟨hk,hm⟩
section
variable {B:Base} {w:World} {σ τ:List Dat} {p:Nat} {r:G8} {K:PtK}
theorem eG.jP{u:Value}{o:vE}(h:Rel B w (σ++[eG u o])):∃rv sv:SV,u = .agg (f_ o rv.1 sv.1)∧Rel B w (σ++[Dat.and (O4 rv.1 o.recs) (wN sv.1 o.send)]):=by
 have hi:(σ++[eG u o])[σ.length]? = some (eG u o):=by rw[List.getElem?_append_right (Nat.le_refl _),Nat.sub_self];rfl
 obtain⟨q,h⟩:=h.ex hi
 rw[List.set_append_right _ _ (Nat.le_refl _),Nat.sub_self] at h
 have h:Rel B w (σ++[Dat.and (Dat.pure (u = .agg (f_ o q.1.1 q.2.1))) (Dat.and (O4 q.1.1 o.recs) (wN q.2.1 o.send))]):=h
 have hi:(σ++[Dat.and (Dat.pure (u = .agg (f_ o q.1.1 q.2.1))) (Dat.and (O4 q.1.1 o.recs) (wN q.2.1 o.send))])[σ.length]? = some (Dat.and (Dat.pure (u = .agg (f_ o q.1.1 q.2.1))) (Dat.and (O4 q.1.1 o.recs) (wN q.2.1 o.send))):=by rw[List.getElem?_append_right (Nat.le_refl _),Nat.sub_self];rfl
 obtain⟨hp,h⟩:=h.VS hi
 rw[List.set_append_right _ _ (Nat.le_refl _),Nat.sub_self] at h
 exact⟨q.1,q.2,hp,h⟩
set_option maxHeartbeats 2000000 in
theorem lu0(hk:Y9 r)(ht:r.role=2→1≤r.hard.term)(data:ByteArray):Does prog B (bA p r) (Z0 YF #[ptr p,.string data]) fun v e' τ=>e'=bA p (U8 r data).r∧∃u,v = .tuple #[.int .i64 (U8 r data).n,.int .i64 (U8 r data).e,u]∧τ=[eG u (U8 r data).o]:=by
 refine Does.intro fun B' w K base h k=>?_
 refine dE.up ?_
 unfold dE.pt
 obtain⟨lv,h⟩:=bA.open h
 have h:Rel B' w [O1 p I1 (M_ r lv.1),Y3 X3 lv.1 r.log]:=h
 have hlen:=hk.len
 refine h.alloc qF fun t w1 h=>?_
 have h:Rel B' w1 [O1 p I1 (M_ r lv.1),Y3 X3 lv.1 r.log,O1 t F3 (f_ o0 (.slice none 0 0) (.slice none 0 0))]:=h
 unfold U8 at k
 simp -zeta only[J5,U0 w_,U0 x_,U0 NC,U0 KC,Nat.zero_add,Nat.add_zero]
 rw[h.ld 0 rfl Y2 (o:=4) (v := .int .i64 r.role) rfl,Q7,G5,K3]
 refine⟨fun c1=>?_,fun c1=>?_⟩
 case refine_2 =>
  rw[if_pos c1] at k
  refine UI (i:=2) h rfl rfl fun w3 h=>?_
  exact k _ _ _ _ ⟨rfl,_,rfl,rfl⟩ (oD (h.pick [0,1] (by decide)) rfl)
 rw[if_neg (fun hh=>hh c1)] at k
 rw[LC K8,x9,K3]
 refine⟨fun c2=>?_,fun c2=>?_⟩
 ·rw[if_pos (by omega)] at k
  refine UI (i:=2) h rfl rfl fun w3 h=>?_
  exact k _ _ _ _ ⟨rfl,_,rfl,rfl⟩ (oD (h.pick [0,1] (by decide)) rfl)
 rw[if_neg (by omega)] at k
 rw[h.ld 0 rfl X5 (o:=3) (v:=lv.1) rfl,O4.len (Y3.read (h.here (i:=1) rfl)) u6,F7,K3]
 refine⟨fun c3=>?_,fun c3=>?_⟩
 ·rw[if_pos (by omega)] at k
  refine UI (i:=2) h rfl rfl fun w3 h=>?_
  exact k _ _ _ _ ⟨rfl,_,rfl,rfl⟩ (oD (h.pick [0,1] (by decide)) rfl)
 rw[if_neg (by omega)] at k
 have hk2:Y9 (wV r data):=It0 hk (ht c1) (by omega) (by omega)
 rw[h.ld 0 rfl Y2 (o:=1) (v := .int .i64 r.hard.term) rfl,UR]
 refine h.R8 (ds:=(⟨r.hard.term,data⟩:uB).cs.toArray) CL rfl S9 rfl (fun v hv=>Enc.one (⟨r.hard.term,data⟩:uB) v hv) fun x w2 h=>?_
 have h:Rel B' w2 [O1 p I1 (M_ r lv.1),Y3 X3 lv.1 r.log,O1 t F3 (f_ o0 (.slice none 0 0) (.slice none 0 0)),O1 x X3 (⟨r.hard.term,data⟩:uB).cs.toArray]:=h
 have h:=h.tick
 generalize tick w2=w2 at *
 rw[h.ld 0 rfl X5 (o:=3) (v:=lv.1) rfl,h.r9 3 rfl S9 rfl]
 refine h.XH (α:=uB) ⟨r.hard.term,data⟩ u6 (by decide) fun v1 w3 h=>?_
 refine⟨h.is 0 rfl X5 (o:=3) rfl,?_⟩
 refine h.append (α:=uB) 1 rfl u6 (Rd.at 4 rfl) (show (r.log.length+1) * _≤_ by omega) (show r.log.length+1≤_ by omega) fun v2 w4 h=>?_
 have hv2:v2.oneCell'=true:=h.oneCell (i:=1) rfl
 refine h.st 0 rfl X5 (o:=3) (show 3<15 by omega) hv2 fun w5 h=>?_
 have h:Rel B' w5 [O1 p I1 (M_ (wV r data) v2),Y3 X3 v2 (wV r data).log,O1 t F3 (f_ o0 (.slice none 0 0) (.slice none 0 0)),O1 x X3 (⟨r.hard.term,data⟩:uB).cs.toArray]:=h.take 4
 have e1:(r.log.length:Int)+1=(wV r data).log.length:=by
  show _=((r.log++[_]).length:Int)
  rw[List.length_append]
  rfl
 rw[e1] at k
 have hlead:(wV r data).role=2:=c1
 generalize wV r data=r2 at *
 have h:=h.tick
 generalize tick w5=w5 at *
 have hld:∀{τ:List Dat} {w':World},Rel B' w' (O1 p I1 (M_ r2 v2) :: Y3 X3 v2 r2.log :: τ)→Is prog (M5 .len #[U3] Q0 #[false] #[v2]) (.int .i64 r2.log.length) w':=by
  intro τ w' h
  have:=O4.len (P:=prog) (w:=w') (T:=U3) (U:=Q0) (bs:=#[false]) (Kp:=fun x=>x = .int .i64 r2.log.length) (Y3.read (h.here (i:=1) rfl)) u6
  obtain⟨x,h1,rfl⟩:=this.mpr rfl
  exact h1
 rw[h.ld 0 rfl X5 (o:=3) (v:=v2) rfl,O4.len (Y3.read (h.here (i:=1) rfl)) u6]
 rw[h.ld 0 rfl X5 (o:=3) (v:=v2) rfl,O4.len (Y3.read (h.here (i:=1) rfl)) u6,h.r9 3 rfl S9 rfl]
 refine⟨?_,?_⟩
 ·refine h.XH (α:=uB) ⟨r.hard.term,data⟩ u6 (by decide) fun v3 w6 h=>?_
  have hv3:v3.oneCell'=true:=h.oneCell (i:=4) rfl
  obtain⟨a3,n3,c3',rfl⟩:=FW h 4 rfl
  refine⟨hld h,h.is 0 rfl X5 (o:=3) rfl,hld h,h.is 0 rfl X5 (o:=3) rfl,?_⟩
  refine h.make (fun B2 own base2=>Wr0 (pJ.of hv2 (own (i:=0) rfl) (Y3.read (own (i:=1) rfl))) hk2 hlead) fun u τ w7 hp h=>?_
  obtain⟨rfl,a,n,c,rfl⟩:=hp
  refine⟨h.bV 3 rfl S9 rfl,hld h,h.is 0 rfl X5 (o:=3) rfl,hld h,h.is 0 rfl X5 (o:=3) rfl,?_⟩
  rw[dU]
  refine BK (i:=2) (ds:=f_ { o0 with from_:=r2.log.length,recs:=[⟨r.hard.term,data⟩],send:=PR r2 } (.slice a3 n3 c3') (.slice a n c)) h rfl rfl rfl (FE hv3 rfl) fun w8 h=>?_
  have h:Rel B' w8 ([O1 p I1 (M_ r2 v2),Y3 X3 v2 r2.log]++[Y3 X3 (.slice a3 n3 c3') [(⟨r.hard.term,data⟩:uB)],wN (.slice a n c) (PR r2)]):=h.pick [0,1,4,5] (by decide)
  have h:=h.wrap (c:=eG (.agg (f_ { o0 with from_:=r2.log.length,recs:=[⟨r.hard.term,data⟩],send:=PR r2 } (.slice a3 n3 c3') (.slice a n c))) { o0 with from_:=r2.log.length,recs:=[⟨r.hard.term,data⟩],send:=PR r2 }) fun B2 own=>eG.of hv3 rfl (Y3.read (own (i:=0) rfl)) (own (i:=1) rfl)
  exact k _ _ _ _ ⟨rfl,_,rfl,rfl⟩ (bA.close ⟨v2,hv2⟩ h)
 ·refine h.make (fun B2 own base2=>Wr0 (pJ.of hv2 (own (i:=0) rfl) (Y3.read (own (i:=1) rfl))) hk2 hlead) fun u τ w7 hp h=>?_
  obtain⟨rfl,a,n,c,rfl⟩:=hp
  refine⟨h.bV 3 rfl S9 rfl,hld h,h.is 0 rfl X5 (o:=3) rfl,hld h,h.is 0 rfl X5 (o:=3) rfl,?_⟩
  refine h.XH (α:=uB) ⟨r.hard.term,data⟩ u6 (by decide) fun v3 w6 h=>?_
  have hv3:v3.oneCell'=true:=h.oneCell (i:=5) rfl
  obtain⟨a3,n3,c3',rfl⟩:=FW h 5 rfl
  refine⟨hld h,h.is 0 rfl X5 (o:=3) rfl,hld h,h.is 0 rfl X5 (o:=3) rfl,?_⟩
  rw[dU]
  refine BK (i:=2) (ds:=f_ { o0 with from_:=r2.log.length,recs:=[⟨r.hard.term,data⟩],send:=PR r2 } (.slice a3 n3 c3') (.slice a n c)) h rfl rfl rfl (FE hv3 rfl) fun w8 h=>?_
  have h:Rel B' w8 ([O1 p I1 (M_ r2 v2),Y3 X3 v2 r2.log]++[Y3 X3 (.slice a3 n3 c3') [(⟨r.hard.term,data⟩:uB)],wN (.slice a n c) (PR r2)]):=h.pick [0,1,5,4] (by decide)
  have h:=h.wrap (c:=eG (.agg (f_ { o0 with from_:=r2.log.length,recs:=[⟨r.hard.term,data⟩],send:=PR r2 } (.slice a3 n3 c3') (.slice a n c))) { o0 with from_:=r2.log.length,recs:=[⟨r.hard.term,data⟩],send:=PR r2 }) fun B2 own=>eG.of hv3 rfl (Y3.read (own (i:=0) rfl)) (own (i:=1) rfl)
  exact k _ _ _ _ ⟨rfl,_,rfl,rfl⟩ (bA.close ⟨v2,hv2⟩ h)
set_option maxHeartbeats 2000000 in
theorem ZE0(hk:Y9 r){m:R9}{v:SV}(q:O4 v.1 m.recs B)(hml:m.recs.length≤1000000):Does prog B (bA p r) (Z0 BI #[ptr p,(m.raw v).v]) fun u e' τ=>e'=bA p (nJ r m).1∧τ=[eG u (nJ r m).2]:=by
 refine Does.intro fun B' w K base h k=>?_
 replace q:=base q
 refine JG.up ?_
 unfold JG.pt
 obtain⟨lv,h⟩:=bA.open h
 have h:Rel B' w [O1 p I1 (M_ r lv.1),Y3 X3 lv.1 r.log]:=h
 refine h.box fun o w1 h=>?_
 have h:Rel B' w1 [O1 p I1 (M_ r lv.1),Y3 X3 lv.1 r.log,O1 o Y1 (m.raw v).cs.toArray]:=h
 refine h.alloc qF fun t w2 h=>?_
 have h:Rel B' w2 [O1 p I1 (M_ r lv.1),Y3 X3 lv.1 r.log,O1 o Y1 (m.raw v).cs.toArray,O1 t F3 (f_ o0 (.slice none 0 0) (.slice none 0 0))]:=h
 rw[h.r9 2 rfl Z8 rfl]
 refine h.ask (fun B2 own base2=>mA0 (r:=r) (pJ.of lv.2 (own (i:=0) rfl) (Y3.read (own (i:=1) rfl))) (base2 q) hml) fun w3 h=>?_
 rw[V7,G5,R5]
 unfold nJ at k
 refine⟨fun c=>?_,fun c=>?_⟩
 case refine_2 =>
  rw[if_neg (of_decide_eq_false c)] at k
  refine UI (i:=3) h rfl rfl fun w3 h=>?_
  exact k _ _ _ _ ⟨rfl,rfl⟩ (oD (h.pick [0,1] (by decide)) rfl)
 have hm:WO r m:=of_decide_eq_true c
 rw[if_pos hm] at k
 clear c
 obtain⟨hk1,hm1⟩:=Wl0 hk hm
 simp -zeta only[J5,U0 w_,U0 NC,U0 KC,U0 WV,U0 uK,Nat.zero_add,Nat.add_zero]
 rw[Sd0 (h.here (i:=0) rfl)]
 refine h.R8 (ds:=r.hard.cs.toArray) Ah0 rfl fC rfl (fun v hv=>Enc.one r.hard v hv) fun b w4 h=>?_
 have h:Rel B' w4 [O1 p I1 (M_ r lv.1),Y3 X3 lv.1 r.log,O1 o Y1 (m.raw v).cs.toArray,O1 t F3 (f_ o0 (.slice none 0 0) (.slice none 0 0)),O1 b O5 r.hard.cs.toArray]:=h
 refine P6 fun J1 hJ1=>?_
 replace hJ1:∀w',Rel B' w' [O1 p I1 (M_ (KO r m) lv.1),Y3 X3 lv.1 (KO r m).log,O1 o Y1 (m.raw v).cs.toArray,O1 t F3 (f_ o0 (.slice none 0 0) (.slice none 0 0)),O1 b O5 r.hard.cs.toArray]→J1 () w':=by
  intro w' h
  refine hJ1 _ _ ?_
  clear hJ1
  generalize KO r m=r1 at *
  have h:=bA.close (r:=r1) (τ:=[O1 o Y1 (m.raw v).cs.toArray,O1 t F3 (f_ o0 (.slice none 0 0) (.slice none 0 0)),O1 b O5 r.hard.cs.toArray]) lv h
  refine h.alloc qF fun o6 w5 h=>?_
  have h:Rel B' w5 [bA p r1,O1 o Y1 (m.raw v).cs.toArray,O1 t F3 (f_ o0 (.slice none 0 0) (.slice none 0 0)),O1 b O5 r.hard.cs.toArray,O1 o6 F3 (f_ o0 (.slice none 0 0) (.slice none 0 0))]:=h
  refine P6 fun J2 hJ2=>?_
  have step:∀(q:G8×vE) (u:Value) (w':World),aY r1 m=q→Rel B' w' [bA p q.1,O1 o Y1 (m.raw v).cs.toArray,O1 t F3 (f_ o0 (.slice none 0 0) (.slice none 0 0)),O1 b O5 r.hard.cs.toArray,O1 o6 F3 (f_ o0 (.slice none 0 0) (.slice none 0 0)),eG u q.2]→upK prog (I4 F3 (.pointer (some ⟨o6,0,none⟩)) u) w' fun _ w15=>J2 () w15:=by
   rintro⟨r2,o2⟩ u w' e h
   rw[e] at k
   have h:Rel B' w' ([bA p r2,O1 o Y1 (m.raw v).cs.toArray,O1 t F3 (f_ o0 (.slice none 0 0) (.slice none 0 0)),O1 b O5 r.hard.cs.toArray,O1 o6 F3 (f_ o0 (.slice none 0 0) (.slice none 0 0))]++[eG u o2]):=h
   obtain⟨rv,sv,eu,h2⟩:=eG.jP h
   subst eu
   refine h2.YG 4 rfl EC rfl rfl (FE rv.2 sv.2) fun w6 h=>?_
   have h:Rel B' w6 (bA p r2 :: [O1 o Y1 (m.raw v).cs.toArray,O1 t F3 (f_ o0 (.slice none 0 0) (.slice none 0 0)),O1 b O5 r.hard.cs.toArray,O1 o6 F3 (f_ o2 rv.1 sv.1),Dat.and (O4 rv.1 o2.recs) (wN sv.1 o2.send)]):=h
   obtain⟨lv2,h⟩:=bA.open h
   have h:Rel B' w6 [O1 p I1 (M_ r2 lv2.1),Y3 X3 lv2.1 r2.log,O1 o Y1 (m.raw v).cs.toArray,O1 t F3 (f_ o0 (.slice none 0 0) (.slice none 0 0)),O1 b O5 r.hard.cs.toArray,O1 o6 F3 (f_ o2 rv.1 sv.1),Dat.and (O4 rv.1 o2.recs) (wN sv.1 o2.send)]:=h
   refine hJ2 _ _ ?_
   clear hJ2
   have fin:∀(o3:vE) (w':World),Sg0 r.hard (r2,o2)=(r2,o3)→o3.recs=o2.recs→o3.send=o2.send→Rel B' w' [O1 p I1 (M_ r2 lv2.1),Y3 X3 lv2.1 r2.log,O1 o Y1 (m.raw v).cs.toArray,O1 t F3 (f_ o0 (.slice none 0 0) (.slice none 0 0)),O1 b O5 r.hard.cs.toArray,O1 o6 F3 (f_ o3 rv.1 sv.1),Dat.and (O4 rv.1 o2.recs) (wN sv.1 o2.send)] →
     Y0 prog (X0 F3 (.pointer (some ⟨o6,0,none⟩))) w' fun t67=>upK prog (I4 F3 (.pointer (some ⟨t,0,none⟩)) t67) w' fun _ w11=>U9 prog (do loadVar F3 (←asAddr (.pointer (some ⟨t,0,none⟩)))) w11 fun t4_2=>K t4_2 w11:=by
    intro o3 w' e3 er es h
    rw[e3] at k
    rw[h.r9 5 rfl EC rfl]
    refine BK (i:=3) h rfl rfl rfl (FE rv.2 sv.2) fun w7 h=>?_
    have h:Rel B' w7 ([O1 p I1 (M_ r2 lv2.1),Y3 X3 lv2.1 r2.log]++[Dat.and (O4 rv.1 o2.recs) (wN sv.1 o2.send)]):=h.pick [0,1,6] (by decide)
    have h:=h.wrap (c:=eG (.agg (f_ o3 rv.1 sv.1)) o3) fun B2 own=>eG.of rv.2 sv.2 (by rw[er];exact(own (i:=0) rfl).1) (by rw[es];exact(own (i:=0) rfl).2)
    exact k _ _ _ _ ⟨rfl,rfl⟩ (bA.close lv2 h)
   unfold Sg0 at fin
   refine P6 fun J3 hJ3=>?_
   have h:=h.tick
   generalize tick w6=w6 at *
   simp -zeta only[J5,U0 w_,U0 uc0,U0 zc0,Nat.zero_add,Nat.add_zero]
   rw[Sd0 (h.here (i:=0) rfl),h.r9 4 rfl fC rfl]
   have hne:∀Kp:Value→Prop,M0 prog (V3 .neq O5 (.tmp 58) (.tmp 59) (.agg r2.hard.cs.toArray) (.agg r.hard.cs.toArray)) Kp=Kp (.bool (!decide (r2.hard=r.hard))):=fun Kp=>Il0 r2.hard r.hard
   rw[hne,G5,K3]
   refine⟨fun c=>?_,fun c=>?_⟩
   ·rw[if_pos c] at fin
    exact hJ3 _ _ (fin o2 _ rfl rfl rfl h)
   ·rw[if_neg c] at fin
    have h:=h.tick
    generalize tick w6=w6 at *
    rw[Sd0 (h.here (i:=0) rfl)]
    refine h.st 5 rfl AB (o:=0) (show 0<6 by omega) rfl fun w7 h=>?_
    refine⟨EC0 (h.here (i:=0) rfl),?_⟩
    refine h.Nr0 5 (n:=2) (o:=1) rfl fC rfl (show 1+2≤6 by omega) (fun v hv=>Enc.one r2.hard v hv) fun w8 h=>?_
    exact hJ3 _ _ (fin { o2 with save:=true,hard:=r2.hard } _ rfl rfl rfl h)
  clear hJ2 k
  rw[h.ld 1 rfl Y2 (o:=0) (v := .int .i64 m.kind) rfl,F7,K3]
  unfold aY at step
  refine⟨fun c0=>?_,fun c0=>?_⟩
  ·rw[if_pos c0] at step
   rw[h.r9 1 rfl Z8 rfl]
   refine h.act 0 rfl (fun B2 own base2=>TG0 hk1) fun u e' τ w9 hp h=>?_
   obtain⟨rfl,rfl⟩:=hp
   exact step _ _ _ rfl h
  rw[if_neg c0] at step
  rw[F7,K3]
  refine⟨fun c1=>?_,fun c1=>?_⟩
  ·rw[if_pos c1] at step
   rw[h.r9 1 rfl Z8 rfl]
   refine h.act 0 rfl (fun B2 own base2=>qE0 hk1 (by have:=hm1.from3;unfold I3;omega)) fun u e' τ w9 hp h=>?_
   obtain⟨rfl,rfl⟩:=hp
   exact step _ _ _ rfl h
  rw[if_neg c1] at step
  rw[F7,K3]
  refine⟨fun c2=>?_,fun c2=>?_⟩
  ·rw[if_pos c2] at step
   rw[h.r9 1 rfl Z8 rfl]
   refine h.act 0 rfl (fun B2 own base2=>zx0 hk1 hm1 (base2 q)) fun u e' τ w9 hp h=>?_
   obtain⟨rfl,rfl⟩:=hp
   exact step _ _ _ rfl h
  rw[if_neg c2] at step
  rw[F7,K3]
  refine⟨fun c3=>?_,fun c3=>absurd hm1.kind (by omega)⟩
  rw[h.r9 1 rfl Z8 rfl]
  refine h.act 0 rfl (fun B2 own base2=>Ep0 hk1 (by have:=hm1.from3;unfold I3;omega) hm1.index) fun u e' τ w9 hp h=>?_
  obtain⟨rfl,rfl⟩:=hp
  exact step _ _ _ rfl h
 clear hk1 hm1
 have h:=h.tick
 generalize tick w4=w4 at *
 unfold KO at hJ1
 rw[h.ld 2 rfl Y2 (o:=3) (v := .int .i64 m.term) rfl,h.ld 0 rfl Y2 (o:=1) (v := .int .i64 r.hard.term) rfl,x9,K3]
 refine⟨fun c=>?_,fun c=>?_⟩
 case refine_2 =>
  rw[if_neg c] at hJ1
  exact hJ1 _ h
 rw[if_pos c] at hJ1
 rw[h.ld 2 rfl Y2 (o:=3) (v := .int .i64 m.term) rfl,rQ]
 refine h.Nr0 0 (n:=2) (o:=1) rfl fC rfl (show 1+2≤15 by omega) (fun v hv=>Enc.one (⟨m.term,-1⟩:SN) v hv) fun w7 h=>?_
 refine h.st 0 rfl Y2 (o:=4) (show 4<15 by omega) rfl fun w8 h=>?_
 exact hJ1 _ h
end
structure WY (id:Int) (hd:SN) (log:List uB):Prop where
 id:0≤id∧id≤2
 term:0≤hd.term∧hd.term≤1099511627776
 vote : -1≤hd.vote∧hd.vote≤2
 len:log.length≤4000
 sound:RA log 1 hd.term=true
theorem Sv0(id:Int)(hd:SN)(log:List uB):((0≤id∧id≤2)∧(0≤hd.term∧hd.term≤1099511627776)∧(-1≤hd.vote∧hd.vote≤2)∧log.length≤4000∧RA log 1 hd.term=true)↔WY id hd log :=
 ⟨fun⟨a,b,c,d,e⟩=>⟨a,b,c,d,e⟩,fun⟨a,b,c,d,e⟩=>⟨a,b,c,d,e⟩⟩
instance (id:Int) (hd:SN) (log:List uB):Decidable (WY id hd log):=decidable_of_iff _ (Sv0 id hd log)
def newR(id:Int)(hd:SN)(log:List uB):G8:=⟨id,hd,log,0,0,⟨false,false,false⟩,⟨0,0,0⟩,⟨0,0,0⟩⟩
theorem SC0{id:Int}{hd:SN}{log:List uB}(h:WY id hd log):Y9 (newR id hd log) where
 id:=by have:=h.id;unfold I3;show 0≤id∧id<3;omega
 term:=h.term
 vote:=h.vote
 len:=h.len
 sound:=h.sound
 role := .inl rfl
 commit:=by show (0:Int)≤0∧(0:Int)≤log.length;omega
 next:=fun h=>by cases h
 mtch:=fun h=>by cases h
section
variable {B:Base} {w:World} {σ τ:List Dat} {p:Nat} {r:G8} {K:PtK}
theorem cn0(a:pJ p r B):Gives prog B (Z0 rD #[ptr p]) (.int .i64 r.commit):=by
 refine Gives.intro fun B' w K base h k=>?_
 replace a:=base a
 refine TE.up ?_
 unfold TE.pt
 obtain⟨lv,c0,c1⟩:=pJ.jP a
 simp -zeta only[J5,U0 lH,Nat.zero_add]
 rw[O1.ld (h.L6 c0) Y2 (o:=5) (v := .int .i64 r.commit) rfl]
 exact k _ _ h
theorem kH0(a:pJ p r B)(hl:r.log.length≤1000000):Makes prog B (Z0 DJ #[ptr p]) fun u τ=>τ=[Y3 X3 u r.log]:=by
 refine Makes.intro fun B' w K base h k=>?_
 replace a:=base a
 refine BH.up ?_
 unfold BH.pt
 obtain⟨lv,c0,c1⟩:=pJ.jP a
 simp -zeta only[J5,U0 x_,Nat.zero_add]
 rw[O1.ld (h.L6 c0) X5 (o:=3) (v:=lv.1) rfl]
 refine h.make (fun B2 own base2=>P_ (base2 c1) (by omega) (by omega)) fun u τ w1 hp h=>?_
 exact k _ _ _ hp h
theorem Sz0(id:Int)(hd:SN){v:Value}{log:List uB}(q:O4 v log B)(hl:log.length≤1000000000):Makes prog B (Z0 jT #[.int .i64 id,.agg hd.cs.toArray,v]) fun u τ=>if WY id hd log then ∃p,u=ptr p∧τ=[bA p (newR id hd log)] else u = .pointer none∧τ=[]:=by
 refine Makes.intro fun B' w K base h k=>?_
 replace q:=base q
 refine YS.up ?_
 unfold YS.pt
 refine h.box fun o w1 h=>?_
 have h:Rel B' w1 [O1 o O5 hd.cs.toArray]:=h
 have no:¬WY id hd log→∀w',Rel B' w' [O1 o O5 hd.cs.toArray]→K (.pointer none) w':=fun c w' h=>k _ [] _ (by rw[if_neg c];exact⟨rfl,rfl⟩) h.nil
 refine h.ask (fun B2 own base2=>WI id 0 2) fun w2 h=>?_
 rw[V7,G5,R5]
 refine⟨fun c1=>?_,fun c1=>no (fun hh=>by rw[decide_eq_true hh.id.1,decide_eq_true hh.id.2] at c1;cases c1) _ h⟩
 rw[Bool.and_eq_true,decide_eq_true_eq,decide_eq_true_eq] at c1
 simp -zeta only[U0 KC,U0 VU,Nat.zero_add]
 rw[h.ld 0 rfl Y2 (o:=0) (v := .int .i64 hd.term) rfl]
 refine h.ask (fun B2 own base2=>WI hd.term 0 1099511627776) fun w3 h=>?_
 rw[V7,G5,R5]
 refine⟨fun c2=>?_,fun c2=>no (fun hh=>by rw[decide_eq_true hh.term.1,decide_eq_true hh.term.2] at c2;cases c2) _ h⟩
 rw[Bool.and_eq_true,decide_eq_true_eq,decide_eq_true_eq] at c2
 rw[h.ld 0 rfl Y2 (o:=1) (v := .int .i64 hd.vote) rfl]
 refine h.ask (fun B2 own base2=>WI hd.vote (-1) 2) fun w4 h=>?_
 rw[V7,G5,R5]
 refine⟨fun c3=>?_,fun c3=>no (fun hh=>by rw[decide_eq_true hh.vote.1,decide_eq_true hh.vote.2] at c3;cases c3) _ h⟩
 rw[Bool.and_eq_true,decide_eq_true_eq,decide_eq_true_eq] at c3
 rw[O4.len q u6,x9,K3]
 refine⟨fun c4=>no (fun hh=>by have:=hh.len;omega) _ h,fun c4=>?_⟩
 rw[h.ld 0 rfl Y2 (o:=0) (v := .int .i64 hd.term) rfl]
 refine h.ask (fun B2 own base2=>Zt0 (base2 q) (by omega) 1 hd.term) fun w5 h=>?_
 rw[V7,G5,R5]
 refine⟨fun c5=>?_,fun c5=>no (fun hh=>by rw[hh.sound] at c5;cases c5) _ h⟩
 have ok:WY id hd log:=⟨c1,c2,c3,by omega,c5⟩
 have h:=h.tick
 generalize tick w5=w5 at *
 rw[h.r9 0 rfl fC rfl]
 refine h.make (fun B2 own base2=>P_ (base2 q) (by omega) (by omega)) fun u τ w6 hp h=>?_
 subst hp
 refine⟨h.bV 0 rfl fC rfl,?_⟩
 obtain⟨x,n,c,rfl⟩:=FW h 1 rfl
 rw[show (Value.agg hd.cs.toArray) = .agg #[.int .i64 hd.term,.int .i64 hd.vote] from rfl,uT]
 refine h.box fun b w7 h=>?_
 refine k _ _ _ (by rw[if_pos ok];exact⟨b,rfl,rfl⟩) (bA.close (r:=newR id hd log) (τ:=[]) ⟨.slice x n c,rfl⟩ ?_)
 exact h.pick [2,1] (by decide)
end
theorem dD0(a b:Bs):ofL a++ofL b=ofL (a++b):=by
 apply Mx0
 show (ofL a++ofL b).data.toList=a++b
 simp
theorem C9{P:Program}{Kp:Value→Prop}{T:TypeId}{xo yo:Operand}{a b:Bs}(h:a.length+b.length≤9223372036854775807):M0 P (V3 .add T xo yo (.string (ofL a)) (.string (ofL b))) Kp=Kp (.string (ofL (a++b))):=by
 rw[RD0 (by rw[Q_,Q_];exact h),dD0]
theorem dz0{n:Nat}:Go.Lib.itoa (n:Int)=Go.Lib.decDigits n:=by unfold Go.Lib.itoa;rw[if_neg (by omega)];rfl
theorem Q6{n:Int}(h:inI n):(encI n).length≤21:=by
 have:=kS h
 unfold encI
 rw[List.length_append,List.length_singleton]
 omega
theorem wE(s:Bs)(h:s.length≤9223372036854775807):(yB s).length≤s.length+22:=by
 have:=kS (n:=s.length) ⟨by omega,by omega⟩
 unfold yB
 simp
 omega
theorem TV{α:Type}(one:α→Bs)(l:List α)(h:l.length≤9223372036854775807):(l.flatMap one).length≤(vY one l).length∧(vY one l).length≤(l.flatMap one).length+22:=by
 have:=kS (n:=l.length) ⟨by omega,by omega⟩
 unfold vY
 simp
 omega
theorem QE{α:Type}(one:α→Bs)(l:List α)(i:Nat):((l.take i).flatMap one).length≤(l.flatMap one).length:=by
 have e:l.flatMap one=(l.take i).flatMap one++(l.drop i).flatMap one:=by rw[←List.flatMap_append,List.take_append_drop]
 rw[e,List.length_append]
 omega
theorem xE{α:Type}(one:α→Bs)(l:List α)(k:Nat)(h:∀x∈l,(one x).length≤k):(l.flatMap one).length≤k * l.length:=by
 induction l with
 | nil=>simp
 | cons x l ih =>
  have h1:=h x List.mem_cons_self
  have h2:=ih fun y hy=>h y (List.mem_cons_of_mem _ hy)
  rw[List.flatMap_cons,List.length_append,List.length_cons,Nat.mul_add]
  omega
theorem jI{α:Type}(one:α→Bs){l:List α}{i:Nat}(h:i<l.length):(l.take (i+1)).flatMap one=(l.take i).flatMap one++one l[i]:=by
 rw[List.take_succ_eq_append_getElem h,List.flatMap_append]
 simp
section
variable {B:Base} {w:World} {σ:List Dat}
theorem wC(hB:VI B){n:Int}(hn:inI n):Gives prog B (Z0 J8 #[.int .i64 n]) (.string (ofL (encI n))):=by
 refine Gives.intro fun B' w K base h k=>?_
 refine YZ.up ?_
 unfold YZ.pt
 refine h.ask (fun B2 own base2=>kl0 (base2 (base hB)) hn) fun w1 h=>?_
 have:=kS hn
 have e:M0 prog (V3 .add M3 (.tmp 4) (.const (.string ⟨#[59]⟩)) (.string (ofL (Go.Lib.itoa n))) (.string (ofL [59]))) (fun t5=>K t5 w1)=K (.string (ofL (Go.Lib.itoa n++[59]))) w1:=C9 (by simp;omega)
 show M0 prog (V3 .add M3 (.tmp 4) (.const (.string ⟨#[59]⟩)) (.string (ofL (Go.Lib.itoa n))) (.string (ofL [59]))) (fun t5=>K t5 w1)
 rw[e]
 exact k _ _ h
theorem oh0(hB:VI B){n:Int}(hn:inI n):Gives prog B (Z0 WM #[.int .i64 n]) (.string (ofL (sd0 n))):=by
 refine Gives.intro fun B' w K base h k=>?_
 refine ZZ.up ?_
 unfold ZZ.pt
 simp -zeta only[G6,K3]
 unfold sd0 at k
 refine⟨fun c=>?_,fun c=>?_⟩
 ·rw[if_pos c] at k
  exact k _ _ h
 ·rw[if_neg c] at k
  refine h.ask (fun B2 own base2=>wC (base2 (base hB)) hn) fun w1 h=>?_
  exact k _ _ h
theorem gT(hB:VI B){s:Bs}(hs:s.length≤4611686018427387904):Gives prog B (Z0 ZE #[.string (ofL s)]) (.string (ofL (yB s))):=by
 refine Gives.intro fun B' w K base h k=>?_
 refine rX.up ?_
 unfold rX.pt
 rw[aK K8]
 have hin:inI (s.length:Int):=⟨by omega,by omega⟩
 refine h.ask (fun B2 own base2=>kl0 (base2 (base hB)) hin) fun w1 h=>?_
 have hl:=kS hin
 rw[show (⟨#[58]⟩:ByteArray)=ofL [58] from rfl,show (⟨#[44]⟩:ByteArray)=ofL [44] from rfl]
 rw[C9 (by simp;omega),C9 (by simp;omega),C9 (by simp;omega)]
 have e:yB s=Go.Lib.itoa s.length++[58]++s++[44]:=by simp [yB]
 rw[e] at k
 exact k _ _ h
theorem Oq0(hB:VI B){v:Value}{l:List Int}(r:O4 v l B)(hgood:∀x∈l,inI x)(hb:(vY encI (l.map id)).length≤70368744177664) :
  Gives prog B (Z0 mQ #[v,.func (.func J8) #[] #[]]) (.string (ofL (vY encI (l.map id)))):=by
 refine Gives.Ef0 fun B' w K base h start k=>?_
 replace r:=base r
 replace hB:=base hB
 refine OP.up ?_
 unfold OP.pt
 have hll:l.length≤70368744177664:=by
  have h1:l.length≤((l.map id).flatMap encI).length:=by
   clear hb hgood k r start h
   induction l with
   | nil=>simp
   | cons x l ih =>
    rw[List.map_cons,List.flatMap_cons,List.length_append,List.length_cons]
    have:1≤(encI (id x)).length:=by simp [encI]<;>omega
    omega
  rcases Nat.lt_or_ge 9223372036854775807 l.length with hh | hh
  ·have h2:((l.map id).flatMap encI).length≤(vY encI (l.map id)).length:=by unfold vY;simp;omega
   omega
  ·have:=(TV encI (l.map id) (by rw[List.length_map];exact hh)).1
   omega
 have hin:inI (l.length:Int):=⟨by omega,by omega⟩
 refine h.alloc PG fun b w1 h=>?_
 have h:=start w1 b h
 simp -zeta only[O4.len r N8]
 refine h.ask (fun B2 own base2=>kl0 (base2 hB) hin) fun w2 h=>?_
 have hl:=kS hin
 rw[show (⟨#[91]⟩:ByteArray)=ofL [91] from rfl,C9 (by simp;omega)]
 refine h.VN (Nat.le_refl _) (by rw[Q_];simp;omega) fun _ w3 h=>?_
 have h:Rel B' w3 [bP B'.W.heap.size b (Go.Lib.itoa l.length++[91])]:=h
 have hmap:(l.map id).length=l.length:=List.length_map ..
 have hall:=(TV encI (l.map id) (by omega)).1
 refine F6 (fun x w'=>∃i:Nat,i≤l.length∧x=(.int .i64 i,())∧Rel B' w' [bP B'.W.heap.size b (Go.Lib.itoa l.length++[91]++((l.map id).take i).flatMap encI)]) (fun x _=>l.length-(match x.1 with | .int _ n=>n.toNat | _=>0))
  ⟨0,Nat.zero_le _,rfl,by simpa using h⟩ ?_
 clear h
 rintro x w4 ⟨i,hi,rfl,h⟩ next hnext
 simp -zeta only[G6,K3]
 refine⟨fun hlt=>?_,fun hge=>?_⟩
 ·have hil:i<l.length:=by omega
  obtain⟨q,q1,q2⟩:=O4.eZ r h N8 hil Y2 (x := .int .i64 l[i]) rfl
  rw[q1,q2]
  refine YH ?_
  refine h.ask (fun B2 own base2=>wC (base2 hB) (hgood l[i] (List.getElem_mem hil))) fun w5 h=>?_
  have hstep:=jI encI (l:=l.map id) (i:=i) (by omega)
  rw[List.getElem_map,show encI (id l[i])=encI l[i] from rfl] at hstep
  have hle:=QE encI (l.map id) (i+1)
  rw[hstep,List.length_append] at hle
  refine h.VN (Nat.le_refl _) (by rw[Q_];simp only[List.length_append,List.length_singleton];omega) fun _ w6 h=>?_
  rw[Z5,E5 (by omega) (by omega)]
  refine hnext _ _ ⟨i+1,hil,rfl,?_⟩ (by simp only;omega)
  rw[hstep,←List.append_assoc]
  exact h
 ·refine h.gU (Nat.le_refl _) fun w7 h=>?_
  have hie:i=l.length:=by omega
  subst hie
  have e:(l.map id).take l.length=l.map id:=List.take_of_length_le (by omega)
  rw[e] at *
  rw[show (⟨#[93]⟩:ByteArray)=ofL [93] from rfl,C9 (by simp only[List.length_append,List.length_singleton];omega)]
  have e2:vY encI (l.map id)=Go.Lib.itoa l.length++[91]++(l.map id).flatMap encI++[93]:=by simp [vY]
  rw[e2] at k
  exact k _ _ h
theorem rE0(hB:VI B){v:Value}{l:List Int}(r:O4 v l B)(hgood:∀x∈l,inI x)(hl:l.length≤1099511627776):Gives prog B (Z0 GV #[v]) (.string (ofL (vY encI l))):=by
 refine Gives.intro fun B' w K base h k=>?_
 refine pX.up ?_
 unfold pX.pt
 have e:l.map id=l:=List.map_id l
 refine h.ask (fun B2 own base2=>Oq0 (base2 (base hB)) (base2 (base r)) hgood (by
  rw[e]
  have h1:=(TV encI l (by omega)).2
  have h2:=xE encI l 21 fun x hx=>Q6 (hgood x hx)
  omega)) fun w1 h=>?_
 rw[e]
 exact k _ _ h
end
abbrev rdC(s:RS):Array Value:=#[.string (ofL s.rest),.bool s.bad]
abbrev rdD(p:Nat)(s:RS):Dat:=O1 p C8 (rdC s)
def jV(p:Nat)(v:Value)(s:RS):Value→Dat→List Dat→Prop:=fun u e' τ=>u=v∧e'=rdD p s∧τ=[]
abbrev uS(p:Nat):Value := .pointer (some ⟨p,0,none⟩)
section
variable {B:Base} {w:World} {σ:List Dat} {p:Nat} {s:RS}
theorem Does.rd{sem:Sem Next}{v:Value}{s':RS}(h:∀(B':Base) (w:World) (K:PtK),(∀{d:Dat},d B→d B')→Rel B' w [rdD p s]→(∀w' τ,Rel B' w' (rdD p s' :: τ)→K v w')→upK prog sem w K):Does prog B (rdD p s) sem (jV p v s'):=by
 refine Does.intro fun B' w K base h' k=>?_
 refine h B' w K base h' fun w' τ h2=>k v _ [] w' ⟨rfl,rfl,rfl⟩ ?_
 have h3:Rel B' w' ([rdD p s']++τ):=h2
 exact h3.drop
theorem Rel.rd_(h:Rel B w σ)(i:Nat)(hi:σ[i]? = some (rdD p s)){sem:Sem Next}{v:Value}{s':RS}{K:PtK}(G:∀B':Base,(∀{j:Nat} {d:Dat},j≠i→σ[j]? = some d→d B')→(∀{d:Dat},d B→d B')→Does prog B' (rdD p s) sem (jV p v s'))
  (k:∀w',Rel B w' (σ.set i (rdD p s'))→K v w'):upK prog sem w K:=by
 refine h.act i hi G fun u e' τ w' hp h2=>?_
 obtain⟨rfl,rfl,rfl⟩:=hp
 rw[List.append_nil] at h2
 exact k _ h2
theorem iq0:Does prog B (rdD p s) (Z0 BA #[uS p]) (jV p (.tuple #[]) eO):=by
 refine Does.rd fun B' w K base h k=>?_
 refine AL.up ?_
 unfold AL.pt
 simp -zeta only[J5,U0 pE,Nat.add_zero]
 refine h.st 0 rfl U6 (show 0<2 by omega) rfl fun w1 h=>?_
 simp -zeta only[U0 lJ,Nat.zero_add]
 refine h.st 0 rfl AB (show 1<2 by omega) rfl fun w2 h=>?_
 exact k _ [] h
theorem dI0(e:UInt8):(e.toNat:Int).toNat.toUInt8=e:=by simp
theorem HZ(hB:qC B){e:UInt8}(he:bE e){lo:Int}(hs:s.rest.length≤140737488355328) :
  Does prog B (rdD p s) (Z0 dC #[uS p,.int .u8 e.toNat,.int .i64 lo]) (jV p (.int .i64 (nL e lo s).1) (nL e lo s).2):=by
 refine Does.rd fun B' w K base h k=>?_
 replace hB:=base hB
 refine fJ.up ?_
 unfold fJ.pt
 have h:=h.tick
 have hmin:min ((s.rest.length:Nat):Int) 21=((min s.rest.length 21:Nat):Int):=by omega
 simp -zeta only[J5,U0 pE,Nat.add_zero,h.ld 0 rfl U6 (o:=0) rfl,aK K8,GI,YK,hmin]
 rw[qR K8 (lo:=0) (hi:=min s.rest.length 21) Bnd.none Bnd.some (Nat.zero_le _) (by rw[Q_];omega)]
 rw[GI,List.drop_zero]
 have hhead:s.rest.take (min s.rest.length 21)=s.rest.take 21:=by
  rcases Nat.le_total s.rest.length 21 with h1 | h1
  ·rw[Nat.min_eq_left h1,List.take_length,List.take_of_length_le h1]
  ·rw[Nat.min_eq_right h1]
 rw[hhead]
 refine h.ask (fun B2 own base2=>IC0 _ _) fun w1 h=>?_
 rw[dI0,GI,G6]
 have bad:(∀n r,s.rest=Go.Lib.itoa n++e :: r→lo≤n→¬inI n)→nL e lo s=(0,eO):=fun hno=>by
  unfold nL
  rw[kj0.2 hno]
 have no:(∀n r,s.rest=Go.Lib.itoa n++e :: r→lo≤n→¬inI n)→∀w',Rel B' w' [rdD p s]→upK prog (Z0 BA #[uS p]) w' fun _ w2=>K (.int .i64 0) w2:=fun hno w' h=>by
  rw[bad hno] at k
  exact h.rd_ 0 rfl (fun B2 own base2=>iq0) fun w2 h=>k _ [] h
 by_cases hmem:e∈s.rest.take 21
 ·obtain⟨a,r,hsp,hna⟩:=Bc0 hmem
  obtain⟨z,hfull⟩:∃z,s.rest=a++e :: z:=by
   have h1:s.rest.take 21++s.rest.drop 21=s.rest:=List.take_append_drop 21 s.rest
   rw[hsp,List.append_assoc,List.cons_append] at h1
   exact⟨_,h1.symm⟩
  have hal:a.length<s.rest.length:=by rw[hfull,List.length_append,List.length_cons];omega
  have hal2:a.length<(s.rest.take 21).length:=by rw[hsp,List.length_append,List.length_cons];omega
  have hat:Go.Lib.indexByte (s.rest.take 21) e=a.length:=by rw[hsp];exact index_first r hna
  have htk:((s.rest.take 21).take a.length).drop 0=a:=by rw[hsp,List.drop_zero,List.take_left]
  rw[hat,decide_eq_false (show ¬((a.length:Int)<0) by omega),d_]
  rw[qR K8 (lo:=0) (hi:=a.length) Bnd.none Bnd.some (Nat.zero_le _) (by rw[Q_];omega)]
  rw[GI,htk]
  refine oF0 hB h (by rw[Q_];omega) fun v w3 hv h=>?_
  have h:=h.tick
  rw[GI] at hv
  rcases hv with⟨n,hn,rfl⟩ | ⟨hno,n,t,q,rfl⟩
  ·have hin:=Go.Lib.atoiAll_bounds hn
   simp -zeta only[M9,D9,qo0 (show prog.underlying YY=some (.interface (prog.methodsAt YY)) by kernel_rfl),d_]
   rw[qR K8 (lo:=0) (hi:=a.length) Bnd.none Bnd.some (Nat.zero_le _) (by rw[Q_];omega),GI,htk]
   refine h.ask (fun B2 own base2=>kl0 (base2 hB) hin) fun w5 h=>?_
   rw[FZ,G5,K3]
   refine⟨fun heq=>?_,fun hne=>no (fun m r' h1 h2 h3=>?_) _ h⟩
   ·have heq:Go.Lib.itoa n=a:=by have:=congrArg bl heq;exact this
    rw[G6,K3]
    refine⟨fun hlt=>no (fun m r' h1 h2 h3=>?_) _ h,fun hge=>?_⟩
    ·rw[hfull] at h1
     obtain⟨e1,_⟩:=dQ hna (oW he) h1
     have:=do0 (heq.trans e1)
     omega
    ·have vd0:nL e lo s=(n,⟨z,s.bad⟩):=by
      unfold nL
      rw[(kb0 he (n:=n) (r:=z)).2 ⟨by rw[heq];exact hfull,by omega,hin⟩]
     rw[vd0] at k
     have hw:IntKind.i64.wrap ((a.length:Int)+1)=((a.length+1:Nat):Int):=by rw[E5 (by omega) (by omega)];omega
     simp -zeta only[J5,U0 pE,Nat.add_zero,h.ld 0 rfl U6 (o:=0) rfl,Z5,hw]
     rw[qR K8 (lo:=a.length+1) (hi:=(ofL s.rest).size) Bnd.some Bnd.none (by rw[Q_];omega) (Nat.le_refl _)]
     have hcut:(((bl (ofL s.rest)).take (ofL s.rest).size).drop (a.length+1))=z:=by
      rw[GI,Q_,List.take_length,hfull]
      have:a++e :: z=(a++[e])++z:=by simp
      rw[this,show a.length+1=(a++[e]).length by simp,List.drop_left]
     rw[hcut]
     refine h.st 0 rfl U6 (show 0<2 by omega) rfl fun w8 h=>?_
     exact k _ [] h
   ·rw[hfull] at h1
    obtain⟨e1,_⟩:=dQ hna (oW he) h1
    rw[e1,ui0 h3] at hn
    injection hn with hn
    subst hn
    exact hne (by rw[e1])
  ·simp -zeta only[M9,D9,gi0 (show prog.underlying YY=some (.interface (prog.methodsAt YY)) by kernel_rfl),lC]
   refine no (fun m r' h1 h2 h3=>?_) _ h
   rw[hfull] at h1
   obtain⟨e1,_⟩:=dQ hna (oW he) h1
   exact hno m (by rw[e1];exact ui0 h3)
 ·rw[index_none hmem,decide_eq_true (show (-1:Int)<0 by decide),lC]
  refine no (fun n r h1 h2 h3=>hmem ?_) _ h
  rw[h1,List.take_append]
  have:=kS h3
  refine List.mem_append.2 (.inr ?_)
  obtain⟨m,hm⟩:∃m,21-(Go.Lib.itoa n).length=m+1:=⟨20-(Go.Lib.itoa n).length,by omega⟩
  rw[hm,List.take_succ_cons]
  exact List.mem_cons_self
theorem us0{e:UInt8}(hs:s.rest.length≤140737488355328):Does prog B (rdD p s) (Z0 dH #[uS p,.string (ofL [e])]) (jV p (.tuple #[]) (TG e s)):=by
 refine Does.rd fun B' w K base h k=>?_
 refine cK.up ?_
 unfold cK.pt
 simp -zeta only[J5,U0 pE,Nat.add_zero,h.ld 0 rfl U6 (o:=0) rfl]
 refine h.ask (fun B2 own base2=>fH0 _ _) fun w1 h=>?_
 simp -zeta only[M9,D9,GI]
 have hc:(Go.Lib.hasPrefix s.rest [e]=true∧TG e s=⟨Go.Lib.trimPrefix s.rest [e],s.bad⟩)∨(Go.Lib.hasPrefix s.rest [e]=false∧TG e s=eO):=by
  unfold Go.Lib.trimPrefix Go.Lib.hasPrefix TG
  cases s.rest with
  | nil=>exact .inr ⟨rfl,rfl⟩
  | cons x r =>
   by_cases hx:x=e
   ·subst hx;left;simp
   ·right
    have:¬e=x:=fun hh=>hx hh.symm
    simp [List.isPrefixOf,hx,this]
 refine h.st 0 rfl U6 (show 0<2 by omega) rfl fun w2 h=>?_
 rcases hc with⟨h1,h2⟩ | ⟨h1,h2⟩
 ·rw[h1,V7,Bool.not_true,d_]
  rw[h2] at k
  exact k _ [] h
 ·rw[h1,V7,Bool.not_false,lC]
  rw[h2] at k
  have h:Rel B' w2 [rdD p ⟨Go.Lib.trimPrefix s.rest [e],s.bad⟩]:=h
  exact h.rd_ 0 rfl (fun B2 own base2=>iq0) fun w3 h=>k _ [] h
theorem EY(hB:qC B)(hs:s.rest.length≤140737488355328):Does prog B (rdD p s) (Z0 qA #[uS p]) (jV p (.int .i64 (qE s).1) (qE s).2):=by
 refine Does.rd fun B' w K base h k=>?_
 refine QM.up ?_
 unfold QM.pt
 exact h.rd_ 0 rfl (fun B2 own base2=>HZ (e:=59) (base2 (base hB)) (.inl rfl) hs) fun w1 h=>k _ [] h
theorem mD(hB:qC B)(hs:s.rest.length≤140737488355328):Does prog B (rdD p s) (Z0 Q4 #[uS p]) (jV p (.int .i64 (H5 s).1) (H5 s).2):=by
 refine Does.rd fun B' w K base h k=>?_
 refine PM.up ?_
 unfold PM.pt
 exact h.rd_ 0 rfl (fun B2 own base2=>HZ (e:=59) (base2 (base hB)) (.inl rfl) hs) fun w1 h=>k _ [] h
theorem zB{e:UInt8}(he:bE e)(lo:Int)(s:RS):(nL e lo s).2.rest.length≤s.rest.length∧inI (nL e lo s).1∧(0≤lo→0≤(nL e lo s).1):=by
 rcases gP he lo s with⟨n,r,e1,e2,e3,e4⟩ | ⟨_,e4⟩<;>rw[e4]
 ·refine⟨?_,e3,fun h=>by show 0≤n;omega⟩
  rw[e1,List.length_append,List.length_cons]
  show r.length≤_
  omega
 ·exact⟨Nat.zero_le _,by show inI 0;exact⟨by decide,by decide⟩,fun _=>Int.le_refl 0⟩
theorem iR(hB:qC B)(hs:s.rest.length≤140737488355328):Does prog B (rdD p s) (Z0 y8 #[uS p]) (jV p (.string (ofL (D8 s).1)) (D8 s).2):=by
 refine Does.rd fun B' w K base h k=>?_
 replace hB:=base hB
 refine zL.up ?_
 unfold zL.pt
 refine h.rd_ 0 rfl (fun B2 own base2=>HZ (e:=58) (base2 hB) (.inr (.inl rfl)) hs) fun w1 h=>?_
 obtain⟨hle,hin,h0⟩:=zB (.inr (.inl rfl):bE 58) 0 s
 have h0:=h0 (Int.le_refl 0)
 unfold D8 at k
 generalize nL 58 0 s=q at h k hle hin h0
 obtain⟨n,s1⟩:=q
 have h:Rel B' w1 [rdD p s1]:=h
 simp only at hle hin h0 k ⊢
 simp -zeta only[J5,U0 pE,Nat.add_zero,h.ld 0 rfl U6 (o:=0) rfl,aK K8,GI,x9,K3]
 refine⟨fun c=>?_,fun c=>?_⟩
 ·rw[if_pos c] at k
  exact h.rd_ 0 rfl (fun B2 own base2=>iq0) fun w2 h=>k _ [] h
 ·rw[if_neg c] at k
  obtain⟨m,rfl⟩:∃m:Nat,n=m:=⟨n.toNat,by omega⟩
  rw[qR K8 (lo:=0) (hi:=m) Bnd.none Bnd.some (Nat.zero_le _) (by rw[Q_];omega)]
  rw[qR K8 (lo:=m) (hi:=(ofL s1.rest).size) Bnd.some Bnd.none (by rw[Q_];omega) (Nat.le_refl _)]
  rw[GI,Q_,List.take_length,List.drop_zero]
  refine h.st 0 rfl U6 (show 0<2 by omega) rfl fun w3 h=>?_
  have h:Rel B' w3 [rdD p ⟨s1.rest.drop m,s1.bad⟩]:=h
  refine h.rd_ 0 rfl (fun B2 own base2=>us0 (e:=44) (by show (s1.rest.drop m).length≤_;rw[List.length_drop];omega)) fun w4 h=>?_
  simp only[Int.toNat_natCast] at k
  have h:Rel B' w4 [rdD p (TG 44 ⟨s1.rest.drop m,s1.bad⟩)]:=h
  simp -zeta only[J5,U0 lJ,Nat.zero_add,h.ld 0 rfl AB (o:=1) rfl]
  rw[R5]
  refine⟨fun c2=>?_,fun c2=>?_⟩
  ·rw[if_pos c2] at k;exact k _ [] h
  ·rw[if_neg (by rw[c2];decide)] at k;exact k _ [] h
theorem gX(hc:rdD p s B):Gives prog B (Z0 qB #[uS p]) (.int .i64 s.rest.length):=by
 refine Gives.intro fun B' w K base h k=>?_
 replace hc:=base hc
 refine xL.up ?_
 unfold xL.pt
 simp -zeta only[J5,U0 pE,Nat.add_zero,O1.ld (h.L6 hc) U6 (o:=0) rfl,aK K8,GI]
 exact k _ _ h
theorem av0:(⟨#[]⟩:ByteArray)=ofL []:=rfl
theorem lC0{P:Program}{T:TypeId}{xo yo:Operand}{a b:Bs}{K:Value→Prop}:M0 P (V3 .eql T xo yo (.string (ofL a)) (.string (ofL b))) K=K (.bool (decide (a=b))):=by
 rw[WW]
 congr 2
 exact decide_eq_decide.2 ⟨fun h=>congrArg bl h,fun h=>by rw[h]⟩
def aO(s:RS):Bool:=!s.bad&&decide (s.rest=[])
theorem dR(hc:rdD p s B):Gives prog B (Z0 m_ #[uS p]) (.bool (aO s)):=by
 refine Gives.intro fun B' w K base h k=>?_
 replace hc:=base hc
 refine wL.up ?_
 unfold wL.pt
 simp -zeta only[J5,U0 pE,U0 lJ,Nat.zero_add,Nat.add_zero,O1.ld (h.L6 hc) U6 (o:=0) rfl,O1.ld (h.L6 hc) AB (o:=1) rfl,V7,G5,R5,av0,lC0]
 unfold aO at k
 refine⟨fun c=>?_,fun c=>?_⟩
 ·rw[c] at k;exact k _ _ h
 ·rw[c] at k;exact k _ _ h
theorem WT{t:Bs}:Makes prog B (Z0 S_ #[.string (ofL t)]) fun u τ=>∃p,u=uS p∧τ=[rdD p ⟨t,false⟩]:=by
 refine Makes.intro fun B' w K base h k=>?_
 refine qX.up ?_
 unfold qX.pt
 rw[wa0]
 refine h.box fun b w1 h=>?_
 exact k _ _ _ ⟨b,rfl,rfl⟩ h
end
theorem Ok1.shrink{α:Type}{enc:α→Bs}{good:α→Prop}{one:RS→α×RS}(h:Ok1 enc good one)(hne:∀x,0<(enc x).length){s:RS}(h1:s.bad=false) :
  (one s).2.rest.length≤s.rest.length∧((one s).2.bad=false→(one s).2.rest.length+1≤s.rest.length):=by
 cases hb:(one s).2.bad
 ·obtain⟨e,_⟩:=h.back h1 hb
  have:=hne (one s).1
  rw[e,List.length_append]
  exact⟨by omega,fun _=>by omega⟩
 ·rw[h.fail h1 hb]
  exact⟨Nat.zero_le _,fun hh=>by cases hh⟩
theorem RV(n:Int):0<(encI n).length:=by unfold encI;simp
theorem no0{α:Type}{enc:α→Bs}{good:α→Prop}{one:RS→α×RS}(h:Ok1 enc good one)(hne:∀x,0<(enc x).length):∀(k:Nat) (acc:List α) (s:RS),(tN one k acc s).1.length≤acc.length+s.rest.length+1
 | 0,acc,s=>by rw[tN];simp only;omega
 | k+1,acc,s=>by
  rw[tN]
  by_cases c:s.bad=true
  ·rw[if_pos c];simp only;omega
  ·rw[if_neg c]
   have c:s.bad=false:=by simpa using c
   obtain⟨h1,h2⟩:=h.shrink hne c
   cases hb:(one s).2.bad
   ·have:=no0 h hne k (acc++[(one s).1]) (one s).2
    have:=h2 hb
    rw[List.length_append,List.length_singleton] at *
    omega
   ·cases k with
    | zero=>rw[tN,List.length_append,List.length_singleton];omega
    | succ k=>rw[tN,if_pos hb,List.length_append,List.length_singleton];omega
section
variable {B:Base} {w:World} {σ:List Dat} {p:Nat} {s:RS}
theorem co0(hB:qC B)(hs:s.rest.length≤1099511627776):Does prog B (rdD p s) (Z0 VO #[uS p,.func (.func Q4) #[uS p] #[]]) (fun u e' τ=>e'=rdD p (bN H5 s).2∧τ=[Y3 Q0 u ((bN H5 s).1)]):=by
 refine Does.intro fun B' w K base h k=>?_
 replace hB:=base hB
 refine AO.up ?_
 unfold AO.pt
 refine P6 fun J1 hJ1=>?_
 replace hJ1:∀v acc s' w',bN H5 s=(if(TG 93 s').bad=true then [] else acc,TG 93 s')→s'.rest.length≤s.rest.length→Rel B' w' [rdD p s',Y3 Q0 v acc]→J1 (v,()) w':=by
  intro v acc s' w' he hl h
  refine hJ1 _ _ ?_
  clear hJ1
  refine h.rd_ 0 rfl (fun B2 own base2=>us0 (e:=93) (by omega)) fun w2 h=>?_
  have h:Rel B' w2 [rdD p (TG 93 s'),Y3 Q0 v acc]:=h
  simp -zeta only[J5,U0 lJ,Nat.zero_add,h.ld 0 rfl AB (o:=1) rfl]
  rw[R5]
  rw[he] at k
  refine⟨fun c=>?_,fun c=>?_⟩
  ·have h:=(h.take 1).VC Int Q0
   have h:Rel B' w2 [rdD p (TG 93 s'),Y3 Q0 (.slice none 0 0) ([]:List Int)]:=h
   refine k _ _ _ _ ⟨rfl,rfl⟩ ?_
   rw[if_pos c]
   exact h
  ·refine k _ _ _ _ ⟨rfl,rfl⟩ ?_
   rw[if_neg (by rw[c];decide)]
   exact h
 refine h.rd_ 0 rfl (fun B2 own base2=>HZ (e:=91) (base2 hB) (.inr (.inr rfl)) (by omega)) fun w3 h=>?_
 obtain⟨hle,hin,h0⟩:=zB (.inr (.inr rfl):bE 91) 0 s
 have h0:=h0 (Int.le_refl 0)
 unfold bN at hJ1
 generalize nL 91 0 s=q at h hJ1 hle hin h0
 obtain⟨n,s1⟩:=q
 simp only at hle hin h0 hJ1 ⊢
 obtain⟨m,hm⟩:∃m:Nat,n=m:=⟨n.toNat,by omega⟩
 have h:Rel B' w3 [rdD p s1]:=h
 have h:=h.VC Int Q0
 rw[hm] at hJ1 ⊢
 simp only[Int.toNat_natCast] at hJ1
 refine F6 (fun x w'=>∃(j:Nat) (acc:List Int) (v:Value) (s':RS),j≤m∧x=(v,.int .i64 j,())∧tN H5 j acc s'=tN H5 m [] s1∧s'.rest.length≤s.rest.length∧(s'.bad=false→acc.length+s'.rest.length≤s.rest.length) ∧
   Rel B' w' [rdD p s',Y3 Q0 v acc]) (fun x _=>match x.2.1 with | .int _ n=>n.toNat | _=>0)
  ⟨m,[],.slice none 0 0,s1,Nat.le_refl _,rfl,rfl,hle,fun _=>by simpa using hle,h⟩ ?_
 clear h
 rintro x w4 ⟨j,acc,v,s',hj,rfl,hlp,hsl,hac,h⟩ next hnext
 simp -zeta only[x9,K3]
 refine⟨fun hpos=>?_,fun hz=>?_⟩
 ·obtain⟨i,rfl⟩:∃i,j=i+1:=⟨j-1,by omega⟩
  simp -zeta only[J5,U0 lJ,Nat.zero_add,h.ld 0 rfl AB (o:=1) rfl]
  rw[V7,G5,R5]
  rw[tN] at hlp
  refine⟨fun c=>?_,fun c=>?_⟩
  ·rw[if_pos c] at hlp
   rw[←hlp] at hJ1
   exact hJ1 v acc s' w4 rfl hsl h
  ·rw[if_neg (by rw[c];decide)] at hlp
   have hac:=hac c
   obtain⟨sh1,sh2⟩:=Ok1.shrink Vd0 RV c
   refine YH ?_
   show upK prog (Z0 Q4 #[uS p]) w4 _
   refine h.rd_ 0 rfl (fun B2 own base2=>mD (base2 hB) (by omega)) fun w5 h=>?_
   have h:Rel B' w5 [rdD p (H5 s').2,Y3 Q0 v acc]:=h
   refine h.WS (α:=Int) 1 rfl ((H5 s').1) N8 (by decide) (by omega) (by omega) fun v2 w7 h=>?_
   have h:Rel B' w7 [rdD p (H5 s').2,Y3 Q0 v2 (acc++[((H5 s').1)])]:=h
   rw[TB,E5 (by omega) (by omega)]
   have e1:(((i+1:Nat):Int)-1)=(i:Int):=by omega
   rw[e1]
   refine hnext _ _ ⟨i,acc++[(H5 s').1],v2,(H5 s').2,by omega,rfl,hlp,by omega,fun hb=>?_,?_⟩ (by simp only;omega)
   ·have:=sh2 hb
    rw[List.length_append,List.length_singleton]
    omega
   ·have e2:(acc++[(H5 s').1])=acc++[((H5 s').1)]:=rfl
    rw[e2]
    exact h
 ·obtain rfl:j=0:=by omega
  rw[tN] at hlp
  rw[←hlp] at hJ1
  exact hJ1 v acc s' w4 rfl hsl h
theorem mD0(hB:qC B)(hs:s.rest.length≤1099511627776):Does prog B (rdD p s) (Z0 XM #[uS p]) (fun u e' τ=>e'=rdD p (bN H5 s).2∧τ=[Y3 Q0 u ((bN H5 s).1)]):=by
 refine Does.intro fun B' w K base h k=>?_
 refine yL.up ?_
 unfold yL.pt
 rw[TI]
 refine h.act 0 rfl (fun B2 own base2=>co0 (base2 (base hB)) hs) fun u e' τ w1 hp h=>?_
 exact k _ _ _ _ hp h
end
end Go.Proofs.YtngbebnhegcokaaGreatDoor
namespace Go.Proofs.YtngbebnhegcokaaGreatDoor
open Go.Proofs.Tryz (prog)
open Go.RowKit
structure Ok2 {α:Type} (enc:α→Bs) (good:α→Prop) (one:RS→α×RS):Prop where
 ok:Ok1 enc good one
 keep:∀s:RS,s.bad=true→(one s).2.bad=true
theorem Ok2.back{α:Type}{enc:α→Bs}{good:α→Prop}{one:RS→α×RS}(h:Ok2 enc good one){s:RS}(hb:(one s).2.bad=false):s.bad=false∧s.rest=enc (one s).1++(one s).2.rest∧good (one s).1:=by
 have h1:s.bad=false:=by
  cases hs:s.bad
  ·rfl
  ·rw[h.keep s hs] at hb;cases hb
 exact⟨h1,h.ok.back h1 hb⟩
theorem jb0{e:UInt8}(he:bE e)(lo:Int)(s:RS)(h:s.bad=true):(nL e lo s).2.bad=true:=by
 rcases gP he lo s with⟨n,r,_,_,_,e4⟩ | ⟨_,e4⟩<;>rw[e4]
 ·exact h
 ·rfl
theorem bn0(e:UInt8)(s:RS)(h:s.bad=true):(TG e s).bad=true:=by
 rcases PQ e s with⟨r,_,e2⟩ | ⟨_,e2⟩<;>rw[e2]
 ·exact h
 ·rfl
theorem Zy0:Ok2 encI (fun n => -9223372036854775808≤n∧inI n) H5:=⟨Vd0,fun s h=>jb0 (.inl rfl) _ s h⟩
theorem Oz0:Ok2 encI (fun n=>0≤n∧inI n) qE:=⟨QC0,fun s h=>jb0 (.inl rfl) _ s h⟩
theorem Mj0:Ok2 yB (fun t=>t.length≤9223372036854775807) D8:=by
 refine⟨nB0,fun s h=>?_⟩
 unfold D8
 simp only
 split
 ·rfl
 ·exact bn0 _ _ (jb0 (.inr (.inl rfl)) _ s h)
def IQ{α β:Type}(one:RS→α×RS)(two:RS→β×RS)(s:RS):(α×β)×RS:=(((one s).1,(two (one s).2).1),(two (one s).2).2)
def IK{α:Type}(one:RS→α×RS):Nat→List α→RS→List α×RS
 | 0,acc,s=>(acc,s)
 | k+1,acc,s=>IK one k (acc++[(one s).1]) (one s).2
structure Rd2 {α:Type} (enc:α→Bs) (good:α→Prop) (one:RS→α×RS):Prop where
 back:∀s:RS,(one s).2.bad=false→s.bad=false∧s.rest=enc (one s).1++(one s).2.rest∧good (one s).1
 fore:∀(x:α) (r:Bs),good x→one ⟨enc x++r,false⟩=(x,⟨r,false⟩)
theorem mO:Rd2 encI inI H5:=⟨fun s h=>by
 obtain⟨h1,h2,h3⟩:=Zy0.back h
 exact⟨h1,h2,h3.2⟩,fun x r hx=>yE hx r false⟩
theorem yt0:Rd2 encI (fun n=>0≤n∧inI n) qE:=⟨fun s h=>Oz0.back h,fun x r hx=>qW hx.1 hx.2 r false⟩
theorem RZ:Rd2 yB (fun t=>t.length≤9223372036854775807) D8:=⟨fun s h=>Mj0.back h,fun x r hx=>BR hx r⟩
theorem Rd2.seq{α β:Type}{e1:α→Bs}{e2:β→Bs}{g1:α→Prop}{g2:β→Prop}{one:RS→α×RS}{two:RS→β×RS}(h1:Rd2 e1 g1 one)(h2:Rd2 e2 g2 two):Rd2 (fun p=>e1 p.1++e2 p.2) (fun p=>g1 p.1∧g2 p.2) (IQ one two):=by
 refine⟨fun s h=>?_,fun x r hx=>?_⟩
 ·obtain⟨b1,b2,b3⟩:=h2.back _ h
  obtain⟨a1,a2,a3⟩:=h1.back _ b1
  refine⟨a1,?_,a3,b3⟩
  show s.rest=(e1 (one s).1++e2 (two (one s).2).1)++(two (one s).2).2.rest
  rw[a2,b2,List.append_assoc]
 ·unfold IQ
  rw[List.append_assoc,h1.fore _ _ hx.1,h2.fore _ _ hx.2]
theorem Rd2.times{α:Type}{enc:α→Bs}{good:α→Prop}{one:RS→α×RS}(h:Rd2 enc good one):∀(k:Nat) (acc:List α) (s:RS),(IK one k acc s).2.bad=false →
  s.bad=false∧∃l,l.length=k∧(IK one k acc s).1=acc++l∧s.rest=l.flatMap enc++(IK one k acc s).2.rest∧∀x∈l,good x
 | 0,acc,s,hb=>⟨hb,[],rfl,by simp [IK],by simp [IK],fun x hx=>(by cases hx)⟩
 | k+1,acc,s,hb=>by
  rw[IK] at hb ⊢
  obtain⟨h1,l,e1,e2,e3,e4⟩:=Rd2.times h k _ _ hb
  obtain⟨b1,b2,b3⟩:=h.back _ h1
  refine⟨b1,(one s).1 :: l,by rw[List.length_cons,e1],by rw[e2];simp,?_,fun x hx=>?_⟩
  ·rw[List.flatMap_cons,List.append_assoc,←e3];exact b2
  ·rcases List.mem_cons.1 hx with rfl | hx
   ·exact b3
   ·exact e4 x hx
theorem Rd2.Oj0{α:Type}{enc:α→Bs}{good:α→Prop}{one:RS→α×RS}(h:Rd2 enc good one):∀(l acc:List α) (r:Bs),(∀x∈l,good x)→IK one l.length acc ⟨l.flatMap enc++r,false⟩=(acc++l,⟨r,false⟩)
 | [],acc,r,_=>by simp [IK]
 | x :: l,acc,r,hg=>by
  rw[List.length_cons,IK,List.flatMap_cons,List.append_assoc,h.fore _ _ (hg x List.mem_cons_self)]
  rw[Rd2.Oj0 h l _ r fun y hy=>hg y (List.mem_cons_of_mem _ hy)]
  simp
theorem qn0{s:RS}(h:aO s=true):s.bad=false∧s.rest=[]:=by
 unfold aO at h
 cases hb:s.bad<;>rw[hb] at h
 ·exact⟨rfl,by simpa using h⟩
 ·cases h
abbrev aG0:Int := -9223372036854775808
abbrev WK(s:RS):Prop:=s.bad=true→s.rest=[]
theorem rU{e:UInt8}(he:bE e){lo:Int}{s:RS}(h:WK s):WK (nL e lo s).2:=by
 rcases gP he lo s with⟨n,r,e1,_,_,e4⟩ | ⟨_,e4⟩<;>rw[e4]
 ·intro hb
  have:=h hb
  rw[this] at e1
  exact absurd e1.symm (by simp)
 ·exact fun _=>rfl
theorem oc0{e:UInt8}{s:RS}(h:WK s):WK (TG e s):=by
 rcases PQ e s with⟨r,e1,e2⟩ | ⟨_,e2⟩<;>rw[e2]
 ·intro hb
  have:=h hb
  rw[this] at e1
  cases e1
 ·exact fun _=>rfl
theorem uw0{s:RS}(h:WK s)(n:Nat):WK ⟨s.rest.drop n,s.bad⟩:=fun hb=>by
 show s.rest.drop n=[]
 rw[h hb,List.drop_nil]
theorem TY{s:RS}(h:WK s):WK (D8 s).2:=by
 have h1:=rU (.inr (.inl rfl):bE 58) (lo:=0) h
 unfold D8
 simp only
 split
 ·exact fun _=>rfl
 ·exact oc0 (uw0 h1 _)
theorem Wf0{α:Type}{one:RS→α×RS}(ho:∀s,WK s→WK (one s).2):∀(k:Nat) (acc:List α) (s:RS),WK s→WK (tN one k acc s).2
 | 0,acc,s,h=>by rw[tN];exact h
 | k+1,acc,s,h=>by
  rw[tN]
  split
  ·exact h
  ·exact Wf0 ho k _ _ (ho s h)
theorem ao0{α:Type}{one:RS→α×RS}(ho:∀s,WK s→WK (one s).2){s:RS}(h:WK s):WK (bN one s).2:=by
 unfold bN
 exact oc0 (Wf0 ho _ _ _ (rU (.inr (.inr rfl)) h))
theorem iG{s:RS}(h:WK s):WK (H5 s).2:=rU (.inl rfl) h
theorem ab0{s:RS}(h:WK s):WK (qE s).2:=rU (.inl rfl) h
theorem Eq0{α:Type}{enc:α→Bs}{good:α→Prop}{one:RS→α×RS}(h:Ok1 enc good one)(hne:∀x,0<(enc x).length)(s:RS):(bN one s).1.length≤s.rest.length+1:=by
 unfold bN
 have h1:=(zB (.inr (.inr rfl):bE 91) 0 s).1
 have h2:=no0 h hne (nL 91 0 s).1.toNat [] (nL 91 0 s).2
 rw[List.length_nil] at h2
 simp only
 split
 ·rw[List.length_nil];omega
 ·omega
theorem Di0(e:UInt8)(s:RS):(TG e s).rest.length≤s.rest.length:=by
 rcases PQ e s with⟨r,e1,e2⟩ | ⟨_,e2⟩<;>rw[e2]
 ·rw[e1,List.length_cons];exact Nat.le_succ _
 ·exact Nat.zero_le _
theorem AU(s:RS):(D8 s).1.length≤s.rest.length∧(D8 s).2.rest.length≤s.rest.length:=by
 have h1:=(zB (.inr (.inl rfl):bE 58) 0 s).1
 unfold D8
 simp only
 split
 ·exact⟨Nat.zero_le _,Nat.zero_le _⟩
 ·have h2:=Di0 44 ⟨(nL 58 0 s).2.rest.drop (nL 58 0 s).1.toNat,(nL 58 0 s).2.bad⟩
  have h3:(⟨(nL 58 0 s).2.rest.drop (nL 58 0 s).1.toNat,(nL 58 0 s).2.bad⟩:RS).rest.length≤(nL 58 0 s).2.rest.length:=by
   show ((nL 58 0 s).2.rest.drop _).length≤_
   rw[List.length_drop];omega
  refine⟨?_,Nat.le_trans h2 (Nat.le_trans h3 h1)⟩
  show (if _ then([]:Bs) else _).length≤_
  split
  ·exact Nat.zero_le _
  ·rw[List.length_take];omega
theorem ej0{α:Type}{one:RS→α×RS}(h:∀s,(one s).2.rest.length≤s.rest.length):∀(k:Nat) (acc:List α) (s:RS),(tN one k acc s).2.rest.length≤s.rest.length
 | 0,acc,s=>by rw[tN];exact Nat.le_refl _
 | k+1,acc,s=>by
  rw[tN]
  split
  ·exact Nat.le_refl _
  ·exact Nat.le_trans (ej0 h k _ _) (h s)
theorem Bq0{α:Type}{one:RS→α×RS}(h:∀s,(one s).2.rest.length≤s.rest.length)(s:RS):(bN one s).2.rest.length≤s.rest.length:=by
 unfold bN
 exact Nat.le_trans (Di0 _ _) (Nat.le_trans (ej0 h _ _ _) (zB (.inr (.inr rfl)) 0 s).1)
theorem YD(s:RS):(H5 s).2.rest.length≤s.rest.length:=(zB (.inl rfl) _ s).1
theorem Wd0(s:RS):(qE s).2.rest.length≤s.rest.length:=(zB (.inl rfl) _ s).1
end Go.Proofs.YtngbebnhegcokaaGreatDoor
namespace Go.Proofs.YtngbebnhegcokaaGreatDoor
open Go.Proofs.Tryz (prog)
open Go.RowKit
set_option maxRecDepth 100000
def d9(x:uB):Bs:=encI x.term++yB (bl x.data)
def EL(m:R9):List Int:=[m.kind,m.from_,m.to_,m.term,m.index,m.prev,m.commit,if m.yes then 1 else 0]
def EN(m:R9):Bs:=(EL m).flatMap encI++(encI m.recs.length++m.recs.flatMap d9)
structure MR (x:uB):Prop where
 term:inI x.term
 data:x.data.size≤100000
structure bM (m:R9):Prop where
 ints:∀n∈EL m,inI n
 few:m.recs.length≤8
 recs:∀x∈m.recs,MR x
theorem aP(s:ByteArray):(bl s).length=s.size:=by
 show s.data.toList.length=s.data.size
 exact Array.length_toList
theorem pO(s:ByteArray):ofL (bl s)=s:=by
 show (⟨s.data.toList.toArray⟩:ByteArray)=s
 rw[Array.toArray_toList]
theorem RU{x:uB}(h:MR x):(d9 x).length≤100043:=by
 have h1:=Q6 h.term
 have h2:=wE (bl x.data) (by rw[aP];have:=h.data;omega)
 have h3:=h.data
 rw[aP] at h2
 unfold d9
 rw[List.length_append]
 omega
theorem dq0(x:uB):0<(d9 x).length:=by
 unfold d9 encI
 simp only[List.length_append,List.length_cons,List.length_nil]
 omega
theorem LH0{Kp:Value→Prop}{m:R9}{i:Nat}(hi:i<(EL m).length):M0 prog (KY Dd0 (.agg ((EL m).map (Value.int .i64)).toArray) (.int .i64 i)) Kp=Kp (.int .i64 (EL m)[i]):=by
 have:i<8:=hi
 obtain rfl | rfl | rfl | rfl | rfl | rfl | rfl | rfl:i=0∨i=1∨i=2∨i=3∨i=4∨i=5∨i=6∨i=7:=by omega
 all_goals exact F5 fun w=>by kernel_rfl
section
variable {B:Base} {w:World} {σ τ:List Dat} {p:Nat}
theorem Mg0(hB:VI B){x:uB}(hx:MR x):Gives prog B (Z0 zI #[.agg x.cs.toArray]) (.string (ofL (d9 x))):=by
 refine Gives.intro fun B' w K base h k=>?_
 replace hB:=base hB
 refine oL.up ?_
 unfold oL.pt
 refine h.box fun o w1 h=>?_
 have h:Rel B' w1 [O1 o X3 x.cs.toArray]:=h
 have h:=h.tick
 generalize tick w1=w1 at *
 have l1:=Q6 hx.term
 have l2:=RU hx
 have l3:=hx.data
 unfold d9 at k l2
 rw[List.length_append] at l2
 simp -zeta only[U0 NS,U0 bW,Nat.zero_add]
 rw[h.ld 0 rfl Y2 (o:=0) (v := .int .i64 x.term) rfl,h.ld 0 rfl U6 (o:=1) (v := .string x.data) rfl]
 refine h.ask (fun B2 own base2=>wC (base2 hB) hx.term) fun w2 h=>?_
 refine⟨h.is 0 rfl U6 (o:=1) rfl,?_⟩
 refine h.ask (v := .string (ofL (yB (bl x.data)))) (fun B2 own base2=>by
  have:=gT (base2 hB) (s:=bl x.data) (by rw[aP];omega)
  rw[pO] at this
  exact this) fun w3 h=>?_
 rw[C9 (by omega)]
 exact k _ _ h.nil
end
theorem bd8{K:Value→Prop}{a b c d e f g i:Int}:M0 prog (H6 Dd0 #[(0,.int .i64 a),(1,.int .i64 b),(2,.int .i64 c),(3,.int .i64 d),(4,.int .i64 e),(5,.int .i64 f),(6,.int .i64 g),(7,.int .i64 i)]) K=K (.agg #[.int .i64 a,.int .i64 b,.int .i64 c,.int .i64 d,.int .i64 e,.int .i64 f,.int .i64 g,.int .i64 i]):=F5 fun w=>by kernel_rfl
theorem YW{α:Type}(f:α→Bs)(l:List α){i:Nat}(hi:i<l.length):(l.take (i+1)).flatMap f=(l.take i).flatMap f++f l[i]:=by
 rw[List.take_succ_eq_append_getElem hi,List.flatMap_append]
 simp
theorem vn0{m:R9}(h:bM m):(EN m).length≤1000000:=by
 unfold EN
 have h1:=xE encI (EL m) 21 fun n hn=>Q6 (h.ints n hn)
 have h2:=Q6 (n:=(m.recs.length:Int)) (by have:=h.few;unfold inI;omega)
 have h3:=xE d9 m.recs 100043 fun x hx=>RU (h.recs x hx)
 have h4:=h.few
 have h5:(EL m).length=8:=rfl
 rw[List.length_append,List.length_append]
 omega
section
variable {B:Base} {w:World} {σ τ:List Dat} {p:Nat}
set_option maxHeartbeats 1000000 in
theorem dg0(hB:VI B){m:R9}{v:SV}(hm:bM m)(q:O4 v.1 m.recs B):Gives prog B (Z0 zM #[(m.raw v).v]) (.string (ofL (EN m))):=by
 refine Gives.intro fun B' w K base h k=>?_
 replace hB:=base hB
 replace q:=base q
 refine KP.up ?_
 unfold KP.pt
 have hml:=vn0 hm
 have hmf:=hm.few
 refine h.box fun o w1 h=>?_
 have h:Rel B' w1 [O1 o Y1 (m.raw v).cs.toArray]:=h
 refine P6 fun J hJ=>?_
 replace hJ:∀w',Rel B' w' [O1 o Y1 (m.raw v).cs.toArray]→J (.int .i64 (if m.yes then 1 else 0),()) w':=by
  intro w' h
  refine hJ _ _ ?_
  clear hJ
  simp -zeta only[U0 WV,U0 lN,U0 XV,U0 uK,U0 bF,U0 nN,U0 MS,U0 VP,Nat.zero_add]
  rw[h.ld 0 rfl Y2 (o:=0) (v := .int .i64 m.kind) rfl,h.ld 0 rfl Y2 (o:=1) (v := .int .i64 m.from_) rfl,h.ld 0 rfl Y2 (o:=2) (v := .int .i64 m.to_) rfl,h.ld 0 rfl Y2 (o:=3) (v := .int .i64 m.term) rfl,h.ld 0 rfl Y2 (o:=4) (v := .int .i64 m.index) rfl,h.ld 0 rfl Y2 (o:=5) (v := .int .i64 m.prev) rfl,h.ld 0 rfl Y2 (o:=6) (v := .int .i64 m.commit) rfl,bd8]
  have hagg:(Value.agg #[.int .i64 m.kind,.int .i64 m.from_,.int .i64 m.to_,.int .i64 m.term,.int .i64 m.index,.int .i64 m.prev,.int .i64 m.commit,.int .i64 (if m.yes then 1 else 0)]) = .agg ((EL m).map (Value.int .i64)).toArray:=rfl
  rw[hagg]
  clear hagg
  have h8:(EL m).length=8:=rfl
  refine F6 (fun z w'=>∃i:Nat,i≤8∧z=(.string (ofL (((EL m).take i).flatMap encI)),.int .i64 i,())∧Rel B' w' [O1 o Y1 (m.raw v).cs.toArray])
   (fun z _=>8-(match z.2.1 with | .int _ n=>n.toNat | _=>0)) ⟨0,Nat.zero_le _,rfl,h⟩ ?_
  clear h
  rintro z w2 ⟨i,hi,rfl,h⟩ next hnext
  simp -zeta only[G6,K3]
  refine⟨fun hlt=>?_,fun hge=>?_⟩
  ·have hil:i<(EL m).length:=by omega
   rw[LH0 hil]
   refine h.ask (fun B2 own base2=>wC (base2 hB) (hm.ints _ (List.getElem_mem hil))) fun w3 h=>?_
   have h1:=Q6 (hm.ints _ (List.getElem_mem hil))
   have h2:=xE encI ((EL m).take i) 21 fun n hn=>Q6 (hm.ints n (List.mem_of_mem_take hn))
   have h3:((EL m).take i).length≤8:=by rw[List.length_take];omega
   rw[C9 (by omega),Z5,E5 (by omega) (by omega),←YW encI _ hil]
   exact hnext _ _ ⟨i+1,by omega,rfl,h⟩ (by simp only;omega)
  have:i=(EL m).length:=by omega
  subst this
  rw[List.take_length]
  have hml2:=hml
  unfold EN at hml2
  rw[List.length_append,List.length_append] at hml2
  have hin:inI (m.recs.length:Int):=by unfold inI;omega
  rw[h.ld 0 rfl X5 (o:=8) (v:=v.1) rfl,O4.len q u6]
  refine h.ask (fun B2 own base2=>oh0 (base2 hB) hin) fun w3 h=>?_
  rw[show sd0 (m.recs.length:Int)=encI m.recs.length by unfold sd0;rw[if_neg (by omega)],C9 (by omega)]
  rw[h.ld 0 rfl X5 (o:=8) (v:=v.1) rfl,O4.len q u6]
  refine F6 (fun z w'=>∃i:Nat,i≤m.recs.length∧z=(.string (ofL (((EL m).flatMap encI++encI m.recs.length)++(m.recs.take i).flatMap d9)),.int .i64 i,())∧Rel B' w' [O1 o Y1 (m.raw v).cs.toArray])
   (fun z _=>m.recs.length-(match z.2.1 with | .int _ n=>n.toNat | _=>0)) ⟨0,Nat.zero_le _,by rw[List.take_zero,List.flatMap_nil,List.append_nil];rfl,h⟩ ?_
  clear h
  rintro z w4 ⟨i,hi,rfl,h⟩ next hnext
  simp -zeta only[G6,K3]
  refine⟨fun hlt=>?_,fun hge=>?_⟩
  case refine_2 =>
   have:i=m.recs.length:=by omega
   subst this
   rw[List.take_length,List.append_assoc]
   exact k _ _ h.nil
  have hil:i<m.recs.length:=by omega
  obtain⟨g,og,hx,hc⟩:=O4.idx q u6 (P:=prog) hil
  have hc:K6 g og m.recs[i].cs B':=hc
  rw[hx,K6.r9 (h.L6 hc) S9 rfl]
  have hfx:=hm.recs _ (List.getElem_mem hil)
  have h3:=QE d9 m.recs (i+1)
  rw[YW d9 _ hil] at h3
  rw[List.length_append] at h3
  have hsn:=YW d9 m.recs hil
  generalize m.recs[i]=x at *
  refine h.R8 (ds:=x.cs.toArray) CL rfl S9 rfl (fun v hv=>Enc.one x v hv) fun b w5 h=>?_
  rw[h.r9 1 rfl S9 rfl]
  refine h.ask (fun B2 own base2=>Mg0 (base2 hB) hfx) fun w6 h=>?_
  rw[C9 (by rw[List.length_append,List.length_append];omega),Z5,E5 (by omega) (by omega)]
  refine hnext _ _ ⟨i+1,hil,?_,h.take 1⟩ (by simp only;omega)
  rw[hsn,List.append_assoc _ ((m.recs.take i).flatMap d9)]
  rfl
 simp -zeta only[U0 vK,Nat.zero_add]
 rw[h.ld 0 rfl AB (o:=7) (v := .bool m.yes) rfl,R5]
 refine⟨fun c=>?_,fun c=>?_⟩
 ·rw[c] at hJ;exact hJ _ h
 ·rw[c] at hJ;exact hJ _ h
end
theorem Am0{X:Type}{B:X→World→(X→World→Prop)→Prop}{x:X}{w:World}(I:Nat→X→World→Prop)(n:Nat)(h0:I n x w)
  (hB:∀n x w,I n x w→∀next:X→World→Prop,(∀n' x' w',n'<n→I n' x' w'→next x' w')→B x w next):LOOP B x w:=by
 have key:∀k n x w,I n x w→n<k→iter B k x w:=by
  intro k
  induction k with
  | zero=>intro n x w _ h;omega
  | succ k ih=>intro n x w hI hk;exact hB n x w hI _ fun n' x' w' hlt hI'=>ih n' x' w' hI' (by omega)
 exact⟨n+1,key _ n x w h0 (by omega)⟩
section
variable {B:Base} {w:World} {σ τ:List Dat} {p:Nat}
theorem Rel.KZ(hB:qC B){n:Int}{r:Bs}{K:PtK}(h:Rel B w σ)(i:Nat)(hi:σ[i]? = some (rdD p ⟨encI n++r,false⟩))(hn:inI n)(hl:(encI n++r).length≤140737488355328)(k:∀w',Rel B w' (σ.set i (rdD p ⟨r,false⟩))→K (.int .i64 n) w') :
  upK prog (Z0 Q4 #[uS p]) w K:=by
 refine h.rd_ i hi (fun B2 own base2=>mD (base2 hB) hl) fun w' h=>?_
 rw[yE hn] at h ⊢
 exact k _ h
theorem Rel.qG0(hB:qC B){t r:Bs}{K:PtK}(h:Rel B w σ)(i:Nat)(hi:σ[i]? = some (rdD p ⟨yB t++r,false⟩))(hl:(yB t++r).length≤140737488355328)(ht:t.length≤9223372036854775807)(k:∀w',Rel B w' (σ.set i (rdD p ⟨r,false⟩))→K (.string (ofL t)) w') :
  upK prog (Z0 y8 #[uS p]) w K:=by
 refine h.rd_ i hi (fun B2 own base2=>iR (base2 hB) hl) fun w' h=>?_
 rw[BR ht] at h ⊢
 exact k _ h
set_option maxHeartbeats 2000000 in
theorem rG0(hB:qC B)(hP:VI B){m:R9}(hm:bM m):Makes prog B (Z0 JR #[.string (ofL (EN m))]) fun u τ=>∃v:SV,u = .tuple #[(m.raw v).v,.bool true]∧τ=[Y3 X3 v.1 m.recs]:=by
 refine Makes.intro fun B' w K base h k=>?_
 replace hB:=base hB
 replace hP:=base hP
 refine jR.up ?_
 unfold jR.pt
 have hml:=vn0 hm
 have hmf:=hm.few
 have hin:inI (m.recs.length:Int):=by unfold inI;omega
 have e8:EN m=encI m.kind++(encI m.from_++(encI m.to_++(encI m.term++(encI m.index++(encI m.prev++(encI m.commit++(encI (if m.yes then 1 else 0)++(encI m.recs.length++m.recs.flatMap d9)))))))):=by
  unfold EN EL
  simp only[List.flatMap_cons,List.flatMap_nil,List.append_assoc,List.nil_append]
 have hi:=hm.ints
 unfold EL at hi
 simp only[List.mem_cons,List.not_mem_nil,or_false,forall_eq_or_imp,forall_eq] at hi
 obtain⟨i0,i1,i2,i3,i4,i5,i6,i7⟩:=hi
 refine h.alloc vJ fun t w1 h=>?_
 refine h.make (fun B2 own base2=>WT) fun u τ w2 hp h=>?_
 obtain⟨p,rfl,rfl⟩:=hp
 have h:Rel B' w2 [O1 t Y1 ((⟨0,0,0,0,0,0,0,false,[]⟩:R9).raw nC).cs.toArray,rdD p ⟨EN m,false⟩]:=h
 have hll:=hml
 rw[e8] at h hll
 simp only[List.length_append] at hll
 refine h.KZ hB 1 rfl i0 (by simp only[List.length_append];omega) fun w3 h=>?_
 refine h.KZ hB 1 rfl i1 (by simp only[List.length_append];omega) fun w3 h=>?_
 refine h.KZ hB 1 rfl i2 (by simp only[List.length_append];omega) fun w3 h=>?_
 refine h.KZ hB 1 rfl i3 (by simp only[List.length_append];omega) fun w3 h=>?_
 refine h.KZ hB 1 rfl i4 (by simp only[List.length_append];omega) fun w3 h=>?_
 refine h.KZ hB 1 rfl i5 (by simp only[List.length_append];omega) fun w3 h=>?_
 refine h.KZ hB 1 rfl i6 (by simp only[List.length_append];omega) fun w3 h=>?_
 refine h.KZ hB 1 rfl i7 (by simp only[List.length_append];omega) fun w3 h=>?_
 have ey:decide ((if m.yes then 1 else 0:Int)=1)=m.yes:=by cases m.yes<;>rfl
 rw[F7,ey,QR]
 refine h.R8 (ds:=(({ m with recs:=[] }:R9).raw nC).cs.toArray) vJ rfl Z8 rfl (fun v hv=>Enc.one (({ m with recs:=[] }:R9).raw nC) v hv) fun a w4 h=>?_
 have h:Rel B' w4 [O1 t Y1 ((⟨0,0,0,0,0,0,0,false,[]⟩:R9).raw nC).cs.toArray,rdD p ⟨encI m.recs.length++m.recs.flatMap d9,false⟩,O1 a Y1 (m.raw nC).cs.toArray]:=h
 refine P6 fun J hJ=>?_
 replace hJ:∀(v:SV) w',Rel B' w' [O1 t Y1 ((⟨0,0,0,0,0,0,0,false,[]⟩:R9).raw nC).cs.toArray,rdD p ⟨[],false⟩,O1 a Y1 (m.raw v).cs.toArray,Y3 X3 v.1 m.recs]→J () w':=by
  intro v w' h
  refine hJ _ _ ?_
  clear hJ
  refine h.ask (fun B2 own base2=>dR (s:=⟨[],false⟩) (own (i:=1) rfl)) fun w6 h=>?_
  rw[show aO ⟨[],false⟩=true from rfl,V7,G5,R5]
  refine⟨fun _=>?_,fun c=>by cases c⟩
  rw[h.r9 2 rfl Z8 rfl]
  refine h.ask (fun B2 own base2=>dg0 (base2 hP) hm (Y3.read (own (i:=3) rfl))) fun w7 h=>?_
  rw[FZ,G5,K3]
  refine⟨fun _=>?_,fun c=>absurd rfl c⟩
  rw[h.r9 2 rfl Z8 rfl]
  refine h.YG 0 rfl Z8 rfl rfl (fun x hx=>Enc.one (m.raw v) x hx) fun w8 h=>?_
  rw[qJ h 0 rfl Z8 rfl]
  exact k _ _ _ ⟨v,rfl,rfl⟩ (h.pick [3] (by decide))
 have hfl:(m.recs.flatMap d9).length≤1000000:=by omega
 refine h.rd_ 1 rfl (fun B2 own base2=>EY (base2 hB) (by simp only[List.length_append];omega)) fun w5 h=>?_
 rw[qW (by omega) hin] at h ⊢
 have h:=h.VC uB X3
 clear e8 hll i0 i1 i2 i3 i4 i5 i6 i7 ey
 refine Am0 (fun j _ w'=>∃(i:Nat) (v:SV),i≤m.recs.length∧j=m.recs.length-i∧Rel B' w' [O1 t Y1 ((⟨0,0,0,0,0,0,0,false,[]⟩:R9).raw nC).cs.toArray,rdD p ⟨(m.recs.drop i).flatMap d9,false⟩,O1 a Y1 (m.raw v).cs.toArray,Y3 X3 v.1 (m.recs.take i)])
  _ ⟨0,nC,Nat.zero_le _,rfl,h⟩ ?_
 clear h
 rintro j z w6 ⟨i,v,hi,rfl,h⟩ next hnext
 have htl:(m.recs.take i).length=i:=by rw[List.length_take];omega
 simp -zeta only[U0 VP,Nat.zero_add]
 rw[h.ld 2 rfl X5 (o:=8) (v:=v.1) rfl,O4.len (Y3.read (h.here (i:=3) rfl)) u6,htl,G6,K3]
 refine⟨fun hlt=>?_,fun hge=>?_⟩
 case refine_2 =>
  have:i=m.recs.length:=by omega
  subst this
  rw[List.drop_length,List.take_length] at h
  exact hJ v _ h
 have hil:i<m.recs.length:=by omega
 have hfx:=hm.recs _ (List.getElem_mem hil)
 have hdc:=List.drop_eq_getElem_cons hil
 have htk:=List.take_succ_eq_append_getElem hil
 generalize m.recs[i]=x at *
 rw[hdc,List.flatMap_cons] at h
 have hdl:(d9 x++(m.recs.drop (i+1)).flatMap d9).length≤1000000:=by
  have:(d9 x++(m.recs.drop (i+1)).flatMap d9).length+((m.recs.take i).flatMap d9).length=(m.recs.flatMap d9).length:=by
   conv=>rhs;rw[←List.take_append_drop i m.recs,hdc]
   rw[List.flatMap_append,List.flatMap_cons]
   simp only[List.length_append]
   omega
  omega
 have hpos:=dq0 x
 refine h.ask (fun B2 own base2=>gX (own (i:=1) rfl)) fun w7 h=>?_
 rw[x9,K3]
 refine⟨fun _=>?_,fun c=>absurd (show (0:Int)<((d9 x++(m.recs.drop (i+1)).flatMap d9).length:Nat) by rw[List.length_append];omega) c⟩
 have h:=h.tick
 generalize tick w7=w7 at *
 rw[h.ld 2 rfl X5 (o:=8) (v:=v.1) rfl]
 unfold d9 at h hdl
 rw[List.append_assoc] at h hdl
 refine h.KZ hB 1 rfl hfx.term (by omega) fun w8 h=>?_
 refine⟨h.is 2 rfl X5 (o:=8) rfl,?_⟩
 refine h.qG0 hB 1 rfl (by rw[List.length_append] at hdl;omega) (by rw[aP];have:=hfx.data;omega) fun w9 h=>?_
 refine⟨h.is 2 rfl X5 (o:=8) rfl,?_⟩
 rw[pO,UR]
 refine h.XH (α:=uB) x u6 (by decide) fun v2 w10 h=>?_
 refine⟨h.is 2 rfl X5 (o:=8) rfl,?_⟩
 refine h.append (α:=uB) 3 rfl u6 (Rd.at 4 rfl) (by rw[htl];show (i+1) * _≤_;omega) (by rw[htl];show i+1≤_;omega) fun v3 w11 h=>?_
 have hv3:v3.oneCell'=true:=h.oneCell (i:=3) rfl
 refine h.st 2 rfl X5 (o:=8) (show 8<9 by omega) hv3 fun w12 h=>?_
 refine hnext _ _ _ (show m.recs.length-(i+1)<m.recs.length-i by omega) ⟨i+1,⟨v3,hv3⟩,hil,rfl,?_⟩
 rw[htk]
 exact h.take 4
end
section
variable {P:Program} {B:Base} {w:World} {s:Sem Next} {K:PtK} {d1 d2:Dat} {post:Value→Dat→Dat→Prop}
def Both(P:Program)(B:Base)(d1 d2:Dat)(s:Sem Next)(post:Value→Dat→Dat→Prop):Prop:=Does P B (yU [d1,d2]) s fun v e' τ=>∃d1' d2',post v d1' d2'∧e'=yU [d1',d2']∧τ=[]
theorem Both.intro(h:∀(B':Base) (w:World) (K:PtK),(∀{d:Dat},d B→d B')→Rel B' w [d1,d2]→(∀v d1' d2' w',post v d1' d2'→Rel B' w' [d1',d2']→K v w')→upK P s w K):Both P B d1 d2 s post:=by
 refine Does.intro fun B' w K base h0 k=>?_
 have h0:=Rel.lX (σ:=[]) (L:=[d1,d2]) h0
 refine h B' w K base h0 fun v d1' d2' w' hp h2=>?_
 have h2:=Rel.kR (σ:=[]) (L:=[d1',d2']) h2
 exact k v _ [] w' ⟨d1',d2',hp,rfl,rfl⟩ h2
theorem Rel.Jh0{τ:List Dat}(h:Rel B w (τ++[d1,d2]))(G:∀B':Base,(∀{j:Nat} {d:Dat},τ[j]? = some d→d B')→(∀{d:Dat},d B→d B')→Both P B' d1 d2 s post)
  (k:∀v d1' d2' w',post v d1' d2'→Rel B w' (τ++[d1',d2'])→K v w'):upK P s w K:=by
 have h:=Rel.kR (L:=[d1,d2]) h
 refine h.act τ.length kI (fun B' own base=>G B' (fun {j d} hj=>?_) base) fun v e' τ' w' hp h=>?_
 ·have hlt:j<τ.length:=by
   rcases Nat.lt_or_ge j τ.length with hl | hl
   ·exact hl
   ·rw[List.getElem?_eq_none hl] at hj;cases hj
  exact own (j:=j) (by omega) (by rw[List.getElem?_append_left hlt];exact hj)
 ·obtain⟨d1',d2',hp,rfl,rfl⟩:=hp
  rw[List.set_append_right _ _ (Nat.le_refl _),Nat.sub_self,List.set_cons_zero,List.append_nil] at h
  exact k v d1' d2' w' hp (Rel.lX h)
end
section
variable {B:Base} {w:World} {p:Nat} {s:DS} {kv:Value}
theorem Ky0{k:Int}(hk:k=1∨k=2){t:ByteArray}(hs:t.size≤1000000):Gives prog B (Z0 nP #[.int .i64 k,.string t]) (.string (ofL (mW k.toNat t.size))):=by
 rcases hk with rfl | rfl
 ·exact Vn0 (k:=1) hs
 ·exact Vn0 (k:=2) hs
set_option maxRecDepth 10000 in
theorem TE0(hT:VT B)(r:O4 kv s.keep B)(hkl:s.keep.length≤1000000){c:Nat}{f:Int}{st:CS}{v:ByteArray} :
  Both prog B (Z6 p s kv) (O1 c U4 (ccs p f st)) (Z0 wM #[ptr c,.string v]) fun u d1 d2=>u = .int .i64 (EX s st f v).2∧d1=Z6 p (EX s st f v).1.1 kv∧d2=O1 c U4 (ccs p f (EX s st f v).1.2):=by
 refine Both.intro fun B' w K base h k=>?_
 replace hT:=base hT
 replace r:=base r
 refine sP.up ?_
 unfold sP.pt
 have hb:=B_ v
 have fin:∀(x:(DS×CS)×Int) w',EX s st f v=x→Rel B' w' [Z6 p x.1.1 kv,O1 c U4 (ccs p f x.1.2)]→K (.int .i64 x.2) w':=fun x w' e h=>k _ _ _ w' ⟨by rw[e],by rw[e],by rw[e]⟩ h
 clear k
 simp -zeta only[aK K8,x9,K3]
 refine⟨fun e0=>fin ((s,st),6) _ (by unfold EX;rw[if_pos (by omega)]) h,fun e0=>?_⟩
 have hv:v.size≤65536:=by omega
 refine P6 fun J hJ=>?_
 replace hJ:(OO s st f).2=0→∀w',Rel B' w' [Z6 p (OO s st f).1 kv,O1 c U4 (ccs p f (qI st))]→J () w':=by
  intro z w1 h
  refine hJ _ _ ?_
  clear hJ
  have fin:∀(x:(DS×CS)×Int) w',set1 (OO s st f).1 (qI st) f v=x→Rel B' w' [Z6 p x.1.1 kv,O1 c U4 (ccs p f x.1.2)]→K (.int .i64 x.2) w':=fun x w' e h=>fin x w' (by unfold EX;rw[if_neg (by omega),if_neg (by rw[z];decide)];exact e) h
  rw[←AY s st f] at r hkl
  generalize (OO s st f).1=s1 at r hkl h fin
  generalize qI st=qI at h fin
  refine P6 fun J2 hJ2=>?_
  replace hJ2:J2 (.int .i64 (UF qI),()) w1:=by
   refine hJ2 _ _ ?_
   clear hJ2
   have h:=h.tick
   simp -zeta only[J5,U0 PX,U0 QX,U0 nM,U0 NT,U0 RX,Nat.add_zero,Nat.zero_add,h.ld 1 rfl H_ (o:=0) rfl,h.ld 1 rfl Y2 (o:=1) rfl]
   rw[Zz0 hT h (rW qI)]
   refine h.act 0 rfl (fun B2 own base2=>ik0 (base2 r) hkl f (ZQ (UF qI)) (by omega)) fun u e' τ w2 hp h=>?_
   obtain⟨rfl,rfl,rfl⟩:=hp
   have h:Rel B' w2 [Z6 p (fB s1 f (ZQ (UF qI)) v).1 kv,O1 c U4 (ccs p f qI)]:=h
   simp -zeta only[Q7,G5,K3]
   refine⟨fun z=>?_,fun z=>fin _ _ (by unfold set1;rw[if_pos z]) h⟩
   have fin:∀(x:(DS×CS)×Int) w',set2 (fB s1 f (ZQ (UF qI)) v).1 qI f v=x→Rel B' w' [Z6 p x.1.1 kv,O1 c U4 (ccs p f x.1.2)]→K (.int .i64 x.2) w':=fun x w' e h=>fin x w' (by unfold set1;rw[if_neg (fun hh=>hh z)];exact e) h
   rw[←GG s1 f (ZQ (UF qI)) v] at r hkl
   clear z
   generalize (fB s1 f (ZQ (UF qI)) v).1=s2 at r hkl h fin
   have h:=h.tick
   simp -zeta only[h.ld 1 rfl H_ (o:=0) rfl,h.ld 1 rfl Y2 (o:=1) rfl]
   refine h.act 0 rfl (fun B2 own base2=>ga0 (base2 r) hkl f) fun u e' τ w3 hp h=>?_
   obtain⟨rfl,rfl,rfl⟩:=hp
   have h:Rel B' w3 [Z6 p (L9 s2 f).1 kv,O1 c U4 (ccs p f qI)]:=h
   simp -zeta only[Q7,G5,K3]
   refine⟨fun z=>?_,fun z=>fin _ _ (by unfold set2;rw[if_pos z]) h⟩
   have fin:∀(x:(DS×CS)×Int) w',sr0 (L9 s2 f).1 qI f v=x→Rel B' w' [Z6 p x.1.1 kv,O1 c U4 (ccs p f x.1.2)]→K (.int .i64 x.2) w':=fun x w' e h=>fin x w' (by unfold set2;rw[if_neg (fun hh=>hh z)];exact e) h
   rw[←cB s2 f] at r hkl
   clear z
   generalize (L9 s2 f).1=s3 at r hkl h fin
   have h:=h.tick
   simp -zeta only[h.ld 1 rfl H_ (o:=0) rfl,h.ld 1 rfl Y2 (o:=1) rfl]
   refine h.ask (fun B2 own base2=>Ky0 (rW qI) (by omega)) fun w4 h=>?_
   rw[show ofL (mW (UF qI).toNat v.size)=mJ qI v from rfl]
   refine⟨h.is 1 rfl Y2 (o:=1) rfl,h.is 1 rfl H_ (o:=0) rfl,?_⟩
   refine h.act 0 rfl (fun B2 own base2=>ik0 (base2 r) hkl f 0 (t:=mJ qI v) (by have:(mJ qI v).size=5:=rfl;omega)) fun u e' τ w5 hp h=>?_
   obtain⟨rfl,rfl,rfl⟩:=hp
   have h:Rel B' w5 [Z6 p (fB s3 f 0 (mJ qI v)).1 kv,O1 c U4 (ccs p f qI)]:=h
   simp -zeta only[Q7,G5,K3]
   refine⟨fun z=>?_,fun z=>fin _ _ (by unfold sr0;rw[if_pos z]) h⟩
   have fin:∀w',Rel B' w' [Z6 p (L9 (fB s3 f 0 (mJ qI v)).1 f).1 kv,O1 c U4 (ccs p f ⟨UF qI,v,decide ((L9 (fB s3 f 0 (mJ qI v)).1 f).2=0)⟩)]→K (.int .i64 (L9 (fB s3 f 0 (mJ qI v)).1 f).2) w':=fun w' h=>fin (((L9 (fB s3 f 0 (mJ qI v)).1 f).1,⟨UF qI,v,decide ((L9 (fB s3 f 0 (mJ qI v)).1 f).2=0)⟩),(L9 (fB s3 f 0 (mJ qI v)).1 f).2) w' (by unfold sr0;rw[if_neg (fun hh=>hh z)]) h
   rw[←GG s3 f 0 (mJ qI v)] at r hkl
   clear z
   generalize (fB s3 f 0 (mJ qI v)).1=s4 at r hkl h fin
   refine h.st 1 rfl Y2 (show 2<5 by omega) rfl fun w6 h=>?_
   refine h.st 1 rfl U6 (show 3<5 by omega) rfl fun w7 h=>?_
   refine h.st 1 rfl AB (show 4<5 by omega) rfl fun w8 h=>?_
   have h:Rel B' w8 [Z6 p s4 kv,O1 c U4 (ccs p f ⟨UF qI,v,false⟩)]:=h
   have h:=h.tick
   simp -zeta only[h.ld 1 rfl H_ (o:=0) rfl,h.ld 1 rfl Y2 (o:=1) rfl]
   refine h.act 0 rfl (fun B2 own base2=>ga0 (base2 r) hkl f) fun u e' τ w9 hp h=>?_
   obtain⟨rfl,rfl,rfl⟩:=hp
   rw[F7]
   refine h.st 1 rfl AB (show 4<5 by omega) rfl fun w10 h=>?_
   exact fin _ h
  simp -zeta only[J5,U0 nM,Nat.zero_add,h.ld 1 rfl Y2 (o:=2) rfl,F7,K3]
  unfold UF at hJ2
  exact⟨fun e=>by rw[if_pos e] at hJ2;exact hJ2,fun e=>by rw[if_neg e] at hJ2;exact hJ2⟩
 simp -zeta only[J5,U0 PX,U0 QX,U0 nM,U0 RX,Nat.add_zero,Nat.zero_add,h.ld 1 rfl AB (o:=4) rfl,h.ld 1 rfl Y2 (o:=2) rfl]
 rw[V7,G5,R5]
 have idl:qI st={ st with sure:=st.sure||decide (0<st.slot) }:=rfl
 refine⟨fun e=>?_,fun e=>?_⟩
 ·have e1:OO s st f=(s,0):=by unfold OO;rw[if_neg (by rw[e];simp)]
  have e2:qI st=st:=by rw[idl,e];obtain⟨a,b,d⟩:=st;subst e;rfl
  refine hJ (by rw[e1]) _ ?_
  rw[e1,e2]
  exact h
 ·simp -zeta only[x9,K3]
  refine⟨fun e3=>?_,fun e3=>?_⟩
  ·have e1:OO s st f=L9 s f:=by unfold OO;rw[if_pos ⟨e,e3⟩]
   have e2:qI st={ st with sure:=true }:=by rw[idl,decide_eq_true e3,Bool.or_true]
   rw[e1,e2] at hJ
   have h:=h.tick
   simp -zeta only[h.ld 1 rfl H_ (o:=0) rfl,h.ld 1 rfl Y2 (o:=1) rfl]
   refine h.act 0 rfl (fun B2 own base2=>ga0 (base2 r) hkl f) fun u e' τ w2 hp h=>?_
   obtain⟨rfl,rfl,rfl⟩:=hp
   simp -zeta only[Q7,G5,K3]
   refine⟨fun z=>?_,fun z=>fin (((L9 s f).1,st),(L9 s f).2) _ (by unfold EX;rw[if_neg (by omega),e1,if_pos z]) h⟩
   refine h.st 1 rfl AB (show 4<5 by omega) rfl fun w3 h=>?_
   exact hJ z _ h
  ·have e1:OO s st f=(s,0):=by unfold OO;rw[if_neg (fun hh=>e3 hh.2)]
   have e2:qI st=st:=by rw[idl,e,decide_eq_false e3];obtain⟨a,b,d⟩:=st;simp only at e;subst e;rfl
   refine hJ (by rw[e1]) _ ?_
   rw[e1,e2]
   exact h
end
abbrev H8(l:List Bs):Bs:=l.flatMap yB
noncomputable def wb0(n:Int):Nat→List Bs→RS→List Bs×RS
 | 0,acc,s=>(acc,s)
 | k+1,acc,s=>if(acc.length:Int)<n then(if s.rest.length≤(D8 s).2.rest.length∨s.rest.length=0 then(acc,(D8 s).2) else wb0 n k (acc++[(D8 s).1]) (D8 s).2) else(acc,s)
noncomputable def Qc0(s:Bs)(n:Int):List Bs×RS:=wb0 n (s.length+1) [] ⟨s,false⟩
noncomputable def vU(s:Bs)(n:Int):List Bs×Bool:=((Qc0 s n).1,aO (Qc0 s n).2&&(decide (((Qc0 s n).1.length:Int)=n)&&decide (H8 (Qc0 s n).1=s)))
noncomputable def mH0(s:RS):(Int×Int)×Bool:=(((qE s).1,(qE (qE s).2).1),aO (qE (qE s).2).2)
noncomputable def VF(st:CS):(Int×Int)×Bool:=if 0<st.slot then mH0 ⟨bl st.value,false⟩ else((0,0),true)
section
variable {B:Base} {w:World} {σ τ:List Dat} {p:Nat}
theorem nq0(hB:VI B){v:Value}{l:List ByteArray}(r:O4 v l B)(hb:(H8 (l.map bl)).length≤70368744177664):Gives prog B (Z0 oK #[v]) (.string (ofL (H8 (l.map bl)))):=by
 refine Gives.Ef0 fun B' w K base h start k=>?_
 replace r:=base r
 replace hB:=base hB
 refine UQ.up ?_
 unfold UQ.pt
 have hb2:((l.map bl).flatMap yB).length≤70368744177664:=hb
 have hgood:∀x∈l,(yB (bl x)).length≤70368744177664:=fun x hx=>by
  have:(yB (bl x)).length≤(H8 (l.map bl)).length:=by
   obtain⟨a,b,rfl⟩:=List.append_of_mem hx
   unfold H8
   rw[List.map_append,List.map_cons,List.flatMap_append,List.flatMap_cons,List.length_append,List.length_append]
   omega
  omega
 have hll:l.length≤70368744177664:=by
  have h1:l.length≤((l.map bl).flatMap yB).length:=by
   clear hb hb2 hgood k r start h
   induction l with
   | nil=>simp
   | cons x l ih =>
    rw[List.map_cons,List.flatMap_cons,List.length_append,List.length_cons]
    have:1≤(yB (bl x)).length:=by simp [yB]<;>omega
    omega
  exact Nat.le_trans h1 hb
 refine h.alloc PG fun b w1 h=>?_
 have h:=start w1 b h
 rw[O4.len r K7]
 have hmap:(l.map bl).length=l.length:=List.length_map ..
 refine F6 (fun x w'=>∃i:Nat,i≤l.length∧x=(.int .i64 i,())∧Rel B' w' [bP B'.W.heap.size b (((l.map bl).take i).flatMap yB)]) (fun x _=>l.length-(match x.1 with | .int _ n=>n.toNat | _=>0))
  ⟨0,Nat.zero_le _,rfl,by simpa using h⟩ ?_
 clear h
 rintro x w4 ⟨i,hi,rfl,h⟩ next hnext
 simp -zeta only[G6,K3]
 refine⟨fun hlt=>?_,fun hge=>?_⟩
 ·have hil:i<l.length:=by omega
  obtain⟨q,q1,q2⟩:=O4.eZ r h K7 hil U6 (x := .string l[i]) rfl
  rw[q1,q2]
  have hg:=hgood l[i] (List.getElem_mem hil)
  refine h.ask (fun B2 own base2=>by have:=gT (base2 hB) (s:=bl l[i]) (by unfold yB at hg;simp only[List.length_append,List.length_cons] at hg;omega);rw[fV] at this;exact this) fun w5 h=>?_
  have hstep:=jI yB (l:=l.map bl) (i:=i) (by omega)
  rw[List.getElem_map] at hstep
  have hle:=QE yB (l.map bl) (i+1)
  rw[hstep,List.length_append] at hle
  refine h.VN (Nat.le_refl _) (by rw[Q_];omega) fun _ w6 h=>?_
  rw[Z5,E5 (by omega) (by omega)]
  refine hnext _ _ ⟨i+1,hil,rfl,?_⟩ (by simp only;omega)
  rw[hstep]
  exact h
 ·refine h.gU (Nat.le_refl _) fun w7 h=>?_
  have hie:i=l.length:=by omega
  subst hie
  have e:(l.map bl).take l.length=l.map bl:=List.take_of_length_le (by omega)
  rw[e] at *
  exact k _ _ h
theorem Uv0(hB:qC B){c dp:Nat}{f:Int}{st:CS}(hv:st.value.size≤100000)(hc:O1 c U4 (ccs dp f st) B):Gives prog B (Z0 JN #[ptr c]) (.tuple #[.int .i64 (VF st).1.1,.int .i64 (VF st).1.2,.bool (VF st).2]):=by
 refine Gives.intro fun B' w K base h k=>?_
 replace hB:=base hB
 replace hc:=base hc
 refine KM.up ?_
 unfold KM.pt
 refine h.ask (fun B2 own base2=>uE0 (base2 hc)) fun w1 h=>?_
 rw[M9,D9,V7,G5,K3]
 unfold VF at k
 refine⟨fun c1=>?_,fun c1=>?_⟩
 case refine_2=>rw[if_neg c1] at k;exact k _ _ h
 rw[if_pos c1] at k
 have e:Z0 S_ #[.string st.value]=Z0 S_ #[.string (ofL (bl st.value))]:=by rw[pO]
 rw[e]
 refine h.make (fun B2 own base2=>WT (t:=bl st.value)) fun u τ w2 hp h=>?_
 obtain⟨p,rfl,rfl⟩:=hp
 have hl:(bl st.value).length≤100000:=by rw[aP];exact hv
 have h1:=Wd0 ⟨bl st.value,false⟩
 have h1:(qE ⟨bl st.value,false⟩).2.rest.length≤(bl st.value).length:=h1
 refine h.rd_ 0 rfl (fun B2 own base2=>EY (base2 hB) (show (bl st.value).length≤_ by omega)) fun w3 h=>?_
 refine h.rd_ 0 rfl (fun B2 own base2=>EY (base2 hB) (by omega)) fun w4 h=>?_
 refine h.ask (fun B2 own base2=>dR (own (i:=0) rfl)) fun w5 h=>?_
 exact k _ _ h.nil
theorem nD0(hB:qC B)(hP:VI B){s:ByteArray}(hs:s.size≤16777216)(n:Int):Makes prog B (Z0 ER #[.string s,.int .i64 n]) fun u τ=>∃v,u = .tuple #[v,.bool (vU (bl s) n).2]∧τ=[Y3 M3 v ((vU (bl s) n).1.map ofL)]:=by
 refine Makes.intro fun B' w K base h k=>?_
 replace hB:=base hB
 replace hP:=base hP
 refine VQ.up ?_
 unfold VQ.pt
 have e:Z0 S_ #[.string s]=Z0 S_ #[.string (ofL (bl s))]:=by rw[pO]
 rw[e]
 have hl:(bl s).length≤16777216:=by rw[aP];exact hs
 refine h.make (fun B2 own base2=>WT (t:=bl s)) fun u τ w2 hp h=>?_
 obtain⟨p,rfl,rfl⟩:=hp
 unfold vU at k
 refine P6 fun J hJ=>?_
 replace hJ:∀v acc s' w',Qc0 (bl s) n=(acc,s')→(s'.bad=false→bl s=H8 acc++s'.rest)→Rel B' w' [rdD p s',Y3 M3 v (acc.map ofL)]→J (v,()) w':=by
  intro v acc s' w' he hf h
  refine hJ _ _ ?_
  clear hJ
  rw[he] at k
  simp only at k
  refine h.ask (fun B2 own base2=>dR (own (i:=0) rfl)) fun w3 h=>?_
  rw[R5]
  refine⟨fun c1=>?_,fun c1=>?_⟩
  case refine_2=>rw[c1,Bool.false_and] at k;exact k _ _ _ ⟨v,rfl,rfl⟩ (h.pick [1] (by decide))
  rw[c1,Bool.true_and] at k
  have hbad:s'.bad=false:=by
   unfold aO at c1
   rw[Bool.and_eq_true] at c1
   simpa using c1.1
  have hf:=hf hbad
  rw[O4.len (Y3.read (h.here (i:=1) rfl)) K7,List.length_map,F7,K3]
  refine⟨fun c2=>?_,fun c2=>?_⟩
  case refine_2=>rw[decide_eq_false c2,Bool.false_and] at k;exact k _ _ _ ⟨v,rfl,rfl⟩ (h.pick [1] (by decide))
  rw[decide_eq_true c2,Bool.true_and] at k
  have em:(acc.map ofL).map bl=acc:=by
   rw[List.map_map]
   conv=>rhs;rw[←List.map_id acc]
   exact List.map_congr_left fun x _=>GI x
  have hfl:(H8 acc).length≤16777216:=by
   have:=congrArg List.length hf
   rw[List.length_append] at this
   omega
  refine h.ask (v := .string (ofL (H8 acc))) (fun B2 own base2=>by
   have:=nq0 (base2 hP) (Y3.read (own (i:=1) rfl)) (by rw[em];omega)
   rw[em] at this
   exact this) fun w4 h=>?_
  rw[WW]
  have ed:decide (ofL (H8 acc)=s)=decide (H8 acc=bl s):=decide_eq_decide.2 ⟨fun hh=>by rw[←hh,GI],fun hh=>by rw[hh,pO]⟩
  rw[ed]
  exact k _ _ _ ⟨v,rfl,rfl⟩ (h.pick [1] (by decide))
 clear k
 have h:=h.VC ByteArray M3
 refine Am0 (fun j x w'=>∃(acc:List Bs) (v:Value) (s':RS),x=(v,())∧Qc0 (bl s) n=wb0 n j acc s'∧s'.rest.length<j∧s'.rest.length≤(bl s).length∧acc.length+s'.rest.length≤(bl s).length∧(s'.bad=false→bl s=H8 acc++s'.rest) ∧
   Rel B' w' [rdD p s',Y3 M3 v (acc.map ofL)]) ((bl s).length+1) ⟨[],.slice none 0 0,⟨bl s,false⟩,rfl,rfl,Nat.lt_succ_self _,Nat.le_refl _,by simp,fun _=>rfl,h⟩ ?_
 clear h
 rintro j x w3 ⟨acc,v,s',rfl,hq,hj,hsl,hal,hf,h⟩ next hnext
 obtain⟨j,rfl⟩:∃i,j=i+1:=⟨j-1,by omega⟩
 rw[wb0] at hq
 rw[O4.len (Y3.read (h.here (i:=1) rfl)) K7,List.length_map,G6,K3]
 refine⟨fun c1=>?_,fun c1=>?_⟩
 case refine_2=>rw[if_neg c1] at hq;exact hJ v acc s' _ hq hf h
 rw[if_pos c1] at hq
 have hf2:(D8 s').2.bad=false→s'.bad=false∧s'.rest=yB (D8 s').1++(D8 s').2.rest:=fun hb=>by
  obtain⟨a,b,_⟩:=Mj0.back hb
  exact⟨a,b⟩
 have htl:=AU s'
 refine h.ask (fun B2 own base2=>gX (own (i:=0) rfl)) fun w4 h=>?_
 refine h.rd_ 0 rfl (fun B2 own base2=>iR (base2 hB) (by omega)) fun w5 h=>?_
 have h:Rel B' w5 [rdD p (D8 s').2,Y3 M3 v (acc.map ofL)]:=h
 refine h.ask (fun B2 own base2=>gX (own (i:=0) rfl)) fun w6 h=>?_
 have hstop:(s'.rest.length≤(D8 s').2.rest.length∨s'.rest.length=0)→((D8 s').2.bad=false→bl s=H8 acc++(D8 s').2.rest):=fun c hb=>by
  obtain⟨h1,h2⟩:=hf2 hb
  have h3:=congrArg List.length h2
  rw[List.length_append] at h3
  have h4:0<(yB (D8 s').1).length:=by unfold yB;simp only[List.length_append,List.length_cons];omega
  omega
 rw[FC,K3]
 refine⟨fun c2=>?_,fun c2=>?_⟩
 ·have c:s'.rest.length≤(D8 s').2.rest.length∨s'.rest.length=0 := .inl (by omega)
  rw[if_pos c] at hq
  exact hJ v acc _ _ hq (hstop c) h
 rw[F7,K3]
 refine⟨fun c3=>?_,fun c3=>?_⟩
 ·have c:s'.rest.length≤(D8 s').2.rest.length∨s'.rest.length=0 := .inr (by omega)
  rw[if_pos c] at hq
  exact hJ v acc _ _ hq (hstop c) h
 rw[if_neg (by omega)] at hq
 refine h.WS (α:=ByteArray) 1 rfl (ofL (D8 s').1) K7 (by decide) (by rw[List.length_map];omega) (by rw[List.length_map];omega) fun v2 w7 h=>?_
 have e2:((acc++[(D8 s').1]).map ofL)=(acc.map ofL)++[(ofL (D8 s').1)]:=by rw[List.map_append];rfl
 refine hnext _ _ _ (Nat.lt_succ_self _) ⟨acc++[(D8 s').1],v2,(D8 s').2,rfl,hq,by omega,by omega,by rw[List.length_append,List.length_singleton];omega,fun hb=>?_,?_⟩
 ·obtain⟨h1,h2⟩:=hf2 hb
  have e3:H8 (acc++[(D8 s').1])=H8 acc++yB (D8 s').1:=by
   unfold H8
   rw[List.flatMap_append]
   simp
  rw[e3,List.append_assoc,←h2]
  exact hf h1
 ·rw[e2]
  exact h
end
section
variable {α:Type} [Enc α] {P:Program} {B:Base} {w:World} {σ:List Dat} {E T:TypeId} {v:Value} {l:List α} {by_:Nat} {K:PtK}
def tE0(v:Value)(l:List α)(v0:Value)(l0:List α):Prop:=(v=v0∧l=l0)∨∃a n0 c0 n,v0 = .slice a n0 c0∧v = .slice a n n∧n≤l0.length∧l=l0.take n
def ZH(E:TypeId)(v:Value)(l:List α):Dat:=Dat.ex fun q:Value×List α=>Dat.and (Dat.pure (tE0 v l q.1 q.2)) (Y3 E q.1 q.2)
theorem ZH.of(h:Y3 E v l B):ZH E v l B:=⟨(v,l),.inl ⟨rfl,rfl⟩,h⟩
theorem ZH.read(h:ZH E v l B):O4 v l B:=by
 obtain⟨⟨v0,l0⟩,hc,h⟩:=h
 rcases hc with⟨rfl,rfl⟩ | ⟨a,n0,c0,n,e1,rfl,hn,rfl⟩
 ·exact Y3.read h
 ·obtain⟨a',cap,e2,hcap,h⟩:=Y3.read h
  have e1:v0 = .slice a n0 c0:=e1
  have e2:v0 = .slice a' l0.length cap:=e2
  rw[e1] at e2
  cases e2
  have hlen:(l0.take n).length=n:=by rw[List.length_take];exact Nat.min_eq_left hn
  refine⟨a,n,by rw[hlen],by rw[hlen];exact Nat.le_refl _,?_⟩
  rcases h with rfl | ⟨g,o,rfl,h⟩
  ·left;simp
  ·right
   refine⟨g,o,rfl,h.1,h.2.1,fun j u hj=>?_⟩
   refine h.2.2 _ _ ?_
   rw[←oF,List.getElem?_take] at hj
   split at hj
   ·exact hj
   ·cases hj
theorem ZH.shape(h:ZH E v l B):∃a c,v = .slice a l.length c:=by
 obtain⟨a,c,e,_⟩:=ZH.read h
 exact⟨a,c,e⟩
theorem Rel.Ou0(h:Rel B w σ)(i:Nat)(hi:σ[i]? = some (ZH E v l))(hT:sliceB P T E (Enc.sz α) by_=true){v2:Value}{l2:List α}(r:O4 v2 l2 B)(hne:l2≠[])
  (hb:(l.length+l2.length) * by_≤140737488355328) (h63:l.length+l2.length≤140737488355328) {U:TypeId} {bs:Array Bool} (k:∀v' w',Rel B w' (σ.set i (ZH E v' (l++l2)))→K v' w'):upK P (M5 .append #[T,T] U bs #[v,v2]) w K:=by
 have hlt:i<σ.length:=(List.getElem?_eq_some_iff.1 hi).1
 obtain⟨⟨v0,l0⟩,h1⟩:=h.ex hi
 obtain⟨hp,h1⟩:=h1.VS (List.getElem?_set_self hlt)
 rw[List.set_set] at h1
 have h1:Rel B w (σ.set i (Y3 E v0 l0)):=h1
 have hp:tE0 v l v0 l0:=hp
 rcases hp with⟨rfl,rfl⟩ | ⟨a,n0,c0,n,e1,rfl,hn,rfl⟩
 ·refine h1.append i (List.getElem?_set_self hlt) hT (Rd.base r) hb h63 fun v' w' h2=>k v' w' ?_
  rw[List.set_set] at h2
  have:=h2.imp (i:=i) (d:=Y3 E v' (l++l2)) (e:=ZH E v' (l++l2)) (List.getElem?_set_self hlt) fun B hB=>ZH.of hB
  rw[List.set_set] at this
  exact this
 ·obtain⟨B',h',back,own,base⟩:=h.frz
  have hlen:(l0.take n).length=n:=by rw[List.length_take];exact Nat.min_eq_left hn
  have hpos:0<l2.length:=List.length_pos_iff.2 hne
  refine Rel.grow (σ:=[]) h' hT (a:=a) (cap:=n) (by rw[hlen]) (Rd.base (ZH.read (own hi))) (Rd.base (base r)) (by rw[hlen];omega) hb h63 fun v' w' h2=>k v' w' ?_
  have h3:=(back w' _ h2).iH0 i hi
  have:=h3.imp (i:=i) (e:=ZH E v' (l0.take n++l2)) (List.getElem?_set_self hlt) fun B hB=>ZH.of (Dat.star.right hB)
  rw[List.set_set] at this
  exact this
theorem KD0{a:Option Addr}{len cap hi mx:Nat}(hT:sliceB P T E (Enc.sz α) by_=true)(h2:hi≤mx)(h3:mx≤cap){Kp:Value→Prop} :
  M0 P (y9 T (.slice a len cap) none (some (.int .i64 hi)) (some (.int .i64 mx))) Kp=Kp (.slice a hi mx):=F5 fun w=>by
 obtain⟨hu,i,z,hinfo,hz,hs,hby,hzs⟩:=t_ hT
 refine X9 ?_
 simp [Instr.sliceAt,Instr.slice,run_underlying hu,Instr.sliceBounds,Instr.sliceBound,asIntOf,h2,h3,sizeOf,typeInfo,hinfo,hs]
 intro _
 cases a with
 | none=>rfl
 | some x =>
  have:x.add 0=x:=by unfold Addr.add;split<;>simp_all
  exact congrArg some this
theorem ZH.cut(h:ZH E v l B){n:Nat}(hn:n≤l.length):∃a c,v = .slice a l.length c∧l.length≤c∧ZH E (.slice a n n) (l.take n) B:=by
 obtain⟨⟨v0,l0⟩,hc,h⟩:=h
 rcases hc with⟨rfl,rfl⟩ | ⟨a,n0,c0,m,e1,rfl,hm,rfl⟩
 ·obtain⟨a',cap,e2,hcap,_⟩:=Y3.read h
  exact⟨a',cap,e2,hcap,⟨(v,l),.inr ⟨a',l.length,cap,n,e2,rfl,hn,rfl⟩,h⟩⟩
 ·have hlen:(l0.take m).length=m:=by rw[List.length_take];exact Nat.min_eq_left hm
  have hm:m≤l0.length:=hm
  have hn2:n≤m:=by
   have h1:n≤(l0.take m).length:=hn
   omega
  show ∃a' c,Value.slice a m m = .slice a' (l0.take m).length c∧(l0.take m).length≤c∧ZH E (.slice a' n n) ((l0.take m).take n) B
  rw[hlen]
  refine⟨a,m,rfl,Nat.le_refl _,⟨(v0,l0),.inr ⟨a,n0,c0,n,e1,rfl,by show n≤l0.length;omega,?_⟩,h⟩⟩
  rw[List.take_take,Nat.min_eq_left hn2]
end
structure JP where
 list:List Bs
 bytes:Int
 broken:Bool
 c:CS
structure JOk (j:JP):Prop where
 bytes:0≤j.bytes∧j.bytes≤16777216
 form:((H8 j.list).length:Int)=j.bytes
def UT(b n:Int):ByteArray:=ofL (encI b++encI n)
def FL(s:DS)(j:JP)(b n:Int):(DS×JP)×Int:=(((EX s j.c 1 (UT b n)).1.1,{ j with c:=(EX s j.c 1 (UT b n)).1.2,broken:=!decide ((EX s j.c 1 (UT b n)).2=0) }),(EX s j.c 1 (UT b n)).2)
def wsJ(s:DS)(j:JP)(t:ByteArray):DS×Int:=if(fB s 0 j.bytes t).2=0 then L9 (fB s 0 j.bytes t).1 0 else fB s 0 j.bytes t
def dZ(s:DS)(j:JP)(l:List Bs):(DS×JP)×Int :=
 if(FL s j (j.bytes+(H8 l).length) (j.list.length+l.length)).2=0 then(((FL s j (j.bytes+(H8 l).length) (j.list.length+l.length)).1.1,{ (FL s j (j.bytes+(H8 l).length) (j.list.length+l.length)).1.2 with list:=j.list++l,bytes:=j.bytes+(H8 l).length }),0)
 else FL s j (j.bytes+(H8 l).length) (j.list.length+l.length)
def IJ(s:DS)(j:JP)(l:List Bs):(DS×JP)×Int :=
 if j.broken=true then((s,j),7)
 else if l=[] then((s,j),0)
 else if 1048576<j.bytes+(H8 l).length then((s,j),6)
 else if(wsJ s j (ofL (H8 l))).2=0 then dZ (wsJ s j (ofL (H8 l))).1 j l
 else(((wsJ s j (ofL (H8 l))).1,{ j with broken:=true }),(wsJ s j (ofL (H8 l))).2)
def PV(s:DS)(j:JP)(n:Int):(DS×JP)×Int :=
 if j.broken=true then((s,j),7)
 else if n<0∨(j.list.length:Int)<n then((s,j),1)
 else if n=j.list.length then((s,j),0)
 else if(FL s j (H8 (j.list.take n.toNat)).length n).2=0 then(((FL s j (H8 (j.list.take n.toNat)).length n).1.1,{ (FL s j (H8 (j.list.take n.toNat)).length n).1.2 with list:=j.list.take n.toNat,bytes:=(H8 (j.list.take n.toNat)).length }),0)
 else FL s j (H8 (j.list.take n.toNat)).length n
noncomputable def Bo0(s:DS)(c:CS):Option JP×Int :=
 if(VF c).2=false then(none,2)
 else if(LD s 0 0 (VF c).1.1).2≠0 then(none,(LD s 0 0 (VF c).1.1).2)
 else if(vU (bl (LD s 0 0 (VF c).1.1).1) (VF c).1.2).2=false then(none,2)
 else if((LD s 0 0 (VF c).1.1).1.size:Int)≠(VF c).1.1 then(none,2)
 else(some ⟨(vU (bl (LD s 0 0 (VF c).1.1).1) (VF c).1.2).1,(VF c).1.1,false,c⟩,0)
noncomputable def uW(s:DS):Option JP×Int:=match EQ s 1 with
 | (none,e)=>(none,e)
 | (some c,_)=>Bo0 s c
noncomputable def rM(s:DS):DS×(Option JP×Int) :=
 if(L9 s 0).2≠0 then((L9 s 0).1,(none,(L9 s 0).2))
 else if(L9 (L9 s 0).1 1).2≠0 then((L9 (L9 s 0).1 1).1,(none,(L9 (L9 s 0).1 1).2))
 else((L9 (L9 s 0).1 1).1,uW (L9 (L9 s 0).1 1).1)
theorem tj0{s:DS}{f:Int}{st:CS}{e:Int}(h:EQ s f=(some st,e)):st.value.size≤65536:=by
 unfold EQ at h
 split at h
 ·cases h
 split at h
 ·cases h;exact Nat.zero_le _
 split at h
 ·cases h;exact Nat.zero_le _
 unfold Ct0 at h
 split at h
 ·cases h
 split at h
 ·cases h
 split at h
 ·cases h
 split at h
 ·cases h
 split at h
 ·cases h
 rename_i h3 _ _
 cases h
 have:=HY s f (ZQ ((bl (LD s f 0 5).1).getD 0 0).toNat) (vd0 (bl (LD s f 0 5).1))
 show (LD s f _ _).1.size≤_
 omega
theorem Lg0{s:DS}(h:DOk s)(f a n:Int):(LD s f a n).1.size≤16777216:=by
 unfold LD
 split
 ·exact Nat.zero_le _
 ·split
  ·exact Nat.zero_le _
  ·split
   ·exact Nat.zero_le _
   ·show (ofL _).size≤_
    rw[Q_,List.length_take,List.length_drop,aP]
    have:=h.now f
    omega
theorem sg0{b n:Int}(hb:inI b)(hn:inI n):(UT b n).size≤42:=by
 unfold UT
 rw[Q_,List.length_append]
 have:=Q6 hb
 have:=Q6 hn
 omega
abbrev jcs(dp cp:Nat)(v:Value)(j:JP):Array Value:=#[ptr dp,.int .i64 0,ptr cp,v,.int .i64 j.bytes,.bool j.broken]
def gz0(dp cp jp:Nat)(j:JP)(v:SV):List Dat:=[O1 cp U4 (ccs dp 1 j.c),O1 jp Y4 (jcs dp cp v.1 j),ZH M3 v.1 (j.list.map ofL)]
def JB(dp cp jp:Nat)(j:JP):Dat:=Dat.ex fun v:SV=>eF (gz0 dp cp jp j v)
section
variable {B:Base} {w:World} {σ τ:List Dat} {dp cp jp:Nat} {s:DS} {kv:Value} {j:JP} {K:PtK}
theorem JB.open(h:Rel B w (JB dp cp jp j :: τ)):∃v,Rel B w (gz0 dp cp jp j v++τ):=by
 obtain⟨v,h⟩:=h.ex (i:=0) rfl
 exact⟨v,Rel.nS h⟩
theorem JB.close(v:SV)(h:Rel B w (gz0 dp cp jp j v++τ)):Rel B w (JB dp cp jp j :: τ) :=
 (Rel.RL h).imp (i:=0) (e:=JB dp cp jp j) rfl fun B hB=>⟨v,hB⟩
theorem JB.jP(h:JB dp cp jp j B):∃v:SV,O1 cp U4 (ccs dp 1 j.c) B∧O1 jp Y4 (jcs dp cp v.1 j) B∧O4 v.1 (j.list.map ofL) B:=by
 obtain⟨v,h⟩:=h
 exact⟨v,eF.get (j:=0) h rfl,eF.get (j:=1) h rfl,ZH.read (eF.get (j:=2) h rfl)⟩
theorem dV(l:List Bs):(l.map ofL).map bl=l:=by
 rw[List.map_map]
 conv=>rhs;rw[←List.map_id l]
 exact List.map_congr_left fun x _=>GI x
theorem VF0(h0:JB dp cp jp j B):Gives prog B (Z0 CJ #[ptr jp]) (.int .i64 j.list.length):=by
 refine Gives.intro fun B' w K base h k=>?_
 obtain⟨v,c0,c1,c2⟩:=JB.jP (base h0)
 refine yH.up ?_
 unfold yH.pt
 simp -zeta only[J5,U0 jH,Nat.zero_add]
 rw[O1.ld (h.L6 c1) K9 (o:=3) (v:=v.1) rfl,O4.len c2 K7,List.length_map]
 exact k _ _ h
theorem RF0(h0:JB dp cp jp j B)(hl:j.list.length≤1000000000):Makes prog B (Z0 AJ #[ptr jp]) fun u τ=>τ=[Y3 M3 u (j.list.map ofL)]:=by
 refine Makes.intro fun B' w K base h k=>?_
 obtain⟨v,c0,c1,c2⟩:=JB.jP (base h0)
 refine wH.up ?_
 unfold wH.pt
 simp -zeta only[J5,U0 jH,Nat.zero_add]
 rw[O1.ld (h.L6 c1) K9 (o:=3) (v:=v.1) rfl,O4.len c2 K7,List.length_map]
 refine h.mkSlice (α:=ByteArray) (n:=j.list.length) ⟨#[]⟩ K7 rfl (by omega) (by omega) fun u w1 h hu=>?_
 have e:(List.replicate j.list.length (⟨#[]⟩:ByteArray)).length=j.list.length:=List.length_replicate ..
 obtain⟨g,cap,hu⟩:=h.Et0 (i:=0) rfl hu
 rw[e] at hu
 subst hu
 rw[O1.ld (h.L6 c1) K9 (o:=3) (v:=v.1) rfl]
 refine h.kZ 0 (l2:=j.list.map ofL) (n:=j.list.length) (lo:=0) rfl K7 (Rd.base c2) (Nat.zero_le _) (.inl (by rw[Nat.zero_mul])) fun w2 h=>?_
 refine k _ _ _ rfl ?_
 have e2:(j.list.map ofL).length=j.list.length:=List.length_map ..
 rw[List.take_zero,List.nil_append,e,Nat.sub_zero,List.take_of_length_le (l:=j.list.map ofL) (by omega),List.drop_of_length_le (by omega),List.append_nil] at h
 exact h
theorem Uz0(hT:VT B)(hB:VI B)(r:O4 kv s.keep B)(hkl:s.keep.length≤1000000)(b n:Int)(hb:inI b)(hn:inI n) :
  Both prog B (Z6 dp s kv) (JB dp cp jp j) (Z0 KE #[ptr jp,.int .i64 b,.int .i64 n]) fun u d1 d2=>u = .int .i64 (FL s j b n).2∧d1=Z6 dp (FL s j b n).1.1 kv∧d2=JB dp cp jp (FL s j b n).1.2:=by
 refine Both.intro fun B' w K base h k=>?_
 replace hT:=base hT
 replace hB:=base hB
 replace r:=base r
 refine EG.up ?_
 unfold EG.pt
 have h:=h.pick [1,0] (by decide)
 obtain⟨v,h⟩:=JB.open h
 have h:Rel B' w [O1 cp U4 (ccs dp 1 j.c),O1 jp Y4 (jcs dp cp v.1 j),ZH M3 v.1 (j.list.map ofL),Z6 dp s kv]:=h
 have h:=h.tick
 generalize tick w=w at *
 simp -zeta only[J5,U0 zX,U0 TL,Nat.zero_add]
 rw[h.ld 1 rfl p9 (o:=2) (v:=ptr cp) rfl]
 refine h.ask (fun B2 own base2=>wC (base2 hB) hb) fun w2 h=>?_
 refine⟨h.is 1 rfl p9 (o:=2) rfl,?_⟩
 refine h.ask (fun B2 own base2=>wC (base2 hB) hn) fun w3 h=>?_
 refine⟨h.is 1 rfl p9 (o:=2) rfl,?_⟩
 have l1:=Q6 hb
 have l2:=Q6 hn
 rw[C9 (by omega)]
 have h:Rel B' w3 ([O1 jp Y4 (jcs dp cp v.1 j),ZH M3 v.1 (j.list.map ofL)]++[Z6 dp s kv,O1 cp U4 (ccs dp 1 j.c)]):=h.pick [1,2,3,0] (by decide)
 refine h.Jh0 (fun B2 own base2=>TE0 (base2 hT) (base2 r) hkl) fun u d1 d2 w4 hp h=>?_
 obtain⟨rfl,rfl,rfl⟩:=hp
 rw[Q7]
 refine h.st 0 rfl AB (o:=5) (show 5<6 by omega) rfl fun w5 h=>?_
 refine k _ _ _ _ ⟨rfl,rfl,rfl⟩ ?_
 have h:Rel B' w5 (gz0 dp cp jp (FL s j b n).1.2 v++[Z6 dp (FL s j b n).1.1 kv]):=h.pick [3,0,1,2] (by decide)
 exact(JB.close v h).pick [1,0] (by decide)
theorem wx0(hT:VT B)(hB:VI B)(r:O4 kv s.keep B)(hkl:s.keep.length≤1000000)(hj:JOk j){u:Value}{l:List Bs}(q:O4 u (l.map ofL) B)(hl:(H8 l).length≤16777216)(hjl:j.list.length≤1000000000)(hll:l.length≤1000000) :
  Both prog B (Z6 dp s kv) (JB dp cp jp j) (Z0 RG #[ptr jp,u]) fun u d1 d2=>u = .int .i64 (IJ s j l).2∧d1=Z6 dp (IJ s j l).1.1 kv∧d2=JB dp cp jp (IJ s j l).1.2:=by
 refine Both.intro fun B' w K base h k=>?_
 replace hT:=base hT
 replace hB:=base hB
 replace r:=base r
 replace q:=base q
 refine SE.up ?_
 unfold SE.pt
 have fin:∀(x:(DS×JP)×Int) w',IJ s j l=x→Rel B' w' [JB dp cp jp x.1.2,Z6 dp x.1.1 kv]→K (.int .i64 x.2) w':=fun x w' e h=>k _ (Z6 dp x.1.1 kv) (JB dp cp jp x.1.2) w' ⟨by rw[e],by rw[e],by rw[e]⟩ (h.pick [1,0] (by decide))
 clear k
 have hjb:=hj.bytes
 have h:=h.pick [1,0] (by decide)
 obtain⟨v,h⟩:=JB.open h
 have h:Rel B' w [O1 cp U4 (ccs dp 1 j.c),O1 jp Y4 (jcs dp cp v.1 j),ZH M3 v.1 (j.list.map ofL),Z6 dp s kv]:=h
 refine h.ask (v := .string (ofL (H8 l))) (fun B2 own base2=>by
  have:=nq0 (base2 hB) (base2 q) (by rw[dV];omega)
  rw[dV] at this
  exact this) fun w1 h=>?_
 have hfs:(ofL (H8 l)).size=(H8 l).length:=Q_ _
 have hql:(l.map ofL).length=l.length:=List.length_map ..
 simp -zeta only[J5,U0 xX,U0 yX,U0 jH,U0 zQ,U0 TL,Nat.zero_add,Nat.add_zero]
 rw[h.ld 1 rfl AB (o:=5) (v := .bool j.broken) rfl,R5]
 unfold IJ at fin
 refine⟨fun c1=>fin ((s,j),7) _ (by rw[if_pos c1]) (JB.close v h),fun c1=>?_⟩
 rw[if_neg (by rw[c1];decide)] at fin
 rw[O4.len q K7,hql,F7,K3]
 refine⟨fun c2=>fin ((s,j),0) _ (by rw[if_pos (List.eq_nil_of_length_eq_zero (by omega))]) (JB.close v h),fun c2=>?_⟩
 have hne:l≠[]:=fun hh=>c2 (by rw[hh];rfl)
 rw[if_neg hne] at fin
 rw[h.ld 1 rfl Y2 (o:=4) (v := .int .i64 j.bytes) rfl,LC K8,hfs,Z5,E5 (by omega) (by omega),x9,K3]
 refine⟨fun c3=>fin ((s,j),6) _ (by rw[if_pos c3]) (JB.close v h),fun c3=>?_⟩
 rw[if_neg c3] at fin
 have h:=h.tick
 generalize tick w1=w1 at *
 rw[h.ld 1 rfl H_ (o:=0) (v:=ptr dp) rfl,h.ld 1 rfl Y2 (o:=1) (v := .int .i64 0) rfl,h.ld 1 rfl Y2 (o:=4) (v := .int .i64 j.bytes) rfl]
 refine h.act 3 rfl (fun B2 own base2=>ik0 (base2 r) hkl 0 j.bytes (t:=ofL (H8 l)) (by rw[hfs];omega)) fun u2 e' τ w2 hp h=>?_
 obtain⟨rfl,rfl,rfl⟩:=hp
 have hkw:=GG s 0 j.bytes (ofL (H8 l))
 refine P6 fun J hJ=>?_
 replace hJ:∀w',Rel B' w' [O1 cp U4 (ccs dp 1 j.c),O1 jp Y4 (jcs dp cp v.1 j),ZH M3 v.1 (j.list.map ofL),Z6 dp (wsJ s j (ofL (H8 l))).1 kv]→(wsJ s j (ofL (H8 l))).1.keep=s.keep→J (.int .i64 (wsJ s j (ofL (H8 l))).2,()) w':=by
  intro w' h hkeep
  refine hJ _ _ ?_
  clear hJ
  generalize wsJ s j (ofL (H8 l))=x at *
  obtain⟨s2,e2⟩:=x
  simp only at h hkeep fin ⊢
  rw[←hkeep] at r hkl
  rw[Q7,G5,K3]
  refine⟨fun c4=>?_,fun c4=>?_⟩
  case refine_2 =>
   rw[if_neg c4] at fin
   refine h.st 1 rfl AB (o:=5) (show 5<6 by omega) rfl fun w5 h=>?_
   exact fin ((s2,{ j with broken:=true }),e2) _ rfl (JB.close (j:={ j with broken:=true }) v h)
  rw[if_pos c4] at fin
  clear c4
  have h:=h.tick
  generalize tick w'=w' at *
  have c2r:=ZH.read (h.here (i:=2) rfl:(ZH M3 v.1 (j.list.map ofL)).here w')
  rw[h.ld 1 rfl Y2 (o:=4) (v := .int .i64 j.bytes) rfl,LC K8,hfs,Z5,E5 (by omega) (by omega),h.ld 1 rfl K9 (o:=3) (v:=v.1) rfl,O4.len c2r K7,List.length_map,O4.len q K7,hql,Z5,E5 (by omega) (by omega)]
  clear c2r
  have h:Rel B' w' ([]++[Z6 dp s2 kv,JB dp cp jp j]):=(JB.close v h).pick [1,0] (by decide)
  refine h.Jh0 (fun B2 own base2=>Uz0 (base2 hT) (base2 hB) (base2 r) hkl (j.bytes+(H8 l).length) (j.list.length+l.length) (by unfold inI;omega) (by unfold inI;omega)) fun u d1 d2 w4 hp h=>?_
  obtain⟨rfl,rfl,rfl⟩:=hp
  rw[Q7,G5,K3]
  unfold dZ at fin
  have hjl2:(FL s2 j (j.bytes+(H8 l).length) (j.list.length+l.length)).1.2.list=j.list∧(FL s2 j (j.bytes+(H8 l).length) (j.list.length+l.length)).1.2.bytes=j.bytes:=⟨rfl,rfl⟩
  generalize FL s2 j (j.bytes+(H8 l).length) (j.list.length+l.length)=y at *
  obtain⟨⟨s3,j3⟩,e3⟩:=y
  simp only at h fin hjl2 ⊢
  obtain⟨hj3,hj4⟩:=hjl2
  refine⟨fun c4=>?_,fun c4=>?_⟩
  case refine_2 =>
   rw[if_neg c4] at fin
   exact fin ((s3,j3),e3) _ rfl (h.pick [1,0] (by decide))
  rw[if_pos c4] at fin
  have h:Rel B' w4 [JB dp cp jp j3,Z6 dp s3 kv]:=h.pick [1,0] (by decide)
  obtain⟨v3,h⟩:=JB.open h
  have h:Rel B' w4 [O1 cp U4 (ccs dp 1 j3.c),O1 jp Y4 (jcs dp cp v3.1 j3),ZH M3 v3.1 (j3.list.map ofL),Z6 dp s3 kv]:=h
  have h:=h.tick
  generalize tick w4=w4 at *
  rw[h.ld 1 rfl K9 (o:=3) (v:=v3.1) rfl,h.ld 1 rfl Y2 (o:=4) (v := .int .i64 j3.bytes) rfl,LC K8,hfs,hj4,Z5,E5 (by omega) (by omega)]
  refine h.Ou0 (α:=ByteArray) 2 rfl K7 q (fun hh=>hne (List.map_eq_nil_iff.1 hh)) (by rw[List.length_map,List.length_map,hj3];omega) (by rw[List.length_map,List.length_map,hj3];omega) fun v4 w5 h=>?_
  have hv4:v4.oneCell'=true:=by
   obtain⟨a,c,rfl⟩:=ZH.shape (h.here (i:=2) rfl)
   rfl
  have hls:∀{w':World},Is prog (M5 .len #[M3] Q0 #[false] #[.string (ofL (H8 l))]) (.int .i64 (H8 l).length) w':=fun {w'}=>by
   have:=LC (P:=prog) (w:=w') (K:=fun x=>x = .int .i64 (H8 l).length) (U:=Q0) (bs:=#[false]) (s:=ofL (H8 l)) K8
   rw[hfs] at this
   obtain⟨x,h1,rfl⟩:=this.mpr rfl
   exact h1
  refine⟨hls,h.is 1 rfl Y2 (o:=4) (by rw[←hj4];rfl),?_⟩
  refine h.st 1 rfl K9 (o:=3) (show 3<6 by omega) hv4 fun w6 h=>?_
  refine⟨hls,?_⟩
  refine h.st 1 rfl Y2 (o:=4) (show 4<6 by omega) rfl fun w7 h=>?_
  rw[←List.map_append,hj3] at h
  exact fin ((s3,{ j3 with list:=j.list++l,bytes:=j.bytes+(H8 l).length }),0) _ rfl (JB.close (j:={ j3 with list:=j.list++l,bytes:=j.bytes+(H8 l).length }) ⟨v4,hv4⟩ h)
 unfold wsJ at hJ
 rw[F7,K3]
 refine⟨fun c4=>?_,fun c4=>?_⟩
 ·rw[if_pos c4] at hJ
  have h:Rel B' w2 [O1 cp U4 (ccs dp 1 j.c),O1 jp Y4 (jcs dp cp v.1 j),ZH M3 v.1 (j.list.map ofL),Z6 dp (fB s 0 j.bytes (ofL (H8 l))).1 kv]:=h
  have h:=h.tick
  generalize tick w2=w2 at *
  rw[h.ld 1 rfl H_ (o:=0) (v:=ptr dp) rfl,h.ld 1 rfl Y2 (o:=1) (v := .int .i64 0) rfl]
  rw[←hkw] at r hkl
  refine h.act 3 rfl (fun B2 own base2=>ga0 (base2 r) hkl 0) fun u2 e' τ w3 hp h=>?_
  obtain⟨rfl,rfl,rfl⟩:=hp
  exact hJ _ h ((cB _ _).trans hkw)
 ·rw[if_neg c4] at hJ
  exact hJ _ h hkw
end
theorem uZ(l:List Bs)(n:Nat):(H8 (l.take n)).length≤(H8 l).length:=QE yB l n
theorem fP(l:List Bs):l.length≤(H8 l).length:=by
 induction l with
 | nil=>exact Nat.le_refl _
 | cons x l ih =>
  show l.length+1≤(yB x++H8 l).length
  rw[List.length_append]
  have:1≤(yB x).length:=by unfold yB;simp only[List.length_append,List.length_cons];omega
  omega
noncomputable def lj0(s:DS):DS×(Option JP×Int):=if(L9 s 1).2≠0 then((L9 s 1).1,(none,(L9 s 1).2)) else((L9 s 1).1,uW (L9 s 1).1)
noncomputable def nH0:Nat→DS→DS×(Option JP×Int)
 | 0,s=>rM s
 | 1,s=>lj0 s
 | _,s=>(s,uW s)
theorem lb0{s:DS}{f e:Int}(h:EQ s f=(none,e)):e≠0:=by
 unfold EQ at h
 split at h
 ·cases h;assumption
 split at h
 ·cases h
 split at h
 ·cases h
 unfold Ct0 at h
 split at h
 ·cases h;decide
 split at h
 ·cases h;decide
 split at h
 ·cases h;decide
 split at h
 ·cases h;assumption
 split at h
 ·cases h;decide
 cases h
section
variable {B:Base} {w:World} {σ τ:List Dat} {dp cp jp:Nat} {s:DS} {kv:Value} {j:JP} {K:PtK}
theorem eH0(hT:VT B)(hB:VI B)(r:O4 kv s.keep B)(hkl:s.keep.length≤1000000)(hj:JOk j)(n:Int) :
  Both prog B (Z6 dp s kv) (JB dp cp jp j) (Z0 BJ #[ptr jp,.int .i64 n]) fun u d1 d2=>u = .int .i64 (PV s j n).2∧d1=Z6 dp (PV s j n).1.1 kv∧d2=JB dp cp jp (PV s j n).1.2:=by
 refine Both.intro fun B' w K base h k=>?_
 replace hT:=base hT
 replace hB:=base hB
 replace r:=base r
 refine xH.up ?_
 unfold xH.pt
 have fin:∀(x:(DS×JP)×Int) w',PV s j n=x→Rel B' w' [JB dp cp jp x.1.2,Z6 dp x.1.1 kv]→K (.int .i64 x.2) w':=fun x w' e h=>k _ (Z6 dp x.1.1 kv) (JB dp cp jp x.1.2) w' ⟨by rw[e],by rw[e],by rw[e]⟩ (h.pick [1,0] (by decide))
 clear k
 have hjb:=hj.bytes
 have hjf:=hj.form
 have hjc:=fP j.list
 have h:=h.pick [1,0] (by decide)
 obtain⟨v,h⟩:=JB.open h
 have h:Rel B' w [O1 cp U4 (ccs dp 1 j.c),O1 jp Y4 (jcs dp cp v.1 j),ZH M3 v.1 (j.list.map ofL),Z6 dp s kv]:=h
 have hml:(j.list.map ofL).length=j.list.length:=List.length_map ..
 simp -zeta only[J5,U0 jH,U0 zQ,U0 TL,Nat.zero_add,Nat.add_zero]
 rw[h.ld 1 rfl AB (o:=5) (v := .bool j.broken) rfl,R5]
 unfold PV at fin
 refine⟨fun c1=>fin ((s,j),7) _ (by rw[if_pos c1]) (JB.close v h),fun c1=>?_⟩
 rw[if_neg (by rw[c1];decide)] at fin
 rw[G6,K3]
 refine⟨fun c2=>fin ((s,j),1) _ (by rw[if_pos (.inl c2)]) (JB.close v h),fun c2=>?_⟩
 have c2r:=ZH.read (h.here (i:=2) rfl:(ZH M3 v.1 (j.list.map ofL)).here w)
 rw[h.ld 1 rfl K9 (o:=3) (v:=v.1) rfl,O4.len c2r K7,hml,x9,K3]
 refine⟨fun c3=>fin ((s,j),1) _ (by rw[if_pos (.inr c3)]) (JB.close v h),fun c3=>?_⟩
 rw[if_neg (fun hh=>hh.elim c2 c3)] at fin
 rw[h.ld 1 rfl K9 (o:=3) (v:=v.1) rfl,O4.len c2r K7,hml,F7,K3]
 refine⟨fun c4=>fin ((s,j),0) _ (by rw[if_pos c4]) (JB.close v h),fun c4=>?_⟩
 rw[if_neg c4] at fin
 obtain⟨m,rfl⟩:∃m:Nat,n=m:=⟨n.toNat,by omega⟩
 rw[Int.toNat_natCast] at fin
 rw[h.ld 1 rfl K9 (o:=3) (v:=v.1) rfl]
 have hcut:∀Kp:Value→Prop,M0 prog (y9 Z4 v.1 none (some (.int .i64 m)) none) Kp=Kp (cutV 1 v.1 0 m):=fun Kp =>
  O4.Ue0 (α:=ByteArray) (P:=prog) (lo:=0) (hi:=m) c2r K7 Bnd.none Bnd.some (by omega) (by omega)
 rw[hcut]
 clear c2r hcut
 have hft:=uZ j.list m
 refine h.ask (v := .string (ofL (H8 (j.list.take m)))) (fun B2 own base2=>by
  have h1:=O4.Fk0 (α:=ByteArray) (lo:=0) (hi:=m) (ZH.read (own (i:=2) rfl)) (by omega) (by omega)
  rw[List.drop_zero,←List.map_take] at h1
  have:=nq0 (base2 hB) h1 (by rw[dV];omega)
  rw[dV] at this
  exact this) fun w1 h=>?_
 have hfs:(ofL (H8 (j.list.take m))).size=(H8 (j.list.take m)).length:=Q_ _
 rw[LC K8,hfs]
 have h:Rel B' w1 ([]++[Z6 dp s kv,JB dp cp jp j]):=(JB.close v h).pick [1,0] (by decide)
 refine h.Jh0 (fun B2 own base2=>Uz0 (base2 hT) (base2 hB) (base2 r) hkl (H8 (j.list.take m)).length m (by unfold inI;omega) (by unfold inI;omega)) fun u d1 d2 w4 hp h=>?_
 obtain⟨rfl,rfl,rfl⟩:=hp
 rw[Q7,G5,K3]
 have hjl2:(FL s j (H8 (j.list.take m)).length m).1.2.list=j.list:=rfl
 generalize FL s j (H8 (j.list.take m)).length m=y at *
 obtain⟨⟨s3,j3⟩,e3⟩:=y
 simp only at h fin hjl2 ⊢
 refine⟨fun c5=>?_,fun c5=>?_⟩
 case refine_2 =>
  rw[if_neg c5] at fin
  exact fin ((s3,j3),e3) _ rfl (h.pick [1,0] (by decide))
 rw[if_pos c5] at fin
 have h:Rel B' w4 [JB dp cp jp j3,Z6 dp s3 kv]:=h.pick [1,0] (by decide)
 obtain⟨v3,h⟩:=JB.open h
 have h:Rel B' w4 [O1 cp U4 (ccs dp 1 j3.c),O1 jp Y4 (jcs dp cp v3.1 j3),ZH M3 v3.1 (j3.list.map ofL),Z6 dp s3 kv]:=h
 rw[hjl2] at h
 rw[h.ld 1 rfl K9 (o:=3) (v:=v3.1) rfl]
 obtain⟨a,c,ev,hc,_⟩:=ZH.cut (n:=m) (h.here (i:=2) rfl:(ZH M3 v3.1 (j.list.map ofL)).here w4) (by omega)
 rw[ev,KD0 (α:=ByteArray) K7 (Nat.le_refl _) (by omega)]
 have h:=h.imp (i:=2) (e:=ZH M3 (.slice a m m) ((j.list.take m).map ofL)) rfl fun B hB=>by
  have hB:ZH M3 v3.1 (j.list.map ofL) B:=hB
  obtain⟨a',c',ev',_,hcut⟩:=ZH.cut (n:=m) hB (by omega)
  rw[ev] at ev'
  cases ev'
  rw[List.map_take]
  exact hcut
 refine h.st 1 rfl K9 (o:=3) (show 3<6 by omega) rfl fun w6 h=>?_
 refine h.st 1 rfl Y2 (o:=4) (show 4<6 by omega) rfl fun w7 h=>?_
 exact fin ((s3,{ j3 with list:=j.list.take m,bytes:=(H8 (j.list.take m)).length }),0) _ rfl (JB.close (j:={ j3 with list:=j.list.take m,bytes:=(H8 (j.list.take m)).length }) ⟨.slice a m m,rfl⟩ h)
theorem fD0(hT:VT B)(hW:qC B)(hB:VI B)(r:O4 kv s.keep B)(hkl:s.keep.length≤1000000) :
  Does prog B (Z6 dp s kv) (Z0 DR #[ptr dp,.int .i64 0]) fun u e' τ=>e'=Z6 dp (rM s).1 kv∧match (rM s).2.1 with
   | some j=>∃cp jp,u = .tuple #[ptr jp,.int .i64 0]∧τ=[JB dp cp jp j]
   | none=>u = .tuple #[.pointer none,.int .i64 (rM s).2.2]∧τ=[]:=by
 refine Does.intro fun B' w K base h k=>?_
 replace hT:=base hT
 replace hB:=base hB
 replace hW:=base hW
 replace r:=base r
 refine TQ.up ?_
 unfold TQ.pt
 have no:∀(s':DS) (e:Int) w',rM s=(s',(none,e))→Rel B' w' [Z6 dp s' kv]→K (.tuple #[.pointer none,.int .i64 e]) w':=fun s' e w' he h=>k _ _ [] w' (by rw[he];exact⟨rfl,rfl,rfl⟩) h
 have yes:∀(s':DS) (j:JP) (cp jp:Nat) (e:Int) w',rM s=(s',(some j,e))→Rel B' w' [Z6 dp s' kv,JB dp cp jp j]→K (.tuple #[ptr jp,.int .i64 0]) w':=fun s' j cp jp e w' he h=>k _ _ _ w' (by rw[he];exact⟨rfl,cp,jp,rfl,rfl⟩) h
 clear k
 rw[G6,K3]
 refine⟨fun c=>absurd c (by omega),fun _=>?_⟩
 rw[x9,K3]
 refine⟨fun c=>absurd c (by omega),fun _=>?_⟩
 rw[Z5,E5 (by omega) (by omega)]
 refine h.NV ([0,1]:List Int) N8 fun v w2 h=>?_
 have h:Rel B' w2 [Z6 dp s kv,Y3 Q0 v ([0,1]:List Int)]:=h
 rw[O4.len (Y3.read (h.here (i:=1) rfl)) N8]
 refine F6 (fun z w'=>∃(i:Nat) (si:DS),i≤2∧z=(.int .i64 i,())∧rM s=nH0 i si∧si.keep=s.keep∧Rel B' w' [Z6 dp si kv,Y3 Q0 v ([0,1]:List Int)])
  (fun z _=>2-(match z.1 with | .int _ n=>n.toNat | _=>0)) ⟨0,s,Nat.zero_le _,rfl,rfl,rfl,h⟩ ?_
 clear h
 rintro z w3 ⟨i,si,hi,rfl,hop,hk,h⟩ next hnext
 rw[←hk] at r hkl
 rw[hop] at no yes
 rw[G6,K3]
 refine⟨fun hlt=>?_,fun hge=>?_⟩
 ·have hlt:i<2:=by
   have:(i:Int)<(([0,1]:List Int).length:Nat):=hlt
   have e:([0,1]:List Int).length=2:=rfl
   omega
  have hil:i<([0,1]:List Int).length:=hlt
  have hel:([0,1]:List Int)[i]=i:=by
   have:i=0∨i=1:=by omega
   rcases this with rfl | rfl<;>rfl
  obtain⟨g,o,hx,hc⟩:=O4.idx (Y3.read (h.here (i:=1) rfl)) N8 (P:=prog) hil
  rw[hx,K6.ld0 hc Y2 (v := .int .i64 ([0,1]:List Int)[i]) rfl,hel]
  clear hx hc
  refine h.act 0 rfl (fun B2 own base2=>ga0 (base2 r) hkl i) fun u2 e' τ w4 hp h=>?_
  obtain⟨rfl,rfl,rfl⟩:=hp
  have hk2:=cB si i
  have hi01:i=0∨i=1:=by omega
  rw[Q7,G5,K3]
  refine⟨fun c=>?_,fun c=>?_⟩
  case refine_2 =>
   refine no (L9 si i).1 (L9 si i).2 _ ?_ (h.take 1)
   rcases hi01 with rfl | rfl
   ·show rM si=_
    unfold rM
    exact if_pos c
   ·show lj0 si=_
    unfold lj0
    exact if_pos c
  rw[Z5,E5 (by omega) (by omega)]
  refine hnext _ _ ⟨i+1,(L9 si i).1,by omega,rfl,?_,hk2.trans hk,h⟩ (by simp only;omega)
  rw[hop]
  rcases hi01 with rfl | rfl
  ·show rM si=lj0 (L9 si 0).1
   unfold rM
   exact if_neg (fun hh=>hh c)
  ·show lj0 si=((L9 si 1).1,uW (L9 si 1).1)
   unfold lj0
   exact if_neg (fun hh=>hh c)
 have:i=2:=by
  have:¬(i:Int)<(([0,1]:List Int).length:Nat):=hge
  have e:([0,1]:List Int).length=2:=rfl
  omega
 subst this
 clear hnext hge
 have hop2:nH0 2 si=(si,uW si):=rfl
 rw[hop2] at no yes
 replace no:∀(e:Int) w',uW si=(none,e)→Rel B' w' [Z6 dp si kv]→K (.tuple #[.pointer none,.int .i64 e]) w':=fun e w' he h=>no si e w' (by rw[he]) h
 replace yes:∀(j:JP) (cp jp:Nat) w',uW si=(some j,0)→Rel B' w' [Z6 dp si kv,JB dp cp jp j]→K (.tuple #[ptr jp,.int .i64 0]) w':=fun j cp jp w' he h=>yes si j cp jp 0 w' (by rw[he]) h
 rw[Z5,E5 (by omega) (by omega)]
 have h:Rel B' w3 [Z6 dp si kv]:=h.take 1
 unfold uW at no yes
 refine h.make (fun B2 own base2=>qs0 (base2 hT) (own (i:=0) rfl) 1) fun u τ w4 hp h=>?_
 rcases hp with⟨c,st,ho,rfl,rfl⟩ | ⟨ho,rfl,rfl⟩
 case inr =>
  cases hq:EQ si 1 with
  | mk a e =>
   rw[hq] at ho
   simp only at ho
   subst ho
   rw[hq] at no
   simp only at no
   rw[M9,D9,Q7,G5,K3]
   refine⟨fun c=>?_,fun _=>?_⟩
   ·exact absurd c (lb0 hq)
   ·exact no e _ rfl (h.take 1)
 rw[ho] at no yes
 simp only at no yes
 rw[M9,D9,Q7,G5,K3]
 refine⟨fun _=>?_,fun c=>absurd rfl c⟩
 have hsz:=tj0 ho
 have h:Rel B' w4 [Z6 dp si kv,O1 c U4 (ccs dp 1 st)]:=h
 refine h.ask (fun B2 own base2=>Uv0 (base2 hW) (st:=st) (by omega) (own (i:=1) rfl)) fun w5 h=>?_
 unfold Bo0 at no yes
 have hdk:DOk si:=(Z6.ok (h.here (i:=0) rfl)).1
 generalize VF st=ns at *
 obtain⟨⟨b,n⟩,ok⟩:=ns
 simp only at no yes ⊢
 rw[UU,Md0,Od0,V7,G5,R5]
 refine⟨fun c1=>?_,fun c1=>no 2 _ (by rw[if_pos c1]) (h.take 1)⟩
 rw[if_neg (by rw[c1];decide)] at no yes
 refine h.ask (fun B2 own base2=>wp0 (own (i:=0) rfl) 0 0 b) fun w6 h=>?_
 have hrf:=Lg0 hdk 0 0 b
 generalize LD si 0 0 b=rd at *
 obtain⟨x,e⟩:=rd
 simp only at no yes hrf ⊢
 rw[M9,D9,Q7,G5,K3]
 refine⟨fun c2=>?_,fun c2=>no e _ (by rw[if_pos c2]) (h.take 1)⟩
 rw[if_neg (fun hh=>hh c2)] at no yes
 refine h.make (fun B2 own base2=>nD0 (base2 hW) (base2 hB) hrf n) fun u τ w7 hp h=>?_
 obtain⟨v7,rfl,rfl⟩:=hp
 generalize vU (bl x) n=q at *
 obtain⟨l,okq⟩:=q
 simp only at no yes h ⊢
 rw[M9,D9,V7,G5,R5]
 refine⟨fun c3=>?_,fun c3=>no 2 _ (by rw[if_pos c3]) (h.take 1)⟩
 rw[if_neg (by rw[c3];decide)] at no yes
 rw[LC K8,Q7,G5,K3]
 refine⟨fun c4=>?_,fun c4=>no 2 _ (by rw[if_pos c4]) (h.take 1)⟩
 rw[if_neg (fun hh=>hh c4)] at yes
 have h:Rel B' w7 [Z6 dp si kv,O1 c U4 (ccs dp 1 st),Y3 M3 v7 (l.map ofL)]:=h
 obtain⟨x0,n0,c0,rfl⟩:=FW h 2 rfl
 rw[sQ]
 refine h.box fun jp w8 h=>?_
 have h:Rel B' w8 [Z6 dp si kv,O1 c U4 (ccs dp 1 st),Y3 M3 (.slice x0 n0 c0) (l.map ofL),O1 jp Y4 (jcs dp c (.slice x0 n0 c0) ⟨l,b,false,st⟩)]:=h
 have h:=h.imp (i:=2) (e:=ZH M3 (.slice x0 n0 c0) (l.map ofL)) rfl fun B hB=>ZH.of hB
 refine yes ⟨l,b,false,st⟩ c jp _ rfl ?_
 have h:Rel B' w8 (gz0 dp c jp ⟨l,b,false,st⟩ ⟨.slice x0 n0 c0,rfl⟩++[Z6 dp si kv]):=h.pick [1,3,2,0] (by decide)
 exact(JB.close _ h).pick [1,0] (by decide)
end
abbrev bU:=MK
structure CO where
 fl:List bU
 sp:Int
 deriving DecidableEq
def yg0:bU:=⟨0,0,⟨#[]⟩⟩
def lU(a:Int):Bool:=decide (0≤a)&&decide (a<16)
def Au0(sp a:Int):Int:=IntKind.wrap .i64 (BitVec.ofInt 64 (sp.fdiv (2 ^ min a.toNat 64)) &&& BitVec.ofInt 64 1).toNat
def xZ(s:CO)(a b:Int):Bool:=lU a&&(lU b&&decide (Au0 s.sp a=Au0 s.sp b))
def xV(s:CO)(p:bU):Int×CO :=
 if lU p.from_=true∧lU p.to_=true∧p.from_≠p.to_ then
  if xZ s p.from_ p.to_=true then
   if s.fl.length<500 then(0,{ s with fl:=s.fl++[p] }) else(6,s)
  else(10,s)
 else(1,s)
def rmS(s:CO)(i:Nat):CO:={ s with fl:=s.fl.take i++s.fl.drop (i+1) }
def atS(s:CO)(i:Int):Option (Nat×bU):=if 0≤i then(s.fl[i.toNat]?).map fun p=>(i.toNat,p) else none
def aA(s:CO)(i:Int):(bU×Int)×CO :=
 match atS s i with
 | some (n,p)=>if xZ s p.from_ p.to_=true then((p,0),rmS s n) else((yg0,10),rmS s n)
 | none=>((yg0,4),s)
theorem Bx0{s:CO}{i:Int}{n:Nat}{p:bU}(h:atS s i=some (n,p)):i=n∧∃hn:n<s.fl.length,s.fl[n]=p:=by
 unfold atS at h
 split at h
 ·rename_i c
  cases hq:s.fl[i.toNat]? with
  | none=>rw[hq] at h;cases h
  | some q =>
   rw[hq] at h
   simp only[Option.map_some,Option.some.injEq,Prod.mk.injEq] at h
   obtain⟨rfl,rfl⟩:=h
   obtain⟨h1,h2⟩:=List.getElem?_eq_some_iff.1 hq
   exact⟨by omega,h1,h2⟩
 ·cases h
theorem nF0{s:CO}{n:Nat}(hn:n<s.fl.length):atS s n=some (n,s.fl[n]):=by
 unfold atS
 rw[if_pos (by omega),Int.toNat_natCast,List.getElem?_eq_getElem hn]
 rfl
theorem bC0{s:CO}{i:Int}(h:i<0):atS s i=none:=by
 unfold atS
 rw[if_neg (by omega)]
theorem dC0{s:CO}{i:Int}(h:(s.fl.length:Int)≤i):atS s i=none:=by
 unfold atS
 rw[if_pos (by omega),List.getElem?_eq_none (by omega)]
 rfl
theorem vw0{s:CO}{p:bU}(h:s.fl.length≤500):(xV s p).2.fl.length≤500:=by
 unfold xV
 split
 ·split
  ·split
   ·show (s.fl++[p]).length≤500
    rw[List.length_append]
    show s.fl.length+1≤500
    omega
   ·exact h
  ·exact h
 ·exact h
theorem DD0{s:CO}{n:Nat}(h:s.fl.length≤500):(rmS s n).fl.length≤500:=by
 unfold rmS
 rw[List.length_append,List.length_take,List.length_drop]
 omega
abbrev ncs(v:Value)(sp:Int):Array Value:=#[v,.int .i64 sp]
def cG0(p:Nat)(s:CO)(v:SV):List Dat:=[O1 p UA (ncs v.1 s.sp),Y3 K5 v.1 s.fl]
def KD(p:Nat)(s:CO):Dat:=Dat.ex fun v:SV=>eF (cG0 p s v)
section
variable {B:Base} {w:World} {σ τ:List Dat} {p:Nat} {s:CO} {K:PtK}
theorem KD.open(h:Rel B w (KD p s :: τ)):∃v,Rel B w (cG0 p s v++τ):=by
 obtain⟨v,h⟩:=h.ex (i:=0) rfl
 exact⟨v,Rel.nS h⟩
theorem KD.close(v:SV)(h:Rel B w (cG0 p s v++τ)):Rel B w (KD p s :: τ) :=
 (Rel.RL h).imp (i:=0) (e:=KD p s) rfl fun B hB=>⟨v,hB⟩
theorem KD.jP(h:KD p s B):∃v:SV,O1 p UA (ncs v.1 s.sp) B∧O4 v.1 s.fl B:=by
 obtain⟨v,h⟩:=h
 exact⟨v,eF.get (j:=0) h rfl,Y3.read (eF.get (j:=1) h rfl)⟩
theorem fA0{v:Value}{l:List bU}(hl:l.length≤1000000){i:Nat}(hi:i<l.length):Does prog B (Y3 K5 v l) (Z0 eB #[v,.int .i64 i,.int .i64 ((i:Int)+1)]) fun u e' τ=>e'=Y3 K5 u (l.take i++l.drop (i+1))∧τ=[]:=by
 refine Does.intro fun B' w K base h k=>?_
 obtain⟨c,h⟩:=h
 have hr:YB c 1 w K5 v l:=Y3.own (h.own 0 _ rfl)
 replace k:∀c' v' w',Step (only 1) c w c' w'→YB c' 1 w' K5 v' (l.take i++l.drop (i+1))→K v' w':=fun c' v' w' st hr=>k _ _ [] w' ⟨rfl,rfl⟩ ⟨c',h.step (i:=0) rfl st hr.Y3⟩
 clear h base
 rw[show ((i:Int)+1)=((i+1:Nat):Int) from rfl]
 generalize hj:i+1=j at k
 replace hj:i<j∧j≤l.length:=by omega
 obtain⟨hij,hj⟩:=hj
 refine O_.up ?_
 unfold O_.pt
 have hne:¬((i:Int)=(j:Int)):=by omega
 have szP:Enc.sz bU=3:=rfl
 rcases hr.cases with⟨rfl,rfl⟩ | ⟨g,cap,cur,rfl,hb,hc,hm,hs,htk⟩
 ·simp at hj;omega
 ·simp only[Wa0 JV,slice3 (α:=bU) QA (show i≤j by omega) hj hc,F7,hne,decide_false,d_]
  obtain⟨v2,hv2,hr2⟩:=hr.read.cut QA (lov:=some (.int .i64 j)) (hiv:=none) Bnd.some Bnd.none hj (Nat.le_refl _)
  rw[List.take_length] at hr2
  have e1:∀{Kp:Value→Prop},M0 prog (y9 X6 (.slice (some ⟨g,0,none⟩) l.length cap) none (some (.int .i64 i)) none) Kp=Kp (.slice (some ⟨g,0,none⟩) i cap):=fun {Kp} =>
   F5 fun w=>by
    have:=yN (α:=bU) (P:=prog) (a:=some ⟨g,0,none⟩) (len:=l.length) (cap:=cap) (lo:=0) (hi:=i) (lov:=none) (hiv:=some (.int .i64 i)) QA Bnd.none Bnd.some (Nat.zero_le _) (by omega) w
    rw[this]
    simp [addr_add]
  simp only[e1,hv2]
  have hld:(l.drop j).length=l.length-j:=by simp
  refine kc0 QA hb.tick hr2.tick (n:=i) (by omega) hs fun w1 st1 hb1=>?_
  have e2:∀{Kp:Value→Prop},M0 prog (y9 X6 (.slice (some ⟨g,0,none⟩) (i+(l.drop j).length) cap) (some (.int .i64 ((i+(l.drop j).length:Nat):Int))) (some (.int .i64 (l.length:Int))) none) Kp=Kp (.slice (some ⟨g,(i+(l.drop j).length) * 3,none⟩) (l.length-(i+(l.drop j).length)) (cap-(i+(l.drop j).length))):=fun {Kp} =>
   F5 fun w=>by
    have:=yN (α:=bU) (P:=prog) (a:=some ⟨g,0,none⟩) (len:=i+(l.drop j).length) (cap:=cap) (lo:=i+(l.drop j).length) (hi:=l.length) QA Bnd.some Bnd.some (by omega) hc w
    rw[this,if_neg (by omega)]
    simp [addr_add]
    rfl
  simp only[Wa0 JV,e2]
  have hlen:((cur.toList.take (i * Enc.sz bU)++flat (l.drop j)++cur.toList.drop ((i+(l.drop j).length) * Enc.sz bU)).toArray).size=cap * 3:=by
   simp only[List.size_toArray,List.length_append,List.length_take,List.length_drop,Array.length_toList,N7,hs,szP]
   omega
  refine Ci0 QA hb1 (by rw[hlen];show _≤cap * 3;try rw[szP];omega) fun w2 cur2 st2 hb2 hs2 ht2=>?_
  refine k c _ w2 ((Step.tick _ c w).trans (st1.trans st2)) (YB.mk_ hb2 (by simp;omega) (by omega) hm (by rw[hs2,hlen];rfl) ?_)
  rw[show (i+(l.drop j).length) * Enc.sz bU=(i+(l.drop j).length) * 3 from rfl,ht2,dF,←oF,←htk,List.take_take]
  rw[Nat.min_eq_left (Nat.mul_le_mul_right _ (by omega))]
  exact List.take_left' (by simp only[List.length_append,List.length_take,Array.length_toList,N7,hs,szP];omega)
theorem Rz0:Makes prog B (Z0 ba0 #[]) fun u τ=>∃p,u=ptr p∧τ=[KD p ⟨[],0⟩]:=by
 refine Makes.intro fun B' w K base h k=>?_
 refine Yd0.up ?_
 unfold Yd0.pt
 rw[Qm0]
 refine h.box fun b w1 h=>?_
 have h:=h.VC bU K5
 exact k _ _ _ ⟨b,rfl,rfl⟩ (KD.close (s:=⟨[],0⟩) (τ:=[]) ⟨.slice none 0 0,rfl⟩ h)
theorem Ns0(a:Int):Gives prog B (Z0 uR #[.int .i64 a]) (.bool (lU a)):=by
 refine Gives.intro fun B' w K base h k=>?_
 refine ae0.up ?_
 unfold ae0.pt lU at *
 rw[FC,K3]
 refine⟨fun c=>?_,fun c=>?_⟩
 ·rw[G6]
  rw[decide_eq_true (p:=0≤a) (by omega),Bool.true_and] at k
  exact k _ _ h
 ·rw[decide_eq_false (p:=0≤a) (by omega),Bool.false_and] at k
  exact k _ _ h
theorem My0(hs:KD p s B)(x y:Int):Gives prog B (Z0 MN #[ptr p,.int .i64 x,.int .i64 y]) (.bool (xZ s x y)):=by
 refine Gives.intro fun B' w K base h k=>?_
 replace hs:=base hs
 obtain⟨v,c0,c1⟩:=KD.jP hs
 refine WQ.up ?_
 unfold WQ.pt
 have h:=h.tick
 generalize tick w=w at *
 refine h.ask (fun B2 own base2=>Ns0 x) fun w1 h=>?_
 unfold xZ at k
 rw[R5]
 refine⟨fun hx=>?_,fun hx=>?_⟩
 case refine_2=>rw[hx,Bool.false_and] at k;exact k _ _ h
 refine h.ask (fun B2 own base2=>Ns0 y) fun w2 h=>?_
 rw[R5]
 refine⟨fun hy=>?_,fun hy=>?_⟩
 case refine_2=>rw[hy,Bool.false_and,Bool.and_false] at k;exact k _ _ h
 rw[hx,hy,Bool.true_and,Bool.true_and] at k
 have hx0:0≤x:=by simp [lU] at hx;exact hx.1
 have hy0:0≤y:=by simp [lU] at hy;exact hy.1
 simp -zeta only[J5,U0 Cn0,Nat.zero_add]
 rw[O1.ld (h.L6 c0) Y2 (o:=1) (v := .int .i64 s.sp) rfl,TW hx0,iZ,O1.ld (h.L6 c0) Y2 (o:=1) (v := .int .i64 s.sp) rfl,TW hy0,iZ,F7]
 exact k _ _ h
theorem zG0(hl:s.fl.length≤500)(f t:Int)(b:ByteArray):Does prog B (KD p s) (Z0 FR #[ptr p,.int .i64 f,.int .i64 t,.string b]) fun u e' τ=>u = .int .i64 (xV s ⟨f,t,b⟩).1∧e'=KD p (xV s ⟨f,t,b⟩).2∧τ=[]:=by
 refine Does.intro fun B' w K base h k=>?_
 refine XQ.up ?_
 unfold XQ.pt
 unfold xV at k
 simp only at k
 have no:¬(lU f=true∧lU t=true∧f≠t)→∀w',Rel B' w' [KD p s]→K (.int .i64 1) w':=fun c w' h=>k _ _ [] _ (by rw[if_neg c];exact⟨rfl,rfl,rfl⟩) h
 refine h.ask (fun B2 own base2=>Ns0 f) fun w1 h=>?_
 rw[V7,G5,R5]
 refine⟨fun c1=>?_,fun c1=>no (fun hh=>by rw[hh.1] at c1;cases c1) _ h⟩
 refine h.ask (fun B2 own base2=>Ns0 t) fun w2 h=>?_
 rw[V7,G5,R5]
 refine⟨fun c2=>?_,fun c2=>no (fun hh=>by rw[hh.2.1] at c2;cases c2) _ h⟩
 rw[F7,K3]
 refine⟨fun c3=>no (fun hh=>hh.2.2 c3) _ h,fun c3=>?_⟩
 rw[if_pos ⟨c1,c2,c3⟩] at k
 refine h.ask (fun B2 own base2=>My0 (own (i:=0) rfl) f t) fun w3 h=>?_
 rw[V7,G5,R5]
 refine⟨fun c4=>?_,fun c4=>?_⟩
 case refine_2=>rw[if_neg (by rw[c4];decide)] at k;exact k _ _ [] _ ⟨rfl,rfl,rfl⟩ h
 rw[if_pos c4] at k
 obtain⟨v,h⟩:=KD.open h
 have h:Rel B' w3 [O1 p UA (ncs v.1 s.sp),Y3 K5 v.1 s.fl]:=h
 simp -zeta only[J5,U0 dW,Nat.zero_add]
 rw[h.ld 0 rfl SC (o:=0) (v:=v.1) rfl,O4.len (Y3.read (h.here (i:=1) rfl)) QA,FC,K3]
 refine⟨fun c5=>?_,fun c5=>?_⟩
 ·rw[if_neg (by omega)] at k
  exact k _ _ [] _ ⟨rfl,rfl,rfl⟩ (KD.close v h)
 rw[if_pos (by omega)] at k
 rw[h.ld 0 rfl SC (o:=0) (v:=v.1) rfl,vX]
 refine h.WS (α:=bU) 1 rfl ⟨f,t,b⟩ QA (by decide) (by omega) (by omega) fun v' w5 h=>?_
 have hv1:v'.oneCell'=true:=h.oneCell (i:=1) rfl
 refine h.st 0 rfl SC (o:=0) (show 0<2 by omega) hv1 fun w6 h=>?_
 exact k _ _ [] _ ⟨rfl,rfl,rfl⟩ (KD.close (s:={ s with fl:=s.fl++[⟨f,t,b⟩] }) ⟨v',hv1⟩ h)
theorem iC0(hs:KD p s B):Gives prog B (Z0 jQ #[ptr p]) (.int .i64 s.fl.length):=by
 refine Gives.intro fun B' w K base h k=>?_
 replace hs:=base hs
 obtain⟨v,c0,c1⟩:=KD.jP hs
 refine AP.up ?_
 unfold AP.pt
 simp -zeta only[J5,U0 dW,Nat.zero_add]
 rw[O1.ld (h.L6 c0) SC (o:=0) (v:=v.1) rfl,O4.len c1 QA]
 exact k _ _ h
theorem MC0(hl:s.fl.length≤500)(i:Int):Does prog B (KD p s) (Z0 GR #[ptr p,.int .i64 i]) fun u e' τ=>τ=[]∧(match atS s i with | some (n,q)=>u = .tuple #[.agg q.cs.toArray,.bool true]∧e'=KD p (rmS s n) | none=>u = .tuple #[.agg yg0.cs.toArray,.bool false]∧e'=KD p s):=by
 refine Does.intro fun B' w K base h k=>?_
 refine YQ.up ?_
 unfold YQ.pt
 obtain⟨v,h⟩:=KD.open h
 have h:Rel B' w [O1 p UA (ncs v.1 s.sp),Y3 K5 v.1 s.fl]:=h
 refine h.alloc BL fun t w1 h=>?_
 have h:Rel B' w1 [O1 p UA (ncs v.1 s.sp),Y3 K5 v.1 s.fl,O1 t K5 yg0.cs.toArray]:=h
 have no:atS s i=none→∀w',Rel B' w' [O1 p UA (ncs v.1 s.sp),Y3 K5 v.1 s.fl,O1 t K5 yg0.cs.toArray] →
   M0 prog (H6 K5 #[]) fun t18=>upK prog (I4 K5 (.pointer (some ⟨t,0,none⟩)) t18) w' fun _ w2=>U9 prog (do loadVar K5 (←asAddr (.pointer (some ⟨t,0,none⟩)))) w2 fun t4=>K (.tuple #[t4,(.bool false)]) w2:=by
  intro c w' h
  rw[c] at k
  rw[TR]
  refine h.YG 2 rfl a_ rfl rfl (fun x hx=>Enc.one yg0 x hx) fun w8 h=>?_
  rw[qJ h 2 rfl a_ rfl]
  exact k _ _ [] _ ⟨rfl,rfl,rfl⟩ (KD.close v (h.take 2))
 rw[G6,K3]
 refine⟨fun c1=>no (bC0 c1) _ h,fun c1=>?_⟩
 simp -zeta only[J5,U0 dW,Nat.zero_add]
 rw[h.ld 0 rfl SC (o:=0) (v:=v.1) rfl,O4.len (Y3.read (h.here (i:=1) rfl)) QA,FC,K3]
 refine⟨fun c2=>no (dC0 (by omega)) _ h,fun c2=>?_⟩
 clear no
 obtain⟨n,rfl⟩:∃n:Nat,i=n:=⟨i.toNat,by omega⟩
 have hn:n<s.fl.length:=by omega
 rw[nF0 hn] at k
 rw[h.ld 0 rfl SC (o:=0) (v:=v.1) rfl]
 obtain⟨g,og,hx,hc⟩:=O4.idx (Y3.read (h.here (i:=1) rfl)) QA (P:=prog) hn
 rw[hx,K6.r9 (xs:=s.fl[n].cs) hc a_ rfl]
 clear hx hc
 generalize s.fl[n]=q at *
 refine h.R8 (ds:=q.cs.toArray) BL rfl a_ rfl (fun x hx=>Enc.one q x hx) fun b w4 h=>?_
 rw[h.ld 0 rfl SC (o:=0) (v:=v.1) rfl,Z5,E5 (by omega) (by omega)]
 refine h.act 1 rfl (fun B2 own base2=>fA0 (by omega) hn) fun u e' τ w5 hp h=>?_
 obtain⟨rfl,rfl⟩:=hp
 have hu:u.oneCell'=true:=h.oneCell (i:=1) rfl
 refine h.st 0 rfl SC (o:=0) (show 0<2 by omega) hu fun w6 h=>?_
 rw[h.r9 3 rfl a_ rfl]
 refine h.YG 2 rfl a_ rfl rfl (fun x hx=>Enc.one q x hx) fun w8 h=>?_
 rw[qJ h 2 rfl a_ rfl]
 exact k _ _ [] _ ⟨rfl,rfl,rfl⟩ (KD.close (s:=rmS s n) ⟨u,hu⟩ (h.take 2))
theorem Su0(hl:s.fl.length≤500)(i:Int):Does prog B (KD p s) (Z0 KN #[ptr p,.int .i64 i]) fun u e' τ=>u = .tuple #[.agg (aA s i).1.1.cs.toArray,.int .i64 (aA s i).1.2]∧e'=KD p (aA s i).2∧τ=[]:=by
 refine Does.intro fun B' w K base h k=>?_
 refine LM.up ?_
 unfold LM.pt
 unfold aA at k
 refine h.alloc BL fun t w1 h=>?_
 have h:Rel B' w1 [KD p s,O1 t K5 yg0.cs.toArray]:=h
 refine h.act 0 rfl (fun B2 own base2=>MC0 hl i) fun u e' τ w2 hp h=>?_
 obtain⟨rfl,hp⟩:=hp
 cases ha:atS s i with
 | none =>
  rw[ha] at hp k
  obtain⟨rfl,rfl⟩:=hp
  rw[M9,D9]
  refine h.R8 (ds:=yg0.cs.toArray) BL rfl a_ rfl (fun x hx=>Enc.one yg0 x hx) fun b w4 h=>?_
  rw[V7,G5,R5]
  refine⟨(fun c=>by cases c),fun _=>?_⟩
  rw[TR]
  refine h.YG 1 rfl a_ rfl rfl (fun x hx=>Enc.one yg0 x hx) fun w8 h=>?_
  rw[qJ h 1 rfl a_ rfl]
  exact k _ _ [] _ ⟨rfl,rfl,rfl⟩ (h.take 1)
 | some nq =>
  obtain⟨n,q⟩:=nq
  rw[ha] at hp k
  obtain⟨rfl,rfl⟩:=hp
  simp only at k
  rw[M9,D9]
  refine h.R8 (ds:=q.cs.toArray) BL rfl a_ rfl (fun x hx=>Enc.one q x hx) fun b w4 h=>?_
  rw[V7,G5,R5]
  refine⟨fun _=>?_,fun c=>by cases c⟩
  simp -zeta only[U0 gf0,U0 aW,Nat.zero_add]
  rw[h.ld 2 rfl Y2 (o:=0) (v := .int .i64 q.from_) rfl,h.ld 2 rfl Y2 (o:=1) (v := .int .i64 q.to_) rfl]
  have e:xZ (rmS s n) q.from_ q.to_=xZ s q.from_ q.to_:=rfl
  refine h.ask (fun B2 own base2=>My0 (own (i:=0) rfl) q.from_ q.to_) fun w5 h=>?_
  rw[e,V7,G5,R5]
  refine⟨fun c=>?_,fun c=>?_⟩
  ·rw[if_pos c] at k
   rw[h.r9 2 rfl a_ rfl]
   refine h.YG 1 rfl a_ rfl rfl (fun x hx=>Enc.one q x hx) fun w8 h=>?_
   rw[qJ h 1 rfl a_ rfl]
   exact k _ _ [] _ ⟨rfl,rfl,rfl⟩ (h.take 1)
  ·rw[if_neg (by rw[c];decide)] at k
   rw[TR]
   refine h.YG 1 rfl a_ rfl rfl (fun x hx=>Enc.one yg0 x hx) fun w8 h=>?_
   rw[qJ h 1 rfl a_ rfl]
   exact k _ _ [] _ ⟨rfl,rfl,rfl⟩ (h.take 1)
end
noncomputable def IY(s:Bs):uB:=if aO (D8 (H5 ⟨s,false⟩).2).2=true then⟨(H5 ⟨s,false⟩).1,ofL (D8 (H5 ⟨s,false⟩).2).1⟩ else⟨0,⟨#[]⟩⟩
noncomputable def IE0(s:RS):SN:=⟨(H5 s).1,(H5 (H5 s).2).1⟩
noncomputable def vZ(c:CS):SN:=if 0<c.slot then IE0 ⟨bl c.value,false⟩ else⟨0,-1⟩
section
variable {B:Base} {w:World} {σ τ:List Dat} {K:PtK}
theorem jr0(hB:qC B){s:Bs}(hs:s.length≤100000000):Gives prog B (Z0 NN #[.string (ofL s)]) (.tuple #[.agg (IY s).cs.toArray,.bool (aO (D8 (H5 ⟨s,false⟩).2).2)]):=by
 refine Gives.intro fun B' w K base h k=>?_
 replace hB:=base hB
 refine MM.up ?_
 unfold MM.pt
 have h1:(H5 ⟨s,false⟩).2.rest.length≤s.length:=YD ⟨s,false⟩
 unfold IY at k
 refine h.alloc CL fun t w1 h=>?_
 refine h.make (fun B2 own base2=>WT) fun u τ w2 hp h=>?_
 obtain⟨p,rfl,rfl⟩:=hp
 have h:Rel B' w2 [O1 t X3 (⟨0,⟨#[]⟩⟩:uB).cs.toArray,rdD p ⟨s,false⟩]:=h
 refine h.rd_ 1 rfl (fun B2 own base2=>mD (base2 hB) (show s.length≤_ by omega)) fun w3 h=>?_
 refine h.rd_ 1 rfl (fun B2 own base2=>iR (base2 hB) (by omega)) fun w4 h=>?_
 generalize (H5 ⟨s,false⟩).1=n at *
 generalize D8 (H5 ⟨s,false⟩).2=q at *
 obtain⟨x,s2⟩:=q
 simp only at h k ⊢
 rw[UR]
 refine h.R8 (ds:=(⟨n,ofL x⟩:uB).cs.toArray) CL rfl S9 rfl (fun v hv=>Enc.one (⟨n,ofL x⟩:uB) v hv) fun b w5 h=>?_
 refine h.ask (fun B2 own base2=>dR (s:=s2) (own (i:=1) rfl)) fun w6 h=>?_
 rw[V7,G5,R5]
 refine⟨fun c=>?_,fun c=>?_⟩
 ·rw[if_pos c,c] at k
  rw[h.r9 2 rfl S9 rfl]
  refine h.YG 0 rfl S9 rfl rfl (fun v hv=>Enc.one (⟨n,ofL x⟩:uB) v hv) fun w7 h=>?_
  rw[qJ h 0 rfl S9 rfl]
  exact k _ _ h.nil
 ·rw[if_neg (by rw[c];decide),c] at k
  rw[Nm0]
  refine h.YG 0 rfl S9 rfl rfl (fun v hv=>Enc.one (⟨0,⟨#[]⟩⟩:uB) v hv) fun w7 h=>?_
  rw[qJ h 0 rfl S9 rfl]
  exact k _ _ h.nil
theorem LF0(hB:qC B){c dp:Nat}{f:Int}{st:CS}(hv:st.value.size≤100000)(hc:O1 c U4 (ccs dp f st) B):Gives prog B (Z0 EU #[ptr c]) (.agg (vZ st).cs.toArray):=by
 refine Gives.intro fun B' w K base h k=>?_
 replace hB:=base hB
 replace hc:=base hc
 refine ZU.up ?_
 unfold ZU.pt
 refine h.alloc Ah0 fun t w1 h=>?_
 have h:Rel B' w1 [O1 t O5 (⟨0,0⟩:SN).cs.toArray]:=h
 refine h.ask (fun B2 own base2=>uE0 (base2 hc)) fun w2 h=>?_
 rw[M9,D9,V7,G5,K3]
 unfold vZ at k
 refine⟨fun c1=>?_,fun c1=>?_⟩
 case refine_2 =>
  rw[if_neg c1] at k
  rw[Lh0]
  refine h.YG 0 (ds:=(⟨0,-1⟩:SN).cs.toArray) rfl fC rfl rfl (fun v hv=>Enc.one (⟨0,-1⟩:SN) v hv) fun w7 h=>?_
  rw[qJ h 0 rfl fC rfl]
  exact k _ _ h.nil
 rw[if_pos c1] at k
 have e:Z0 S_ #[.string st.value]=Z0 S_ #[.string (ofL (bl st.value))]:=by rw[pO]
 rw[e]
 refine h.make (fun B2 own base2=>WT (t:=bl st.value)) fun u τ w2 hp h=>?_
 obtain⟨p,rfl,rfl⟩:=hp
 have hl:(bl st.value).length≤100000:=by rw[aP];exact hv
 have h1:(H5 ⟨bl st.value,false⟩).2.rest.length≤(bl st.value).length:=YD ⟨bl st.value,false⟩
 unfold IE0 at k
 refine h.rd_ 1 rfl (fun B2 own base2=>mD (base2 hB) (show (bl st.value).length≤_ by omega)) fun w3 h=>?_
 refine h.rd_ 1 rfl (fun B2 own base2=>mD (base2 hB) (by omega)) fun w4 h=>?_
 generalize (H5 ⟨bl st.value,false⟩).1=x at *
 generalize (H5 (H5 ⟨bl st.value,false⟩).2)=y at *
 rw[rQ]
 refine h.YG 0 (ds:=(⟨x,y.1⟩:SN).cs.toArray) rfl fC rfl rfl (fun v hv=>Enc.one (⟨x,y.1⟩:SN) v hv) fun w7 h=>?_
 rw[qJ h 0 rfl fC rfl]
 exact k _ _ h.nil
theorem fq0(hB:qC B){dp cp jp:Nat}{j:JP}(h0:JB dp cp jp j B)(hj:JOk j):Makes prog B (Z0 iQ #[ptr jp]) fun u τ=>τ=[Y3 X3 u (j.list.map IY)]:=by
 refine Makes.intro fun B' w K base h k=>?_
 replace hB:=base hB
 replace h0:=base h0
 refine xP.up ?_
 unfold xP.pt
 have hjf:=hj.form
 have hjb:=hj.bytes
 have hjc:=fP j.list
 refine h.make (fun B2 own base2=>RF0 (base2 h0) (by omega)) fun v τ w1 hp h=>?_
 subst hp
 have h:Rel B' w1 [Y3 M3 v (j.list.map ofL)]:=h
 have h:=h.VC uB X3
 have hml:(j.list.map ofL).length=j.list.length:=List.length_map ..
 rw[O4.len (Y3.read (h.here (i:=0) rfl)) K7,hml]
 refine F6 (fun z w'=>∃(i:Nat) (u:Value),i≤j.list.length∧z=(u,.int .i64 i,())∧Rel B' w' [Y3 M3 v (j.list.map ofL),Y3 X3 u ((j.list.take i).map IY)])
  (fun z _=>j.list.length-(match z.2.1 with | .int _ n=>n.toNat | _=>0)) ⟨0,_,Nat.zero_le _,rfl,h⟩ ?_
 clear h
 rintro z w2 ⟨i,u,hi,rfl,h⟩ next hnext
 simp -zeta only[G6,K3]
 refine⟨fun hlt=>?_,fun hge=>?_⟩
 case refine_2 =>
  have:i=j.list.length:=by omega
  subst this
  rw[List.take_length] at h
  exact k _ _ _ rfl (h.pick [1] (by decide))
 have hil:i<j.list.length:=by omega
 have hil2:i<(j.list.map ofL).length:=by omega
 obtain⟨g,o,hx,hc⟩:=O4.idx (Y3.read (h.here (i:=0) rfl)) K7 (P:=prog) hil2
 rw[hx,K6.ld0 hc U6 (v := .string (j.list.map ofL)[i]) rfl,List.getElem_map]
 clear hx hc
 have hlen:(j.list[i]).length≤16777216:=by
  have h1:(yB j.list[i]).length≤(H8 j.list).length:=by
   have:=QE yB j.list (i+1)
   rw[YW yB _ hil,List.length_append] at this
   show _≤(j.list.flatMap yB).length
   omega
  have h2:(j.list[i]).length≤(yB j.list[i]).length:=by unfold yB;simp only[List.length_append,List.length_cons];omega
  omega
 refine h.ask (fun B2 own base2=>jr0 (base2 hB) (s:=j.list[i]) (by omega)) fun w3 h=>?_
 rw[M9,D9]
 have htk:(j.list.take (i+1)).map IY=(j.list.take i).map IY++[IY j.list[i]]:=by
  rw[List.take_succ_eq_append_getElem hil,List.map_append]
  rfl
 have htl:((j.list.take i).map IY).length=i:=by rw[List.length_map,List.length_take];omega
 generalize IY j.list[i]=x at *
 refine h.R8 (ds:=x.cs.toArray) CL rfl S9 rfl (fun v hv=>Enc.one x v hv) fun b w5 h=>?_
 rw[h.r9 2 rfl S9 rfl]
 refine h.WS (α:=uB) 1 rfl x u6 (by decide) (by rw[htl];omega) (by rw[htl];omega) fun v' w14 h=>?_
 rw[Z5,E5 (by omega) (by omega)]
 refine hnext _ _ ⟨i+1,v',hil,rfl,?_⟩ (by simp only;omega)
 rw[htk]
 exact h.take 2
end
structure UpP where
 j:JP
 c:CS
 r:G8
structure UH where
 d:DS
 kv:Value
 up:Option UpP
noncomputable def Do0(s:DS):DS×(Option (JP×CS)×Int):=match rM s with
 | (s1,(none,e))=>(s1,(none,e))
 | (s1,(some j,_))=>match EQ s1 2 with
  | (none,e)=>(s1,(none,e))
  | (some c,_)=>(s1,(some (j,c),0))
noncomputable def dY(s:DS):DS×(Option (JP×CS)×Int):=if(L9 s 2).2≠0 then((L9 s 2).1,(none,(L9 s 2).2)) else Do0 (L9 s 2).1
noncomputable def rD0(id:Int)(j:JP)(c:CS):Option UpP:=if WY id (vZ c) (j.list.map IY) then some ⟨j,c,newR id (vZ c) (j.list.map IY)⟩ else none
noncomputable def upM(id:Int)(kv:Value)(s:DS):UH×Int:=match dY s with
 | (s1,(none,e))=>(⟨s1,kv,none⟩,e)
 | (s1,(some (j,c),_))=>(⟨s1,kv,rD0 id j c⟩,0)
structure MQ where
 dp:Nat
 jc:Nat
 jp:Nat
 cp:Nat
 rp:Nat
def Az0(q:MQ)(m:UH):List Dat:=match m.up with
 | none=>[Z6 q.dp m.d m.kv]
 | some u=>[Z6 q.dp m.d m.kv,JB q.dp q.jc q.jp u.j,O1 q.cp U4 (ccs q.dp 2 u.c),bA q.rp u.r]
def u_(q:MQ)(m:UH):Dat:=eF (Az0 q m)
def NB(cs:Array Value)(o:Nat)(q:MQ)(up:Bool):Prop :=
 cs.toList[o]? = some (ptr q.dp)∧if up=true then cs.toList[o+1]? = some (ptr q.jp)∧cs.toList[o+2]? = some (ptr q.cp)∧cs.toList[o+3]? = some (ptr q.rp) else(∃a,cs.toList[o+1]? = some (.pointer a))∧(∃b,cs.toList[o+2]? = some (.pointer b))∧cs.toList[o+3]? = some (.pointer none)
theorem NB.yes{cs:Array Value}{o:Nat}{q:MQ}(h0:cs.toList[o]? = some (ptr q.dp))(h1:cs.toList[o+1]? = some (ptr q.jp))(h2:cs.toList[o+2]? = some (ptr q.cp))(h3:cs.toList[o+3]? = some (ptr q.rp)):NB cs o q true:=⟨h0,by rw[if_pos rfl];exact⟨h1,h2,h3⟩⟩
theorem NB.no{cs:Array Value}{o:Nat}{q:MQ}(h0:cs.toList[o]? = some (ptr q.dp))(h1:∃a,cs.toList[o+1]? = some (.pointer a))(h2:∃b,cs.toList[o+2]? = some (.pointer b))(h3:cs.toList[o+3]? = some (.pointer none)):NB cs o q false:=⟨h0,by rw[if_neg (by decide)];exact⟨h1,h2,h3⟩⟩
def IC(cs cs':Array Value)(o:Nat):Prop:=cs'.size=cs.size∧∀k,(k<o∨o+4≤k)→cs'.toList[k]? = cs.toList[k]?
theorem IC.refl(cs:Array Value)(o:Nat):IC cs cs o:=⟨rfl,fun _ _=>rfl⟩
theorem IC.trans{a b c:Array Value}{o:Nat}(h:IC a b o)(h':IC b c o):IC a c o:=⟨h'.1.trans h.1,fun k hk=>(h'.2 k hk).trans (h.2 k hk)⟩
theorem IC.set{a b:Array Value}{o k:Nat}{v:Value}(h:IC a b o)(hk:o≤k∧k<o+4):IC a (b.setIfInBounds k v) o :=
 ⟨by rw[Array.size_setIfInBounds];exact h.1,fun i hi=>by
  rw[Array.toList_setIfInBounds,List.getElem?_set_ne (by omega)]
  exact h.2 i hi⟩
theorem XK{a:Array Value}{k:Nat}{v:Value}(hk:k<a.size):(a.setIfInBounds k v).toList[k]? = some v:=by
 rw[Array.toList_setIfInBounds,List.getElem?_set_self (by rw[Array.length_toList];exact hk)]
theorem Z_{a:Array Value}{k i:Nat}{v:Value}(h:i≠k):(a.setIfInBounds k v).toList[i]? = a.toList[i]? := by
 rw[Array.toList_setIfInBounds,List.getElem?_set_ne (by omega)]
theorem Eo0{s s':DS}{j:JP}{e:Int}(hd:DOk s)(h:rM s=(s',(some j,e))):JOk j∧e=0:=by
 unfold rM at h
 split at h
 ·cases h
 split at h
 ·cases h
 simp only[Prod.mk.injEq] at h
 obtain⟨_,h⟩:=h
 have hd2:DOk (L9 (L9 s 0).1 1).1:=(hd.L9 0).L9 1
 generalize (L9 (L9 s 0).1 1).1=s2 at *
 unfold uW at h
 split at h
 ·cases h
 unfold Bo0 at h
 split at h
 ·cases h
 split at h
 ·cases h
 split at h
 ·cases h
 split at h
 ·cases h
 rename_i c _ _ _ _ h3 h4
 have hrf:=Lg0 hd2 0 0 (VF c).1.1
 cases h
 refine⟨⟨?_,?_⟩,rfl⟩
 ·show 0≤(VF c).1.1∧(VF c).1.1≤16777216
  omega
 ·show ((H8 (vU (bl (LD s2 0 0 (VF c).1.1).1) (VF c).1.2).1).length:Int)=(VF c).1.1
  have h3:(vU (bl (LD s2 0 0 (VF c).1.1).1) (VF c).1.2).2=true:=by
   cases hq:(vU (bl (LD s2 0 0 (VF c).1.1).1) (VF c).1.2).2
   ·exact absurd hq h3
   ·rfl
  have hr:H8 (vU (bl (LD s2 0 0 (VF c).1.1).1) (VF c).1.2).1=bl (LD s2 0 0 (VF c).1.1).1:=by
   unfold vU at h3
   rw[Bool.and_eq_true,Bool.and_eq_true] at h3
   exact of_decide_eq_true h3.2.2
  rw[hr,aP]
  omega
section
variable {B:Base} {w:World} {σ τ:List Dat} {pg dp o:Nat} {s:DS} {kv:Value} {cs:Array Value} {K:PtK}
def fnV(F:FuncId)(cap:Array Value):SV:=⟨.func (.func F) #[] cap,rfl⟩
theorem Ln0{B:Base}{v:Value}{fs:List SV}(q:O4 v fs B)(h:Rel B w σ){i:Nat}(hi:i<fs.length){K:Value→Prop} :
  (M0 prog (I5 n_ v (.int .i64 i)) fun t10=>Y0 prog (X0 TA t10) w K)=K fs[i].1:=by
 obtain⟨g,o,hx,hc⟩:=O4.idx q IE (P:=prog) hi
 rw[hx,K6.ld0 (h.L6 hc) OZ (v:=fs[i].1) rfl]
theorem Vv0{s s':DS}{e:Int}(h:rM s=(s',(none,e))):e≠0:=by
 unfold rM at h
 split at h
 ·cases h;assumption
 split at h
 ·cases h;assumption
 simp only[Prod.mk.injEq] at h
 obtain⟨_,h⟩:=h
 unfold uW at h
 split at h
 ·rename_i hq
  cases h
  exact lb0 hq
 unfold Bo0 at h
 split at h
 ·cases h;decide
 split at h
 ·cases h;assumption
 split at h
 ·cases h;decide
 split at h
 ·cases h;decide
 cases h
theorem Lf0(s:DS):(rM s).1.keep=s.keep:=by
 unfold rM
 split
 ·exact cB s 0
 split
 ·exact(cB _ 1).trans (cB s 0)
 ·exact(cB _ 1).trans (cB s 0)
set_option maxHeartbeats 4000000 in
theorem kG0(hT:VT B)(hW:qC B)(hP:VI B)(r:O4 kv s.keep B)(hkl:s.keep.length≤1000000)(id:Int)(hcs:cs.size=14)(ho:o+4≤14)(hdp:cs.toList[o]? = some (ptr dp))(hp1:∃a,cs.toList[o+1]? = some (.pointer a))(hp2:∃b,cs.toList[o+2]? = some (.pointer b))(hup:cs.toList[o+3]? = some (.pointer none)) :
  Both prog B (O1 pg K4 cs) (Z6 dp s kv) (Z0 bH #[.pointer (some ⟨pg,o,none⟩),.int .i64 id]) fun u d1 d2=>u = .int .i64 (upM id kv s).2∧∃q cs',q.dp=dp∧d1=O1 pg K4 cs'∧d2=u_ q (upM id kv s).1∧NB cs' o q (upM id kv s).1.up.isSome∧IC cs cs' o:=by
 refine Both.intro fun B' w K base h k=>?_
 replace hT:=base hT
 replace hW:=base hW
 replace hP:=base hP
 replace r:=base r
 refine OJ.up ?_
 unfold OJ.pt
 have hdk:DOk s:=(Z6.ok (h.here (i:=1) rfl)).1
 refine h.box fun m2 w1 h=>?_
 have h:Rel B' w1 ([O1 pg K4 cs,Z6 dp s kv]++[O1 m2 Y5 #[.pointer (some ⟨pg,o,none⟩)]]):=h
 obtain⟨B2,ext2,h,hm2⟩:=h.On0
 have up2:∀{d:Dat},d B'→d B2:=fun hd=>Dat.mono _ ext2.le hd
 replace k:∀(u:Value) (d1 d2:Dat) (w':World),(u = .int .i64 (upM id kv s).2∧∃q cs',q.dp=dp∧d1=O1 pg K4 cs'∧d2=u_ q (upM id kv s).1∧NB cs' o q (upM id kv s).1.up.isSome∧IC cs cs' o)→Rel B2 w' [d1,d2]→K u w':=fun u d1 d2 w' hp h=>k u d1 d2 w' hp (ext2.rel h)
 replace hT:=up2 hT
 replace hW:=up2 hW
 replace hP:=up2 hP
 replace r:=up2 r
 clear up2 ext2 base
 refine h.alloc FX fun j5 w2 h=>?_
 refine h.alloc ri0 fun c6 w3 h=>?_
 have h:Rel B2 w3 [O1 pg K4 cs,Z6 dp s kv,O1 j5 I7 #[.pointer none],O1 c6 V8 #[.pointer none]]:=h
 rw[TI,TI,TI]
 refine h.NV ([fnV aD #[ptr m2],fnV bD #[ptr m2,ptr j5],fnV dD #[ptr m2,ptr c6]]:List SV) IE fun v w4 h=>?_
 obtain⟨B3,ext3,h,hrow⟩:=h.On0
 have up3:∀{d:Dat},d B2→d B3:=fun hd=>Dat.mono _ ext3.le hd
 replace k:∀(u:Value) (d1 d2:Dat) (w':World),(u = .int .i64 (upM id kv s).2∧∃q cs',q.dp=dp∧d1=O1 pg K4 cs'∧d2=u_ q (upM id kv s).1∧NB cs' o q (upM id kv s).1.up.isSome∧IC cs cs' o)→Rel B3 w' [d1,d2]→K u w':=fun u d1 d2 w' hp h=>k u d1 d2 w' hp (ext3.rel h)
 replace hT:=up3 hT
 replace hW:=up3 hW
 replace hP:=up3 hP
 replace r:=up3 r
 replace hm2:=up3 hm2
 clear up3 ext3
 replace hrow:=Y3.read hrow
 have main:∀K1:Value→World→Prop,
   (∀(s':DS) (e:Int) (w':World),e≠0→dY s=(s',(none,e))→Rel B3 w' [O1 pg K4 cs,Z6 dp s' kv]→K1 (.int .i64 e) w') →
   (∀(s':DS) (j:JP) (c:CS) (jc jp cp:Nat) (w':World),dY s=(s',(some (j,c),0))→JOk j→c.value.size≤65536→Rel B3 w' [O1 pg K4 cs,Z6 dp s' kv,O1 j5 I7 #[ptr jp],O1 c6 V8 #[ptr cp],JB dp jc jp j,O1 cp U4 (ccs dp 2 c)]→K1 (.int .i64 0) w') →
   upK prog (Z0 oP #[v]) w4 K1:=by
  intro K1 bad good
  clear k
  refine qN.up ?_
  unfold qN.pt
  rw[O4.len hrow IE]
  have i0:∀{Kp:Value→Prop} {w':World},Rel B3 w' []→(M0 prog (I5 n_ v (.int .i64 (0:Int))) fun t10=>Y0 prog (X0 TA t10) w' Kp)=Kp (fnV aD #[ptr m2]).1:=fun {Kp w'} h=>Ln0 hrow h (i:=0) (show 0<3 by omega)
  have i1:∀{Kp:Value→Prop} {w':World},Rel B3 w' []→(M0 prog (I5 n_ v (.int .i64 (1:Int))) fun t10=>Y0 prog (X0 TA t10) w' Kp)=Kp (fnV bD #[ptr m2,ptr j5]).1:=fun {Kp w'} h=>Ln0 hrow h (i:=1) (show 1<3 by omega)
  have i2:∀{Kp:Value→Prop} {w':World},Rel B3 w' []→(M0 prog (I5 n_ v (.int .i64 (2:Int))) fun t10=>Y0 prog (X0 TA t10) w' Kp)=Kp (fnV dD #[ptr m2,ptr c6]).1:=fun {Kp w'} h=>Ln0 hrow h (i:=2) (show 2<3 by omega)
  refine⟨4,?_⟩
  rw[iter,G6,K3]
  refine⟨fun _=>?_,fun c=>absurd (show (0:Int)<((3:Nat):Int) by decide) c⟩
  rw[i0 h.nil]
  refine YH (?_:upK prog (Z0 aD #[ptr m2]) w4 _)
  refine qH.up ?_
  unfold qH.pt
  rw[O1.ld (h.L6 hm2) I_ (o:=0) (v := .pointer (some ⟨pg,o,none⟩)) rfl]
  simp -zeta only[J5,U0 kF,Nat.add_zero]
  rw[h.ld 0 rfl H_ (o:=o) hdp]
  refine h.act 1 rfl (fun B2 own base2=>ga0 (base2 r) hkl 2) fun u e' τ w5 hp h=>?_
  obtain⟨rfl,rfl,rfl⟩:=hp
  have hk1:=cB s 2
  have hd1:=hdk.L9 2
  unfold dY at bad good
  generalize hs1:L9 s 2=x1 at *
  obtain⟨s1,e1⟩:=x1
  simp only at hk1 hd1 bad good h ⊢
  rw[Q7,G5,K3]
  refine⟨fun c=>?_,fun c=>bad s1 e1 _ c (by rw[if_pos c]) (h.take 2)⟩
  subst c
  rw[if_neg (fun hh=>hh rfl)] at bad good
  rw[Z5,E5 (by omega) (by omega)]
  rw[iter,G6,K3]
  refine⟨fun _=>?_,fun c=>absurd (show (0+1:Int)<((3:Nat):Int) by decide) c⟩
  rw[show (0+1:Int)=1 from rfl,i1 h.nil]
  refine YH (?_:upK prog (Z0 bD #[ptr m2,ptr j5]) w5 _)
  refine rH.up ?_
  unfold rH.pt
  rw[O1.ld (h.L6 hm2) I_ (o:=0) (v := .pointer (some ⟨pg,o,none⟩)) rfl]
  simp -zeta only[J5,U0 kF,Nat.add_zero]
  rw[h.ld 0 rfl H_ (o:=o) hdp]
  rw[←hk1] at r hkl
  refine h.act 1 rfl (fun B2 own base2=>fD0 (base2 hT) (base2 hW) (base2 hP) (base2 r) hkl) fun u e' τ w6 hp h=>?_
  obtain⟨rfl,hp⟩:=hp
  have hk2:=Lf0 s1
  unfold Do0 at bad good
  cases hoj:rM s1 with
  | mk s2 oe =>
  obtain⟨oj,e2⟩:=oe
  rw[hoj] at hp h hk2 bad good
  simp only at hp h hk2 bad good
  cases oj with
  | none =>
   simp only at hp bad
   obtain⟨rfl,rfl⟩:=hp
   rw[M9,D9]
   refine h.st 2 rfl R7 (o:=0) (show 0<1 by omega) rfl fun w7 h=>?_
   rw[Q7,G5,K3]
   exact⟨fun c=>absurd c (Vv0 hoj),fun c=>bad s2 e2 _ c rfl (h.take 2)⟩
  | some j =>
   simp only at hp bad good
   obtain⟨jc,jp,rfl,rfl⟩:=hp
   obtain⟨hjok,he2⟩:=Eo0 hd1 hoj
   subst he2
   rw[M9,D9]
   refine h.st 2 rfl R7 (o:=0) (show 0<1 by omega) rfl fun w7 h=>?_
   have h:Rel B3 w7 [O1 pg K4 cs,Z6 dp s2 kv,O1 j5 I7 #[ptr jp],O1 c6 V8 #[.pointer none],JB dp jc jp j]:=h
   rw[Q7,G5,K3]
   refine⟨fun _=>?_,fun c=>absurd rfl c⟩
   rw[Z5,E5 (by omega) (by omega)]
   rw[iter,G6,K3]
   refine⟨fun _=>?_,fun c=>absurd (show (1+1:Int)<((3:Nat):Int) by decide) c⟩
   rw[show (1+1:Int)=2 from rfl,i2 h.nil]
   refine YH (?_:upK prog (Z0 dD #[ptr m2,ptr c6]) w7 _)
   refine sH.up ?_
   unfold sH.pt
   rw[O1.ld (h.L6 hm2) I_ (o:=0) (v := .pointer (some ⟨pg,o,none⟩)) rfl]
   simp -zeta only[J5,U0 kF,Nat.add_zero]
   rw[h.ld 0 rfl H_ (o:=o) hdp]
   refine h.make (fun B2 own base2=>qs0 (base2 hT) (own (i:=1) rfl) 2) fun u τ w8 hp h=>?_
   rcases hp with⟨cp,st,hos,rfl,rfl⟩ | ⟨hos,rfl,rfl⟩
   case inr =>
    cases hq:EQ s2 2 with
    | mk a e3 =>
    rw[hq] at hos bad
    simp only at hos
    subst hos
    simp only at bad ⊢
    rw[M9,D9]
    refine h.st 3 rfl p9 (o:=0) (show 0<1 by omega) rfl fun w9 h=>?_
    rw[Q7,G5,K3]
    exact⟨fun c=>absurd c (lb0 hq),fun c=>bad s2 e3 _ c rfl (h.take 2)⟩
   rw[hos] at good
   simp only at good
   rw[M9,D9]
   refine h.st 3 rfl p9 (o:=0) (show 0<1 by omega) rfl fun w9 h=>?_
   rw[Q7,G5,K3]
   refine⟨fun _=>?_,fun c=>absurd rfl c⟩
   rw[Z5,E5 (by omega) (by omega)]
   rw[iter,G6,K3]
   refine⟨fun c=>absurd c (show ¬(2+1:Int)<((3:Nat):Int) by decide),fun _=>?_⟩
   exact good s2 j st jc jp cp _ rfl hjok (tj0 hos) h
 unfold upM at k
 refine main _ (fun s' e w' he hu h=>?_) (fun s' j c jc jp cp w' hu hj hcv h=>?_)
 ·clear main
  rw[hu] at k
  simp only at k
  refine P6 fun J hJ=>?_
  rw[F7,K3]
  refine⟨fun c=>absurd c he,fun _=>hJ _ _ ?_⟩
  have h:Rel B3 w' ([O1 pg K4 cs]++[Z6 dp s' kv]):=h
  exact k _ _ _ _ ⟨rfl,⟨dp,0,0,0,0⟩,cs,rfl,rfl,rfl,NB.no hdp hp1 hp2 hup,IC.refl _ _⟩ h.iU
 clear main
 rw[hu] at k
 simp only at k
 refine P6 fun J hJ=>?_
 rw[F7,K3]
 refine⟨fun _=>?_,fun c=>absurd rfl c⟩
 have h:=h.tick
 generalize tick w'=w' at *
 have im:∀{w':World} {σ:List Dat},Rel B3 w' σ→Is prog (X0 Y5 (.pointer (some ⟨m2,0,none⟩))) (.pointer (some ⟨pg,o,none⟩)) w':=fun h=>O1.is (h.L6 hm2) I_ (o:=0) rfl
 rw[O1.ld (h.L6 hm2) I_ (o:=0) (v := .pointer (some ⟨pg,o,none⟩)) rfl]
 rw[O1.ld (h.L6 hm2) I_ (o:=0) (v := .pointer (some ⟨pg,o,none⟩)) rfl]
 rw[O1.ld (h.L6 hm2) I_ (o:=0) (v := .pointer (some ⟨pg,o,none⟩)) rfl]
 rw[h.ld 2 rfl R7 (o:=0) (v:=ptr jp) rfl]
 rw[h.ld 3 rfl p9 (o:=0) (v:=ptr cp) rfl]
 rw[h.ld 3 rfl p9 (o:=0) (v:=ptr cp) rfl]
 rw[h.ld 2 rfl R7 (o:=0) (v:=ptr jp) rfl]
 refine h.ask (fun B2 own base2=>LF0 (base2 hW) (st:=c) (by omega) (own (i:=5) rfl)) fun w1 h=>?_
 refine⟨h.is 2 rfl R7 (o:=0) rfl,h.is 3 rfl p9 (o:=0) rfl,h.is 2 rfl R7 (o:=0) rfl,im h,im h,im h,?_⟩
 refine h.make (fun B2 own base2=>fq0 (base2 hW) (own (i:=4) rfl) hj) fun u τ w2 hp h=>?_
 subst hp
 refine⟨h.is 3 rfl p9 (o:=0) rfl,h.is 2 rfl R7 (o:=0) rfl,im h,im h,im h,?_⟩
 have hfc:=fP j.list
 have hjf:=hj.form
 have hjb:=hj.bytes
 have hll:(j.list.map IY).length≤1000000000:=by rw[List.length_map];omega
 refine h.make (fun B2 own base2=>Sz0 id (vZ c) (Y3.read (own (i:=6) rfl)) hll) fun rv τ w3 hp h=>?_
 unfold rD0 at k
 simp -zeta only[J5,U0 gI,U0 dP,U0 lF]
 have hels:∀(rv:Value),IC cs (((cs.setIfInBounds (o+1) (ptr jp)).setIfInBounds (o+2) (ptr cp)).setIfInBounds (o+3) rv) o:=fun rv=>(((IC.refl cs o).set (by omega)).set (by omega)).set (by omega)
 have a0:∀(rv:Value),(((cs.setIfInBounds (o+1) (ptr jp)).setIfInBounds (o+2) (ptr cp)).setIfInBounds (o+3) rv).toList[o]? = some (ptr dp):=fun rv=>by
  rw[Z_ (by omega),Z_ (by omega),Z_ (by omega)];exact hdp
 have a1:∀(rv:Value),(((cs.setIfInBounds (o+1) (ptr jp)).setIfInBounds (o+2) (ptr cp)).setIfInBounds (o+3) rv).toList[o+1]? = some (ptr jp):=fun rv=>by
  rw[Z_ (by omega),Z_ (by omega),XK (by omega)]
 have a2:∀(rv:Value),(((cs.setIfInBounds (o+1) (ptr jp)).setIfInBounds (o+2) (ptr cp)).setIfInBounds (o+3) rv).toList[o+2]? = some (ptr cp):=fun rv=>by
  rw[Z_ (by omega),XK (by rw[Array.size_setIfInBounds];omega)]
 have a3:∀(rv:Value),(((cs.setIfInBounds (o+1) (ptr jp)).setIfInBounds (o+2) (ptr cp)).setIfInBounds (o+3) rv).toList[o+3]? = some rv:=fun rv=>by
  rw[XK (by rw[Array.size_setIfInBounds,Array.size_setIfInBounds];omega)]
 by_cases ok:WY id (vZ c) (j.list.map IY)
 ·rw[if_pos ok] at hp k
  obtain⟨rp,rfl,rfl⟩:=hp
  refine⟨h.is 3 rfl p9 (o:=0) rfl,h.is 2 rfl R7 (o:=0) rfl,im h,im h,im h,?_⟩
  refine h.st 0 rfl R7 (o:=o+1) (by omega) rfl fun w4 h=>?_
  refine⟨h.is 3 rfl p9 (o:=0) rfl,im h,im h,?_⟩
  refine h.st 0 rfl p9 (o:=o+2) (by rw[Array.size_setIfInBounds];omega) rfl fun w5 h=>?_
  refine⟨im h,?_⟩
  refine h.st 0 rfl P8 (o:=o+3) (by rw[Array.size_setIfInBounds,Array.size_setIfInBounds];omega) rfl fun w6 h=>?_
  refine hJ _ _ ?_
  have h:Rel B3 w6 ([O1 pg K4 (((cs.setIfInBounds (o+1) (ptr jp)).setIfInBounds (o+2) (ptr cp)).setIfInBounds (o+3) (ptr rp))]++[Z6 dp s' kv,JB dp jc jp j,O1 cp U4 (ccs dp 2 c),bA rp (newR id (vZ c) (j.list.map IY))]):=h.pick [0,1,4,5,7] (by decide)
  exact k _ _ _ _ ⟨rfl,⟨dp,jc,jp,cp,rp⟩,_,rfl,rfl,rfl,NB.yes (a0 _) (a1 _) (a2 _) (a3 _),hels _⟩ h.iU
 ·rw[if_neg ok] at hp k
  obtain⟨rfl,rfl⟩:=hp
  refine⟨h.is 3 rfl p9 (o:=0) rfl,h.is 2 rfl R7 (o:=0) rfl,im h,im h,im h,?_⟩
  refine h.st 0 rfl R7 (o:=o+1) (by omega) rfl fun w4 h=>?_
  refine⟨h.is 3 rfl p9 (o:=0) rfl,im h,im h,?_⟩
  refine h.st 0 rfl p9 (o:=o+2) (by rw[Array.size_setIfInBounds];omega) rfl fun w5 h=>?_
  refine⟨im h,?_⟩
  refine h.st 0 rfl P8 (o:=o+3) (by rw[Array.size_setIfInBounds,Array.size_setIfInBounds];omega) rfl fun w6 h=>?_
  refine hJ _ _ ?_
  have h:Rel B3 w6 ([O1 pg K4 (((cs.setIfInBounds (o+1) (ptr jp)).setIfInBounds (o+2) (ptr cp)).setIfInBounds (o+3) (.pointer none))]++[Z6 dp s' kv]):=h.pick [0,1] (by decide)
  exact k _ _ _ _ ⟨rfl,⟨dp,0,0,0,0⟩,_,rfl,rfl,rfl,NB.no (a0 _) ⟨_,a1 _⟩ ⟨_,a2 _⟩ (a3 _),hels _⟩ h.iU
end
def YL(m:UH)(u:UpP)(o:vE):(DS×CS)×Int:=if o.save=true then EX m.d u.c 2 (UT o.hard.term o.hard.vote) else((m.d,u.c),0)
def IW(s:DS)(j:JP)(o:vE):(DS×JP)×Int :=
 if(PV s j (min (o.from_-1) j.list.length)).2≠0 then PV s j (min (o.from_-1) j.list.length)
 else IJ (PV s j (min (o.from_-1) j.list.length)).1.1 (PV s j (min (o.from_-1) j.list.length)).1.2 (o.recs.map d9)
def vS(s:DS)(j:JP)(e:Int)(o:vE):(DS×JP)×Int:=if e=0∧0<o.from_ then IW s j o else((s,j),e)
def om0(m:UH)(u:UpP)(c:CS)(x:(DS×JP)×Int):UH×Int:=if x.2≠0 then(⟨x.1.1,m.kv,none⟩,x.2) else(⟨x.1.1,m.kv,some ⟨x.1.2,c,u.r⟩⟩,0)
def XE(m:UH)(u:UpP)(o:vE):UH×Int:=om0 m u (YL m u o).1.2 (vS (YL m u o).1.1 u.j (YL m u o).2 o)
structure TB0 (o:vE):Prop where
 hard:inI o.hard.term∧inI o.hard.vote
 from_:o.from_≤1000000
 few:o.recs.length≤100
 recs:∀x∈o.recs,MR x
theorem yo0{s:DS}{j:JP}{b n:Int}(hj:JOk j):JOk (FL s j b n).1.2:=⟨hj.bytes,hj.form⟩
theorem Dk0{s:DS}{j:JP}{n:Int}(hj:JOk j):JOk (PV s j n).1.2:=by
 unfold PV
 split
 ·exact hj
 split
 ·exact hj
 split
 ·exact hj
 split
 ·refine⟨?_,rfl⟩
  have:=uZ j.list n.toNat
  have h1:=hj.bytes
  have h2:=hj.form
  show 0≤((H8 (j.list.take n.toNat)).length:Int)∧((H8 (j.list.take n.toNat)).length:Int)≤16777216
  omega
 ·exact yo0 hj
theorem Ge0{s:DS}{j:JP}{l:List Bs}(hj:JOk j):JOk (IJ s j l).1.2:=by
 unfold IJ
 split
 ·exact hj
 split
 ·exact hj
 split
 ·exact hj
 rename_i h3
 split
 ·unfold dZ
  split
  ·have h1:=hj.bytes
   have h2:=hj.form
   refine⟨?_,?_⟩
   ·show 0≤j.bytes+((H8 l).length:Int)∧j.bytes+((H8 l).length:Int)≤16777216
    omega
   ·show ((H8 (j.list++l)).length:Int)=j.bytes+((H8 l).length:Int)
    unfold H8 at h2 ⊢
    rw[List.flatMap_append,List.length_append]
    omega
  ·exact yo0 hj
 ·exact⟨hj.bytes,hj.form⟩
theorem dX(s:DS)(j:JP)(b n:Int):(FL s j b n).1.1.keep=s.keep:=Ti0 _ _ _ _
theorem Ka0(s:DS)(j:JP)(n:Int):(PV s j n).1.1.keep=s.keep:=by
 unfold PV
 split
 ·rfl
 split
 ·rfl
 split
 ·rfl
 split
 ·exact dX _ _ _ _
 ·exact dX _ _ _ _
theorem Mf0(s:DS)(j:JP)(t:ByteArray):(wsJ s j t).1.keep=s.keep:=by
 unfold wsJ
 split
 ·exact(cB _ _).trans (GG _ _ _ _)
 ·exact GG _ _ _ _
theorem ll0(s:DS)(j:JP)(l:List Bs):(IJ s j l).1.1.keep=s.keep:=by
 unfold IJ
 split
 ·rfl
 split
 ·rfl
 split
 ·rfl
 split
 ·unfold dZ
  split
  ·exact(dX _ _ _ _).trans (Mf0 _ _ _)
  ·exact(dX _ _ _ _).trans (Mf0 _ _ _)
 ·exact Mf0 _ _ _
theorem Dc0(m:UH)(u:UpP)(o:vE):(YL m u o).1.1.keep=m.d.keep:=by
 unfold YL
 split
 ·exact Ti0 _ _ _ _
 ·rfl
section
variable {B:Base} {w:World} {σ τ:List Dat} {pg o:Nat} {q:MQ} {m:UH} {cs:Array Value} {K:PtK}
theorem EG0(hcs:cs.size=14)(ho:o+4≤14):Does prog B (O1 pg K4 cs) (Z0 IL #[.pointer (some ⟨pg,o,none⟩)]) fun _ e' τ=>τ=[]∧∃cs',e'=O1 pg K4 cs'∧IC cs cs' o∧cs'.toList[o]? = cs.toList[o]? ∧ cs'.toList[o+1]? = some (.pointer none)∧cs'.toList[o+2]? = some (.pointer none)∧cs'.toList[o+3]? = some (.pointer none):=by
 refine Does.intro fun B' w K base h k=>?_
 refine QJ.up ?_
 unfold QJ.pt
 simp -zeta only[J5,U0 gI,U0 dP,U0 lF]
 refine h.st 0 rfl R7 (o:=o+1) (by omega) rfl fun w4 h=>?_
 refine h.st 0 rfl p9 (o:=o+2) (by rw[Array.size_setIfInBounds];omega) rfl fun w5 h=>?_
 refine h.st 0 rfl P8 (o:=o+3) (by rw[Array.size_setIfInBounds,Array.size_setIfInBounds];omega) rfl fun w6 h=>?_
 refine k _ _ [] _ ⟨rfl,_,rfl,(((IC.refl cs o).set (by omega)).set (by omega)).set (by omega),?_,?_,?_,?_⟩ h
 ·rw[Z_ (by omega),Z_ (by omega),Z_ (by omega)]
 ·rw[Z_ (by omega),Z_ (by omega),XK (by omega)]
 ·rw[Z_ (by omega),XK (by rw[Array.size_setIfInBounds];omega)]
 ·rw[XK (by rw[Array.size_setIfInBounds,Array.size_setIfInBounds];omega)]
theorem NB.at0{up:Bool}(h:NB cs o q up):cs.toList[o]? = some (ptr q.dp):=h.1
theorem NB.at1(h:NB cs o q true):cs.toList[o+1]? = some (ptr q.jp):=by have:=h.2;rw[if_pos rfl] at this;exact this.1
theorem NB.at2(h:NB cs o q true):cs.toList[o+2]? = some (ptr q.cp):=by have:=h.2;rw[if_pos rfl] at this;exact this.2.1
theorem NB.at3(h:NB cs o q true):cs.toList[o+3]? = some (ptr q.rp):=by have:=h.2;rw[if_pos rfl] at this;exact this.2.2
theorem NB.fG0(h:NB cs o q false):cs.toList[o+3]? = some (.pointer none):=by have:=h.2;rw[if_neg (by decide)] at this;exact this.2.2
theorem NB.UH0(h:NB cs o q false):∃a,cs.toList[o+1]? = some (.pointer a):=by have:=h.2;rw[if_neg (by decide)] at this;exact this.1
theorem NB.VH0(h:NB cs o q false):∃a,cs.toList[o+2]? = some (.pointer a):=by have:=h.2;rw[if_neg (by decide)] at this;exact this.2.1
set_option maxHeartbeats 4000000 in
theorem QD0(hT:VT B)(hP:VI B)(r:O4 m.kv m.d.keep B)(hkl:m.d.keep.length≤1000000){u:UpP}(hu:m.up=some u)(hj:JOk u.j)(hcs:cs.size=14)(ho:o+4≤14)(hat:NB cs o q true){out:vE}{rv sv:SV}(hf:TB0 out)(qr:O4 rv.1 out.recs B) :
  Both prog B (O1 pg K4 cs) (u_ q m) (Z0 lK #[.pointer (some ⟨pg,o,none⟩),.agg (f_ out rv.1 sv.1)]) fun v d1 d2=>v = .int .i64 (XE m u out).2∧∃cs',d1=O1 pg K4 cs'∧d2=u_ q (XE m u out).1∧NB cs' o q (XE m u out).1.up.isSome∧IC cs cs' o:=by
 refine Both.intro fun B' w K base h k=>?_
 replace hT:=base hT
 replace hP:=base hP
 replace r:=base r
 replace qr:=base qr
 refine NI.up ?_
 unfold NI.pt
 refine h.box fun m2 w1 h=>?_
 have h:Rel B' w1 ([O1 pg K4 cs,u_ q m]++[O1 m2 Y5 #[.pointer (some ⟨pg,o,none⟩)]]):=h
 obtain⟨B2,ext2,h,hm2⟩:=h.On0
 have up2:∀{d:Dat},d B'→d B2:=fun hd=>Dat.mono _ ext2.le hd
 replace k:∀(v:Value) (d1 d2:Dat) (w':World),(v = .int .i64 (XE m u out).2∧∃cs',d1=O1 pg K4 cs'∧d2=u_ q (XE m u out).1∧NB cs' o q (XE m u out).1.up.isSome∧IC cs cs' o)→Rel B2 w' [d1,d2]→K v w':=fun v d1 d2 w' hp h=>k v d1 d2 w' hp (ext2.rel h)
 replace hT:=up2 hT
 replace hP:=up2 hP
 replace r:=up2 r
 replace qr:=up2 qr
 clear up2 ext2 base
 refine h.box fun o3 w2 h=>?_
 have h:Rel B2 w2 ([O1 pg K4 cs,u_ q m]++[O1 o3 F3 (f_ out rv.1 sv.1)]):=h
 obtain⟨B3,ext3,h,ho3⟩:=h.On0
 have up3:∀{d:Dat},d B2→d B3:=fun hd=>Dat.mono _ ext3.le hd
 replace k:∀(v:Value) (d1 d2:Dat) (w':World),(v = .int .i64 (XE m u out).2∧∃cs',d1=O1 pg K4 cs'∧d2=u_ q (XE m u out).1∧NB cs' o q (XE m u out).1.up.isSome∧IC cs cs' o)→Rel B3 w' [d1,d2]→K v w':=fun v d1 d2 w' hp h=>k v d1 d2 w' hp (ext3.rel h)
 replace hT:=up3 hT
 replace hP:=up3 hP
 replace r:=up3 r
 replace qr:=up3 qr
 replace hm2:=up3 hm2
 clear up3 ext3
 have h:Rel B3 w2 [u_ q m,O1 pg K4 cs]:=h.pick [1,0] (by decide)
 unfold u_ Az0 at h
 rw[hu] at h
 have h:=Rel.nS h
 have h:Rel B3 w2 [Z6 q.dp m.d m.kv,JB q.dp q.jc q.jp u.j,O1 q.cp U4 (ccs q.dp 2 u.c),bA q.rp u.r,O1 pg K4 cs]:=h
 have ldm:∀{Kp:Value→Prop} {w':World} {σ:List Dat},Rel B3 w' σ→Y0 prog (X0 Y5 (.pointer (some ⟨m2,0,none⟩))) w' Kp=Kp (.pointer (some ⟨pg,o,none⟩)):=fun h=>O1.ld (h.L6 hm2) I_ (o:=0) rfl
 have im:∀{w':World} {σ:List Dat},Rel B3 w' σ→Is prog (X0 Y5 (.pointer (some ⟨m2,0,none⟩))) (.pointer (some ⟨pg,o,none⟩)) w':=fun h=>O1.is (h.L6 hm2) I_ (o:=0) rfl
 have hfh:=hf.hard
 refine P6 fun J1 hJ1=>?_
 unfold XE at k
 have hk1:=Dc0 m u out
 replace hJ1:∀w',Rel B3 w' [Z6 q.dp (YL m u out).1.1 m.kv,JB q.dp q.jc q.jp u.j,O1 q.cp U4 (ccs q.dp 2 (YL m u out).1.2),bA q.rp u.r,O1 pg K4 cs]→J1 (.int .i64 (YL m u out).2,()) w':=by
  intro w' h
  refine hJ1 _ _ ?_
  clear hJ1
  generalize YL m u out=x1 at *
  obtain⟨⟨s1,c1⟩,e1⟩:=x1
  simp only at h hk1 k ⊢
  rw[←hk1] at r hkl
  refine P6 fun J2 hJ2=>?_
  replace hJ2:∀w',Rel B3 w' [Z6 q.dp (vS s1 u.j e1 out).1.1 m.kv,JB q.dp q.jc q.jp (vS s1 u.j e1 out).1.2,O1 q.cp U4 (ccs q.dp 2 c1),bA q.rp u.r,O1 pg K4 cs]→J2 (.int .i64 (vS s1 u.j e1 out).2,()) w':=by
   intro w' h
   refine hJ2 _ _ ?_
   clear hJ2
   generalize vS s1 u.j e1 out=x2 at *
   obtain⟨⟨s2,j2⟩,e2⟩:=x2
   unfold om0 at k
   simp only at h k ⊢
   refine P6 fun J3 hJ3=>?_
   rw[Q7,G5,K3]
   refine⟨fun c=>?_,fun c=>?_⟩
   ·subst c
    rw[if_neg (fun hh=>hh rfl)] at k
    refine hJ3 _ _ ?_
    have h:=h.pick [4,0,1,2,3] (by decide)
    have h:Rel B3 w' ([O1 pg K4 cs]++[Z6 q.dp s2 m.kv,JB q.dp q.jc q.jp j2,O1 q.cp U4 (ccs q.dp 2 c1),bA q.rp u.r]):=h
    exact k _ _ _ _ ⟨rfl,cs,rfl,rfl,hat,IC.refl _ _⟩ h.iU
   ·rw[if_pos c] at k
    rw[ldm h]
    refine h.act 4 rfl (fun B2 own base2=>EG0 hcs ho) fun u2 e' τ w5 hp h=>?_
    obtain⟨rfl,cs',rfl,h1,h2,h4,h5,h3⟩:=hp
    refine hJ3 _ _ ?_
    have h:Rel B3 w5 ([O1 pg K4 cs']++[Z6 q.dp s2 m.kv]):=h.pick [4,0] (by decide)
    exact k _ _ _ _ ⟨rfl,cs',rfl,rfl,NB.no (h2.trans hat.at0) ⟨_,h4⟩ ⟨_,h5⟩ h3,h1⟩ h.iU
  clear k
  unfold vS at hJ2
  rw[F7,K3]
  refine⟨fun c=>?_,fun c=>?_⟩
  case refine_2=>rw[if_neg (fun hh=>c hh.1)] at hJ2;exact hJ2 _ h
  subst c
  simp -zeta only[U0 YV,U0 Ac0,Nat.zero_add]
  rw[O1.ld (h.L6 ho3) Y2 (o:=3) (v := .int .i64 out.from_) rfl,x9,K3]
  refine⟨fun c=>?_,fun c=>?_⟩
  case refine_2=>rw[if_neg (fun hh=>c hh.2)] at hJ2;exact hJ2 _ h
  rw[if_pos ⟨rfl,c⟩] at hJ2
  refine h.alloc Ur0 fun l6 w3 h=>?_
  have h:=h.VC ByteArray M3
  have h:Rel B3 w3 [Z6 q.dp s1 m.kv,JB q.dp q.jc q.jp u.j,O1 q.cp U4 (ccs q.dp 2 c1),bA q.rp u.r,O1 pg K4 cs,O1 l6 Z4 #[.slice none 0 0],Y3 M3 (.slice none 0 0) ([]:List ByteArray)]:=h
  rw[O1.ld (h.L6 ho3) X5 (o:=4) (v:=rv.1) rfl,O4.len qr u6]
  have hff:=hf.from_
  have hfw:=hf.few
  refine F6 (fun z w'=>∃(i:Nat) (v:Value),i≤out.recs.length∧z=(.int .i64 i,())∧Rel B3 w' [Z6 q.dp s1 m.kv,JB q.dp q.jc q.jp u.j,O1 q.cp U4 (ccs q.dp 2 c1),bA q.rp u.r,O1 pg K4 cs,O1 l6 Z4 #[v],Y3 M3 v (((out.recs.take i).map d9).map ofL)])
   (fun z _=>out.recs.length-(match z.1 with | .int _ n=>n.toNat | _=>0)) ⟨0,_,Nat.zero_le _,rfl,h⟩ ?_
  clear h
  rintro z w4 ⟨i,v,hi,rfl,h⟩ next hnext
  rw[G6,K3]
  refine⟨fun hlt=>?_,fun hge=>?_⟩
  ·have hil:i<out.recs.length:=by omega
   obtain⟨g,og,hx,hc⟩:=O4.idx qr u6 (P:=prog) hil
   have hc:K6 g og out.recs[i].cs B3:=hc
   rw[hx,K6.r9 (h.L6 hc) S9 rfl]
   clear hx hc
   have hfx:=hf.recs _ (List.getElem_mem hil)
   have htk:((out.recs.take (i+1)).map d9).map ofL=((out.recs.take i).map d9).map ofL++[ofL (d9 out.recs[i])]:=by
    rw[List.take_succ_eq_append_getElem hil,List.map_append,List.map_append]
    rfl
   have htl:(((out.recs.take i).map d9).map ofL).length=i:=by rw[List.length_map,List.length_map,List.length_take];omega
   generalize out.recs[i]=x at *
   refine h.R8 (ds:=x.cs.toArray) CL rfl S9 rfl (fun v hv=>Enc.one x v hv) fun b w5 h=>?_
   have h:=h.tick
   generalize tick w5=w5 at *
   rw[h.ld 5 rfl K9 (o:=0) (v:=v) rfl,h.r9 7 rfl S9 rfl]
   refine h.ask (fun B2 own base2=>Mg0 (base2 hP) hfx) fun w6 h=>?_
   refine⟨h.is 5 rfl K9 (o:=0) rfl,?_⟩
   refine h.XH (α:=ByteArray) (ofL (d9 x)) K7 (by decide) fun v1 w7 h=>?_
   refine⟨h.is 5 rfl K9 (o:=0) rfl,?_⟩
   refine h.append (α:=ByteArray) 6 rfl K7 (Rd.at 8 rfl) (by rw[htl];show (i+1) * _≤_;omega) (by rw[htl];show i+1≤_;omega) fun v2 w8 h=>?_
   have hv2:v2.oneCell'=true:=h.oneCell (i:=6) rfl
   refine h.st 5 rfl K9 (o:=0) (show 0<1 by omega) hv2 fun w9 h=>?_
   rw[Z5,E5 (by omega) (by omega)]
   refine hnext _ _ ⟨i+1,v2,hil,rfl,?_⟩ (by simp only;omega)
   rw[htk]
   exact h.take 7
  have:i=out.recs.length:=by omega
  subst this
  clear hnext hge
  rw[List.take_length] at h
  rw[TI,TI]
  refine h.NV ([fnV vB #[ptr m2,ptr o3],fnV wB #[ptr m2,ptr l6]]:List SV) IE fun fv w5 h=>?_
  have h:Rel B3 w5 ([Z6 q.dp s1 m.kv,JB q.dp q.jc q.jp u.j,O1 q.cp U4 (ccs q.dp 2 c1),bA q.rp u.r,O1 pg K4 cs,O1 l6 Z4 #[v],Y3 M3 v ((out.recs.map d9).map ofL)]++[Y3 TA fv [fnV vB #[ptr m2,ptr o3],fnV wB #[ptr m2,ptr l6]]]):=h
  obtain⟨B4,ext4,h,hrow⟩:=h.On0
  have up4:∀{d:Dat},d B3→d B4:=fun hd=>Dat.mono _ ext4.le hd
  replace hJ2:∀w',Rel B4 w' [Z6 q.dp (IW s1 u.j out).1.1 m.kv,JB q.dp q.jc q.jp (IW s1 u.j out).1.2,O1 q.cp U4 (ccs q.dp 2 c1),bA q.rp u.r,O1 pg K4 cs]→J2 (.int .i64 (IW s1 u.j out).2,()) w':=fun w' h=>hJ2 w' (ext4.rel h)
  replace hT:=up4 hT
  replace hP:=up4 hP
  replace r:=up4 r
  replace hm2:=up4 hm2
  replace ho3:=up4 ho3
  clear up4 ext4 ldm im
  replace hrow:=Y3.read hrow
  unfold IW at hJ2
  refine qN.up ?_
  unfold qN.pt
  rw[O4.len hrow IE]
  have i0:∀{Kp:Value→Prop} {w':World},Rel B4 w' []→(M0 prog (I5 n_ fv (.int .i64 (0:Int))) fun t10=>Y0 prog (X0 TA t10) w' Kp)=Kp (fnV vB #[ptr m2,ptr o3]).1:=fun {Kp w'} h=>Ln0 hrow h (i:=0) (show 0<2 by omega)
  have i1:∀{Kp:Value→Prop} {w':World},Rel B4 w' []→(M0 prog (I5 n_ fv (.int .i64 (1:Int))) fun t10=>Y0 prog (X0 TA t10) w' Kp)=Kp (fnV wB #[ptr m2,ptr l6]).1:=fun {Kp w'} h=>Ln0 hrow h (i:=1) (show 1<2 by omega)
  have ldm:∀{Kp:Value→Prop} {w':World} {σ:List Dat},Rel B4 w' σ→Y0 prog (X0 Y5 (.pointer (some ⟨m2,0,none⟩))) w' Kp=Kp (.pointer (some ⟨pg,o,none⟩)):=fun h=>O1.ld (h.L6 hm2) I_ (o:=0) rfl
  have im:∀{w':World} {σ:List Dat},Rel B4 w' σ→Is prog (X0 Y5 (.pointer (some ⟨m2,0,none⟩))) (.pointer (some ⟨pg,o,none⟩)) w':=fun h=>O1.is (h.L6 hm2) I_ (o:=0) rfl
  refine⟨3,?_⟩
  rw[iter,G6,K3]
  refine⟨fun _=>?_,fun c=>absurd (show (0:Int)<((2:Nat):Int) by decide) c⟩
  rw[i0 h.nil]
  refine YH (?_:upK prog (Z0 vB #[ptr m2,ptr o3]) w5 _)
  refine yG.up ?_
  unfold yG.pt
  have h:=h.tick
  generalize tick w5=w5 at *
  rw[ldm h]
  simp -zeta only[J5,U0 gI,U0 YV,Nat.zero_add]
  rw[h.ld 4 rfl R7 (o:=o+1) hat.at1,O1.ld (h.L6 ho3) Y2 (o:=3) (v := .int .i64 out.from_) rfl,TB,E5 (by omega) (by omega),ldm h]
  simp -zeta only[J5,U0 gI,Nat.zero_add]
  rw[h.ld 4 rfl R7 (o:=o+1) hat.at1]
  refine h.ask (fun B2 own base2=>VF0 (own (i:=1) rfl)) fun w6 h=>?_
  refine⟨O1.is (h.L6 ho3) Y2 (o:=3) rfl,h.is 4 rfl R7 (o:=o+1) hat.at1,im h,?_⟩
  rw[YK]
  have h:=h.pick [2,3,4,5,6,0,1] (by decide)
  have h:Rel B4 w6 ([O1 q.cp U4 (ccs q.dp 2 c1),bA q.rp u.r,O1 pg K4 cs,O1 l6 Z4 #[v],Y3 M3 v ((out.recs.map d9).map ofL)]++[Z6 q.dp s1 m.kv,JB q.dp q.jc q.jp u.j]):=h
  refine h.Jh0 (fun B2 own base2=>eH0 (base2 hT) (base2 hP) (base2 r) hkl hj (min (out.from_-1) u.j.list.length)) fun u2 d1 d2 w7 hp h=>?_
  obtain⟨rfl,rfl,rfl⟩:=hp
  have hk2:=Ka0 s1 u.j (min (out.from_-1) u.j.list.length)
  have hj2:JOk (PV s1 u.j (min (out.from_-1) u.j.list.length)).1.2:=Dk0 hj
  generalize PV s1 u.j (min (out.from_-1) u.j.list.length)=x2 at *
  obtain⟨⟨s2,j2⟩,e2⟩:=x2
  simp only at h hk2 hj2 hJ2 ⊢
  rw[←hk2] at r hkl
  rw[Q7,G5,K3]
  refine⟨fun c2=>?_,fun c2=>?_⟩
  case refine_2 =>
   rw[if_pos c2] at hJ2
   exact hJ2 _ (h.pick [5,6,0,1,2] (by decide))
  rw[if_neg (fun hh=>hh c2)] at hJ2
  rw[Z5,E5 (by omega) (by omega)]
  rw[iter,G6,K3]
  refine⟨fun _=>?_,fun c=>absurd (show (0+1:Int)<((2:Nat):Int) by decide) c⟩
  rw[show (0+1:Int)=1 from rfl,i1 h.nil]
  refine YH (?_:upK prog (Z0 wB #[ptr m2,ptr l6]) w7 _)
  refine zG.up ?_
  unfold zG.pt
  have h:=h.tick
  generalize tick w7=w7 at *
  rw[ldm h]
  simp -zeta only[J5,U0 gI,Nat.zero_add]
  rw[h.ld 2 rfl R7 (o:=o+1) hat.at1,h.ld 3 rfl K9 (o:=0) (v:=v) rfl]
  have hfb:(H8 (out.recs.map d9)).length≤16777216:=by
   have h1:=xE yB (out.recs.map d9) 100065 fun x hx=>by
    obtain⟨y,hy,rfl⟩:=List.mem_map.1 hx
    have h1:=RU (hf.recs y hy)
    have h2:=wE (d9 y) (by omega)
    omega
   rw[List.length_map] at h1
   have:(H8 (out.recs.map d9)).length≤100065 * out.recs.length:=h1
   omega
  have hjc:=fP j2.list
  have hjf:=hj2.form
  have hjb:=hj2.bytes
  refine h.Jh0 (fun B2 own base2=>wx0 (base2 hT) (base2 hP) (base2 r) hkl hj2 (l:=out.recs.map d9) (Y3.read (own (j:=4) rfl)) hfb (by omega) (by rw[List.length_map];omega)) fun u2 d1 d2 w8 hp h=>?_
  obtain⟨rfl,rfl,rfl⟩:=hp
  generalize IJ s2 j2 (out.recs.map d9)=x3 at *
  obtain⟨⟨s3,j3⟩,e3⟩:=x3
  simp only at h hJ2 ⊢
  rw[Q7,G5,K3]
  refine⟨fun c3=>?_,fun c3=>hJ2 _ (h.pick [5,6,0,1,2] (by decide))⟩
  subst c3
  rw[Z5,E5 (by omega) (by omega)]
  rw[iter,G6,K3]
  refine⟨fun c=>absurd c (show ¬(1+1:Int)<((2:Nat):Int) by decide),fun _=>?_⟩
  exact hJ2 _ (h.pick [5,6,0,1,2] (by decide))
 clear k
 unfold YL at hJ1
 simp -zeta only[U0 uc0,U0 zc0,U0 KC,U0 VU,Nat.zero_add,Nat.add_zero]
 rw[O1.ld (h.L6 ho3) AB (o:=0) (v := .bool out.save) rfl,R5]
 refine⟨fun c=>?_,fun c=>?_⟩
 case refine_2=>rw[if_neg (by rw[c];decide)] at hJ1;exact hJ1 _ h
 rw[if_pos c] at hJ1
 have h:=h.tick
 generalize tick w2=w2 at *
 rw[ldm h]
 simp -zeta only[J5,U0 dP]
 rw[h.ld 4 rfl p9 (o:=o+2) hat.at2,O1.ld (h.L6 ho3) Y2 (o:=1) (v := .int .i64 out.hard.term) rfl,O1.ld (h.L6 ho3) Y2 (o:=2) (v := .int .i64 out.hard.vote) rfl]
 refine h.ask (fun B2 own base2=>wC (base2 hP) hfh.1) fun w3 h=>?_
 refine⟨O1.is (h.L6 ho3) Y2 (o:=2) rfl,h.is 4 rfl p9 (o:=o+2) hat.at2,im h,?_⟩
 refine h.ask (fun B2 own base2=>wC (base2 hP) hfh.2) fun w4 h=>?_
 refine⟨h.is 4 rfl p9 (o:=o+2) hat.at2,im h,?_⟩
 have l1:=Q6 hfh.1
 have l2:=Q6 hfh.2
 rw[C9 (by omega)]
 have h:Rel B3 w4 ([JB q.dp q.jc q.jp u.j,bA q.rp u.r,O1 pg K4 cs]++[Z6 q.dp m.d m.kv,O1 q.cp U4 (ccs q.dp 2 u.c)]):=h.pick [1,3,4,0,2] (by decide)
 refine h.Jh0 (fun B2 own base2=>TE0 (base2 hT) (base2 r) hkl) fun u2 d1 d2 w5 hp h=>?_
 obtain⟨rfl,rfl,rfl⟩:=hp
 exact hJ1 _ (h.pick [3,0,4,1,2] (by decide))
end
structure nA where
 mem:T3 UH
 net:CO
 committed:List Bs
structure GQ where
 m:T3 MQ
 np:Nat
structure GAt (cs:Array Value) (q:GQ) (mem:T3 UH) (cv:Value):Prop where
 size:cs.size=14
 mem:∀i,I3 i→NB cs (4 * i.toNat) (q.m.get i) (mem.get i).up.isSome
 np:cs.toList[12]? = some (ptr q.np)
 cv:cs.toList[13]? = some cv
def lW(pg:Nat)(g:nA)(q:GQ)(cs:Array Value)(cv:Value):List Dat:=[O1 pg K4 cs,u_ q.m.a g.mem.a,u_ q.m.b g.mem.b,u_ q.m.c g.mem.c,KD q.np g.net,Y3 M3 cv (g.committed.map ofL)]
def kC(pg:Nat)(g:nA):Dat:=Dat.ex fun x:GQ×Array Value×Value=>Dat.and (Dat.pure (GAt x.2.1 x.1 g.mem x.2.2)) (eF (lW pg g x.1 x.2.1 x.2.2))
def lS(c:List Bs)(m:UH):List Bs:=match m.up with
 | none=>c
 | some u=>if u.r.commit≤c.length then c else(u.r.log.take u.r.commit.toNat).map fun x=>bl x.data
def qM(g:nA):Nat→List Bs
 | 0=>g.committed
 | 1=>lS g.committed g.mem.a
 | 2=>lS (lS g.committed g.mem.a) g.mem.b
 | _=>lS (lS (lS g.committed g.mem.a) g.mem.b) g.mem.c
def vo0(g:nA):nA:={ g with committed:=qM g 3 }
theorem Vq0(g:nA){i:Nat}(hi:i<3):qM g (i+1)=lS (qM g i) (g.mem.get i):=by
 have:i=0∨i=1∨i=2:=by omega
 rcases this with rfl | rfl | rfl<;>rfl
structure UOk (i:Int) (u:UpP):Prop where
 j:JOk u.j
 r:Y9 u.r
 id:u.r.id=i
 term:u.r.role=2→1≤u.r.hard.term
def ZY(mem:T3 UH):Prop:=∀i,I3 i→∀u,(mem.get i).up=some u→UOk i u
def HV(s:CO):Prop:=s.fl.length≤500∧∀p∈s.fl,∃m:R9,bM m∧p.body=ofL (EN m)
def bG(mem:T3 UH)(B:Base):Prop:=∀i,I3 i→O4 (mem.get i).kv (mem.get i).d.keep B∧(mem.get i).d.keep.length≤1000000
theorem dH0{cs:Array Value}(h:cs.size=14):∃a b c d e f g i j k l m n o,cs=#[a,b,c,d,e,f,g,i,j,k,l,m,n,o]:=by
 obtain⟨L⟩:=cs
 match L,h with
 | [a,b,c,d,e,f,g,i,j,k,l,m,n,o],_=>exact⟨a,b,c,d,e,f,g,i,j,k,l,m,n,o,rfl⟩
theorem CH0:agB prog Y_ 12=true:=by kernel_rfl
theorem idxM{Kp:Value→Prop}{a b c d e f g h i j k l:Value}{n:Nat}(hn:n<3){xs:List Value}(hx:xs=([a,b,c,d,e,f,g,h,i,j,k,l].drop (4 * n)).take 4):M0 prog (KY Y_ (.agg #[a,b,c,d,e,f,g,h,i,j,k,l]) (.int .i64 n)) Kp=Kp (.agg xs.toArray):=by
 subst hx
 have:n=0∨n=1∨n=2:=by omega
 rcases this with rfl | rfl | rfl
 all_goals exact F5 fun w=>by kernel_rfl
theorem ZX{Kp:Value→Prop}{p:Nat}{i:Int}(hi:I3 i):M0 prog (I5 Y_ (.pointer (some ⟨p,0,none⟩)) (.int .i64 i)) Kp=Kp (.pointer (some ⟨p,4 * i.toNat,none⟩)):=by
 rcases hi.cases with rfl | rfl | rfl<;>exact F5 fun w=>by kernel_rfl
section
variable {B:Base} {w:World} {σ τ:List Dat} {pg:Nat} {g:nA} {K:PtK}
theorem kC.open(h:Rel B w (kC pg g :: τ)):∃q cs cv,GAt cs q g.mem cv∧Rel B w (lW pg g q cs cv++τ):=by
 obtain⟨⟨q,cs,cv⟩,h⟩:=h.ex (i:=0) rfl
 obtain⟨hp,h⟩:=h.VS (i:=0) rfl
 exact⟨q,cs,cv,hp,Rel.nS h⟩
theorem kC.close{q:GQ}{cs:Array Value}{cv:Value}(ha:GAt cs q g.mem cv)(h:Rel B w (lW pg g q cs cv++τ)):Rel B w (kC pg g :: τ) :=
 (Rel.RL h).imp (i:=0) (e:=kC pg g) rfl fun B hB=>⟨(q,cs,cv),ha,hB⟩
theorem it0{q:GQ}{cs:Array Value}{cv:Value}{i:Int}(hi:I3 i):(lW pg g q cs cv)[1+i.toNat]? = some (u_ (q.m.get i) (g.mem.get i)):=by
 rcases hi.cases with rfl | rfl | rfl<;>rfl
theorem u_.rep{q:MQ}{m:UH}{u:UpP}(h:u_ q m B)(hu:m.up=some u):pJ q.rp u.r B:=by
 unfold u_ Az0 at h
 rw[hu] at h
 exact bA.toR (eF.get (j:=3) h rfl)
theorem NB.pts{cs:Array Value}{o:Nat}{q:MQ}{up:Bool}(h:NB cs o q up):∃a b c d,cs.toList[o]? = some (.pointer a)∧cs.toList[o+1]? = some (.pointer b)∧cs.toList[o+2]? = some (.pointer c)∧cs.toList[o+3]? = some (.pointer d):=by
 cases up with
 | true=>exact⟨_,_,_,_,h.at0,h.at1,h.at2,h.at3⟩
 | false =>
  obtain⟨b,hb⟩:=h.UH0
  obtain⟨c,hc⟩:=h.VH0
  exact⟨_,b,c,_,h.at0,hb,hc,h.fG0⟩
theorem Lk0{Kp:Value→Prop}{xo yo:Operand}{a:Option Addr}:M0 prog (V3 .eql J7 xo yo (.pointer a) (.pointer none)) Kp=Kp (.bool a.isNone):=by
 cases a with
 | none=>exact F5 fun w=>by kernel_rfl
 | some x=>exact OA tX
theorem GAt.qH0{cs:Array Value}{q:GQ}{mem:T3 UH}{cv v:Value}(h:GAt cs q mem cv):GAt (cs.setIfInBounds 13 v) q mem v where
 size:=by rw[Array.size_setIfInBounds];exact h.size
 mem:=fun i hi=>by
  have h1:=h.mem i hi
  have h2:i.toNat≤2:=by unfold I3 at hi;omega
  unfold NB at h1 ⊢
  rw[Z_ (by omega),Z_ (by omega),Z_ (by omega),Z_ (by omega)]
  exact h1
 np:=by rw[Z_ (by omega)];exact h.np
 cv:=by rw[XK (by have:=h.size;omega)]
set_option maxHeartbeats 2000000 in
theorem gG0(hok:ZY g.mem)(hc:g.committed.length≤1000000):Does prog B (kC pg g) (Z0 wI #[ptr pg]) fun _ e' τ=>e'=kC pg (vo0 g)∧τ=[]:=by
 refine Does.intro fun B' w K base h k=>?_
 refine kL.up ?_
 unfold kL.pt
 obtain⟨q,cs,cv,ha,h⟩:=kC.open h
 rw[List.append_nil] at h
 simp -zeta only[J5,U0 OC,Nat.zero_add]
 obtain⟨a,b,c,d,e,f,g',i',j,k',l,m,n,o,rfl⟩:=dH0 ha.size
 rw[K6.r9 (xs:=[a,b,c,d,e,f,g',i',j,k',l,m]) (O1.sub (h.here (i:=0) rfl) rfl) CH0 rfl]
 have hat:=ha.mem
 have hpts:∀i:Nat,i<3→∃x y z t,(([a,b,c,d,e,f,g',i',j,k',l,m].drop (4 * i)).take 4)=[.pointer x,.pointer y,.pointer z,.pointer t]∧(if(g.mem.get i).up.isSome=true then(.pointer t:Value)=ptr (q.m.get i).rp else t=none):=by
  intro i hi
  have hi3:I3 (i:Int):=by unfold I3;omega
  have h1:=hat i hi3
  obtain⟨x,y,z,t,h2,h3,h4,h5⟩:=h1.pts
  have h6:(if(g.mem.get i).up.isSome=true then(.pointer t:Value)=ptr (q.m.get i).rp else t=none):=by
   cases hu:(g.mem.get i).up.isSome with
   | true =>
    rw[hu] at h1
    rw[if_pos rfl]
    have:=h1.at3
    rw[h5] at this
    exact Option.some.inj this
   | false =>
    rw[hu] at h1
    rw[if_neg (by decide)]
    have:=h1.fG0
    rw[h5] at this
    cases this
    rfl
  refine⟨x,y,z,t,?_,h6⟩
  have:i=0∨i=1∨i=2:=by omega
  rcases this with rfl | rfl | rfl
  all_goals
   cases h2
   cases h3
   cases h4
   cases h5
   rfl
 refine F6 (fun z w'=>∃(i:Nat) (cs:Array Value) (cv:Value),i≤3∧z=(.int .i64 i,())∧GAt cs q g.mem cv∧(qM g i).length≤1000000∧Rel B' w' (lW pg { g with committed:=qM g i } q cs cv))
  (fun z _=>3-(match z.1 with | .int _ n=>n.toNat | _=>0)) ⟨0,_,cv,Nat.zero_le _,rfl,ha,hc,h⟩ ?_
 clear h ha hat cv
 rintro z w1 ⟨i,cs,cv,hi,rfl,ha,hcl,h⟩ next hnext
 rw[G6,K3]
 refine⟨fun hlt=>?_,fun hge=>?_⟩
 case refine_2 =>
  have:i=3:=by omega
  subst this
  exact k _ _ [] _ ⟨rfl,rfl⟩ (kC.close (g:=vo0 g) ha (by rw[List.append_nil];exact h))
 have hi3:i<3:=by omega
 have hI:I3 (i:Int):=by unfold I3;omega
 refine P6 fun J hJ=>?_
 replace hJ:∀(cs:Array Value) (cv:Value) (w':World),GAt cs q g.mem cv→(qM g (i+1)).length≤1000000→Rel B' w' (lW pg { g with committed:=qM g (i+1) } q cs cv)→J () w':=by
  intro cs cv w' ha hl h
  refine hJ _ _ ?_
  rw[Z5,E5 (by omega) (by omega)]
  exact hnext _ _ ⟨i+1,cs,cv,by omega,rfl,ha,hl,h⟩ (by simp only;omega)
 clear hnext
 obtain⟨x,y,z,t,hx,ht⟩:=hpts i hi3
 rw[idxM hi3 hx.symm]
 refine h.R8 (ds:=#[.pointer x,.pointer y,.pointer z,.pointer t]) Bh0 rfl od0 rfl (fun v hv=>?_) fun m3 w2 h=>?_
 ·have hv:v∈[Value.pointer x,.pointer y,.pointer z,.pointer t]:=hv
  simp only[List.mem_cons,List.not_mem_nil,or_false] at hv
  rcases hv with rfl | rfl | rfl | rfl<;>rfl
 have hmem:=it0 (pg:=pg) (g:={ g with committed:=qM g i }) (q:=q) (cs:=cs) (cv:=cv) hI
 have hmem:(lW pg { g with committed:=qM g i } q cs cv)[1+(i:Int).toNat]? = some (u_ (q.m.get i) (g.mem.get i)):=hmem
 have hlen6:(lW pg { g with committed:=qM g i } q cs cv).length=6:=rfl
 have h:=h.tick
 generalize tick w2=w2 at *
 simp -zeta only[U0 lF,Nat.zero_add]
 rw[h.ld 6 rfl P8 (o:=3) (v := .pointer t) rfl,Lk0,R5]
 have hns:=Vq0 g hi3
 unfold lS at hns
 cases hu:(g.mem.get i).up with
 | none =>
  rw[hu] at ht hns
  rw[if_neg (show ¬(none:Option UpP).isSome=true by decide)] at ht
  subst ht
  refine⟨fun _=>?_,fun c=>by cases c⟩
  have hns:qM g (i+1)=qM g i:=hns
  rw[hns] at hJ
  exact hJ cs cv _ ha hcl (h.take 6)
 | some u =>
  rw[hu] at ht hns
  rw[if_pos (show (some u).isSome=true from rfl)] at ht
  cases ht
  have hns:qM g (i+1)=if u.r.commit≤(qM g i).length then qM g i else(u.r.log.take u.r.commit.toNat).map fun x=>bl x.data:=hns
  refine⟨fun c=>(by cases c),fun _=>?_⟩
  have huok:=hok i hI u hu
  have hrlen:=huok.r.len
  have hrc:=huok.r.commit
  have rep:∀{B2:Base} {σ:List Dat},(∀{j:Nat} {d:Dat},σ[j]? = some d→d B2)→σ[1+(i:Int).toNat]? = some (u_ (q.m.get i) (g.mem.get i))→pJ (q.m.get i).rp u.r B2:=fun own hs=>u_.rep (own hs) hu
  have hmem2:∀(ρ:List Dat),(lW pg { g with committed:=qM g i } q cs cv++ρ)[1+(i:Int).toNat]? = some (u_ (q.m.get i) (g.mem.get i)):=fun ρ=>by
   rw[List.getElem?_append_left (by rw[hlen6];omega)];exact hmem
  rw[h.ld 6 rfl P8 (o:=3) (v:=ptr (q.m.get i).rp) rfl]
  simp -zeta only[J5,U0 vV,Nat.zero_add]
  rw[h.ld 0 rfl K9 (o:=13) ha.cv,O4.len (Y3.read (h.here (i:=5) rfl)) K7,List.length_map]
  refine h.ask (fun B2 own base2=>cn0 (rep own (hmem2 _))) fun w3 h=>?_
  have isl:Is prog (M5 .len #[Z4] Q0 #[false] #[cv]) (.int .i64 (qM g i).length) w3:=by
   have:=O4.len (P:=prog) (w:=w3) (T:=Z4) (U:=Q0) (bs:=#[false]) (Kp:=fun x=>x = .int .i64 ((qM g i).map ofL).length) (Y3.read (h.here (i:=5) rfl)) K7
   rw[List.length_map] at this
   obtain⟨x,h1,rfl⟩:=this.mpr rfl
   exact h1
  refine⟨isl,h.is 0 rfl K9 (o:=13) ha.cv,?_⟩
  rw[WC,K3]
  refine⟨fun c=>?_,fun c=>?_⟩
  ·rw[if_pos c] at hns
   rw[hns] at hJ
   exact hJ cs cv _ ha hcl (h.take 6)
  rw[if_neg c] at hns
  have hcs:=ha.size
  refine h.st 0 rfl K9 (o:=13) (by omega) rfl fun w4 h=>?_
  have h:=h.tick
  generalize tick w4=w4 at *
  have h:Rel B' w4 ([O1 pg K4 (cs.setIfInBounds 13 (.slice none 0 0)),u_ q.m.a g.mem.a,u_ q.m.b g.mem.b,u_ q.m.c g.mem.c,KD q.np g.net,Y3 M3 cv ((qM g i).map ofL),O1 m3 y7 #[.pointer x,.pointer y,.pointer z,ptr (q.m.get i).rp]]):=h
  have hmem3:∀(c0 c5:Dat) (ρ:List Dat),([c0,u_ q.m.a g.mem.a,u_ q.m.b g.mem.b,u_ q.m.c g.mem.c,KD q.np g.net]++ρ)[1+(i:Int).toNat]? = some (u_ (q.m.get i) (g.mem.get i)):=fun c0 c5 ρ=>by
   have:i=0∨i=1∨i=2:=by omega
   rcases this with rfl | rfl | rfl<;>rfl
  rw[h.ld 6 rfl P8 (o:=3) (v:=ptr (q.m.get i).rp) rfl]
  rw[h.ld 6 rfl P8 (o:=3) (v:=ptr (q.m.get i).rp) rfl]
  refine h.make (fun B2 own base2=>kH0 (rep own (hmem3 _ emp _)) (by omega)) fun lv τ w5 hp h=>?_
  subst hp
  refine⟨h.is 6 rfl P8 (o:=3) rfl,?_⟩
  refine h.ask (fun B2 own base2=>cn0 (rep own (hmem3 _ emp _))) fun w6 h=>?_
  obtain⟨cn,ecn⟩:∃cn:Nat,u.r.commit=cn:=⟨u.r.commit.toNat,by omega⟩
  have ecn2:u.r.commit.toNat=cn:=by omega
  rw[ecn2] at hns
  rw[ecn]
  have hcut:∀Kp:Value→Prop,M0 prog (y9 U3 lv none (some (.int .i64 cn)) none) Kp=Kp (cutV 2 lv 0 cn):=fun Kp =>
   O4.Ue0 (α:=uB) (P:=prog) (lo:=0) (hi:=cn) (Y3.read (h.here (i:=7) rfl)) u6 Bnd.none Bnd.some (by omega) (by omega)
  rw[hcut]
  clear hcut
  have h:Rel B' w6 ([O1 pg K4 (cs.setIfInBounds 13 (.slice none 0 0)),u_ q.m.a g.mem.a,u_ q.m.b g.mem.b,u_ q.m.c g.mem.c,KD q.np g.net,Y3 X3 lv u.r.log]):=h.pick [0,1,2,3,4,7] (by decide)
  have h:=h.VC ByteArray M3
  have htl:(u.r.log.take cn).length=cn:=by rw[List.length_take];omega
  have hcr:∀{B2:Base},Y3 X3 lv u.r.log B2→O4 (cutV 2 lv 0 cn) (u.r.log.take cn) B2:=fun hh=>by
   have:=O4.Fk0 (α:=uB) (lo:=0) (hi:=cn) (Y3.read hh) (by omega) (by omega)
   exact this
  rw[O4.len (hcr (h.here (i:=5) rfl)) u6,htl]
  refine F6 (fun z w'=>∃(i2:Nat) (v:Value),i2≤cn∧z=(.int .i64 i2,())∧Rel B' w' [O1 pg K4 (cs.setIfInBounds 13 v),u_ q.m.a g.mem.a,u_ q.m.b g.mem.b,u_ q.m.c g.mem.c,KD q.np g.net,Y3 X3 lv u.r.log,Y3 M3 v ((u.r.log.take i2).map fun x=>x.data)])
   (fun z _=>cn-(match z.1 with | .int _ n=>n.toNat | _=>0)) ⟨0,.slice none 0 0,Nat.zero_le _,rfl,h⟩ ?_
  clear h
  rintro z w7 ⟨i2,v,hi2,rfl,h⟩ next hnext
  simp -zeta only[G6,K3]
  refine⟨fun hlt2=>?_,fun hge2=>?_⟩
  case refine_2 =>
   have:i2=cn:=by omega
   subst this
   refine hJ (cs.setIfInBounds 13 v) v _ ha.qH0 (by rw[hns,List.length_map,htl];omega) ?_
   have e:((u.r.log.take i2).map fun x=>x.data)=(qM g (i+1)).map ofL:=by
    rw[hns,List.map_map]
    exact List.map_congr_left fun x _=>(pO x.data).symm
   rw[e] at h
   exact h.pick [0,1,2,3,4,6] (by decide)
  have hi2l:i2<(u.r.log.take cn).length:=by omega
  obtain⟨gb,go,hx2,hc2⟩:=O4.idx (hcr (h.here (i:=5) rfl)) u6 (P:=prog) hi2l
  rw[hx2,K6.r9 (xs:=((u.r.log.take cn)[i2]).cs) hc2 S9 rfl]
  clear hx2 hc2
  have htk:((u.r.log.take (i2+1)).map fun x=>x.data)=((u.r.log.take i2).map fun x=>x.data)++[((u.r.log.take cn)[i2]).data]:=by
   rw[List.take_succ_eq_append_getElem (by omega),List.map_append,List.getElem_take]
   rfl
  have htl2:((u.r.log.take i2).map fun x=>x.data).length=i2:=by rw[List.length_map,List.length_take];omega
  generalize (u.r.log.take cn)[i2]=x2 at *
  refine h.R8 (ds:=x2.cs.toArray) CL rfl S9 rfl (fun v hv=>Enc.one x2 v hv) fun b5 w8 h=>?_
  have h:=h.tick
  generalize tick w8=w8 at *
  simp -zeta only[U0 bW,Nat.zero_add]
  have hc13:(cs.setIfInBounds 13 v).toList[13]? = some v:=XK (by omega)
  rw[h.ld 0 rfl K9 (o:=13) hc13,h.ld 7 rfl U6 (o:=1) (v := .string x2.data) rfl]
  refine h.XH (α:=ByteArray) x2.data K7 (by decide) fun v1 w9 h=>?_
  refine⟨h.is 0 rfl K9 (o:=13) hc13,?_⟩
  refine h.append (α:=ByteArray) 6 rfl K7 (Rd.at 8 rfl) (by rw[htl2];show (i2+1) * _≤_;omega) (by rw[htl2];show i2+1≤_;omega) fun v2 w10 h=>?_
  have hv2:v2.oneCell'=true:=h.oneCell (i:=6) rfl
  refine h.st 0 rfl K9 (o:=13) (by rw[Array.size_setIfInBounds];omega) hv2 fun w11 h=>?_
  rw[Z5,E5 (by omega) (by omega)]
  refine hnext _ _ ⟨i2+1,v2,by omega,rfl,?_⟩ (by simp only;omega)
  rw[htk]
  have e13:(cs.setIfInBounds 13 v).setIfInBounds 13 v2=cs.setIfInBounds 13 v2:=Array.setIfInBounds_setIfInBounds ..
  rw[e13] at h
  exact h.take 7
end
def upE(g:nA)(id:Int):Int:=if id<0∨3≤id then 1 else if(g.mem.get id).up.isSome=true then 0 else 9
def sendAll(id:Int)(n:CO)(l:List R9):CO:=l.foldl (fun n m=>(xV n ⟨id,m.to_,ofL (EN m)⟩).2) n
def XG(g:nA)(id:Int)(m:UH):nA:={ g with mem:=g.mem.set id m }
def do2(g:nA)(id:Int)(x:UH×Int)(l:List R9):nA:=if x.2=0 then { XG g id x.1 with net:=sendAll id g.net l } else XG g id x.1
def doS(g:nA)(id:Int)(u:UpP)(out:vE):nA×Int:=(vo0 (do2 g id (XE (g.mem.get id) u out) out.send),(XE (g.mem.get id) u out).2)
theorem LY{id:Int}:∀{l:List R9} {n:CO},HV n→(∀m∈l,bM m)→HV (sendAll id n l)
 | [],_,h,_=>h
 | m :: l,n,h,hl=>by
  show HV (sendAll id (xV n ⟨id,m.to_,ofL (EN m)⟩).2 l)
  refine LY (l:=l) ⟨vw0 h.1,fun p hp=>?_⟩ fun m hm=>hl m (List.mem_cons_of_mem _ hm)
  unfold xV at hp
  split at hp
  ·split at hp
   ·split at hp
    ·rcases List.mem_append.1 hp with hp | hp
     ·exact h.2 p hp
     ·rw[List.mem_singleton.1 hp]
      exact⟨m,hl m (List.mem_cons_self ..),rfl⟩
    ·exact h.2 p hp
   ·exact h.2 p hp
  ·exact h.2 p hp
theorem GAt.put{cs cs':Array Value}{q:GQ}{mem:T3 UH}{cv:Value}{i:Int}{q':MQ}{m':UH}(h:GAt cs q mem cv)(hi:I3 i)(h1:NB cs' (4 * i.toNat) q' m'.up.isSome)(h2:IC cs cs' (4 * i.toNat)):GAt cs' { q with m:=q.m.set i q' } (mem.set i m') cv where
 size:=h2.1.trans h.size
 mem:=fun j hj=>by
  by_cases c:j=i
  ·subst c
   show NB cs' _ ((q.m.set j q').get j) ((mem.set j m').get j).up.isSome
   rw[T3.IA _ hi,T3.IA _ hi]
   exact h1
  ·show NB cs' _ ((q.m.set i q').get j) ((mem.set i m').get j).up.isSome
   rw[T3.WG _ hi hj _ c,T3.WG _ hi hj _ c]
   have h3:=h.mem j hj
   have hn:j.toNat≠i.toNat:=by unfold I3 at hi hj;omega
   unfold NB at h3 ⊢
   rw[h2.2 _ (by omega),h2.2 _ (by omega),h2.2 _ (by omega),h2.2 _ (by omega)]
   exact h3
 np:=by rw[h2.2 _ (by unfold I3 at hi;omega)];exact h.np
 cv:=by rw[h2.2 _ (by unfold I3 at hi;omega)];exact h.cv
theorem ZY.set{mem:T3 UH}(h:ZY mem){i:Int}(hi:I3 i){m:UH}(hm:∀u,m.up=some u→UOk i u):ZY (mem.set i m):=fun j hj u hu=>by
 by_cases c:j=i
 ·subst c
  rw[T3.IA _ hi] at hu
  exact hm u hu
 ·rw[T3.WG _ hi hj _ c] at hu
  exact h j hj u hu
theorem Yo0{m:UH}{u:UpP}{out:vE}{i:Int}(h:UOk i u):∀u',(XE m u out).1.up=some u'→UOk i u':=by
 intro u' hu
 unfold XE om0 at hu
 split at hu
 ·cases hu
 ·cases hu
  refine⟨?_,h.r,h.id,h.term⟩
  show JOk (vS (YL m u out).1.1 u.j (YL m u out).2 out).1.2
  unfold vS
  split
  ·unfold IW
   split
   ·exact Dk0 h.j
   ·exact Ge0 (Dk0 h.j)
  ·exact h.j
theorem Fw0(m:UH)(u:UpP)(out:vE):(XE m u out).1.kv=m.kv∧(XE m u out).1.d.keep=m.d.keep:=by
 have h1:=Dc0 m u out
 have h2:(vS (YL m u out).1.1 u.j (YL m u out).2 out).1.1.keep=m.d.keep:=by
  unfold vS
  split
  ·unfold IW
   split
   ·exact(Ka0 _ _ _).trans h1
   ·exact(ll0 _ _ _).trans ((Ka0 _ _ _).trans h1)
  ·exact h1
 unfold XE om0
 split
 ·exact⟨rfl,h2⟩
 ·exact⟨rfl,h2⟩
section
variable {B:Base} {w:World} {σ τ:List Dat} {pg:Nat} {g:nA} {K:PtK}
theorem kC.jP(h:kC pg g B):∃q cs cv,GAt cs q g.mem cv∧O1 pg K4 cs B∧KD q.np g.net B∧O4 cv (g.committed.map ofL) B∧∀i,I3 i→u_ (q.m.get i) (g.mem.get i) B:=by
 obtain⟨⟨q,cs,cv⟩,ha,h⟩:=h
 exact⟨q,cs,cv,ha,eF.get (j:=0) h rfl,eF.get (j:=4) h rfl,Y3.read (eF.get (j:=5) h rfl),fun i hi=>eF.get (j:=1+i.toNat) h (it0 hi)⟩
theorem zH0(h0:kC pg g B)(id:Int):Gives prog B (Z0 SK #[ptr pg,.int .i64 id]) (.int .i64 (upE g id)):=by
 refine Gives.intro fun B' w K base h k=>?_
 obtain⟨q,cs,cv,ha,c0,c1,c2,c3⟩:=kC.jP (base h0)
 refine iO.up ?_
 unfold iO.pt
 unfold upE at k
 rw[G6,K3]
 refine⟨fun c=>?_,fun e1=>?_⟩
 ·rw[if_pos (.inl c)] at k;exact k _ _ h
 rw[FC,K3]
 refine⟨fun c=>?_,fun e2=>?_⟩
 ·rw[if_pos (.inr c)] at k;exact k _ _ h
 rw[if_neg (fun hh=>hh.elim e1 e2)] at k
 have hi:I3 id:=by unfold I3;omega
 simp -zeta only[J5,U0 OC,Nat.zero_add]
 rw[ZX hi,U0 lF]
 have hm:=ha.mem id hi
 cases hu:(g.mem.get id).up.isSome with
 | true =>
  rw[hu] at hm k
  rw[if_pos rfl] at k
  rw[O1.ld (h.L6 c0) P8 (o:=4 * id.toNat+3) hm.at3,Lk0,R5]
  exact⟨fun c=>(by cases c),fun _=>k _ _ h⟩
 | false =>
  rw[hu] at hm k
  rw[if_neg (by decide)] at k
  rw[O1.ld (h.L6 c0) P8 (o:=4 * id.toNat+3) hm.fG0,Lk0,R5]
  exact⟨fun _=>k _ _ h,fun c=>by cases c⟩
theorem dF0{q:GQ}{cs:Array Value}{cv:Value}{i:Int}{s:Sem Next}{post:Value→Array Value→MQ→UH→Prop}(h:Rel B w (lW pg g q cs cv))(ha:GAt cs q g.mem cv)(hi:I3 i)
  (G:∀B':Base,(∀{d:Dat},d B→d B')→Both prog B' (O1 pg K4 cs) (u_ (q.m.get i) (g.mem.get i)) s fun v d1 d2=>∃cs' q' m',d1=O1 pg K4 cs'∧d2=u_ q' m'∧NB cs' (4 * i.toNat) q' m'.up.isSome∧IC cs cs' (4 * i.toNat)∧post v cs' q' m')
  (k:∀v cs' q' m' w',post v cs' q' m'→GAt cs' { q with m:=q.m.set i q' } (g.mem.set i m') cv→Rel B w' (lW pg (XG g i m') { q with m:=q.m.set i q' } cs' cv)→K v w'):upK prog s w K:=by
 rcases hi.cases with rfl | rfl | rfl
 ·have h:Rel B w ([u_ q.m.b g.mem.b,u_ q.m.c g.mem.c,KD q.np g.net,Y3 M3 cv (g.committed.map ofL)]++[O1 pg K4 cs,u_ q.m.a g.mem.a]):=h.pick [2,3,4,5,0,1] (by decide)
  refine h.Jh0 (fun B2 own base2=>G B2 base2) fun v d1 d2 w' hp h=>?_
  obtain⟨cs',q',m',rfl,rfl,h1,h2,hp⟩:=hp
  exact k _ _ _ _ _ hp (ha.put hi h1 h2) (h.pick [4,5,0,1,2,3] (by decide))
 ·have h:Rel B w ([u_ q.m.a g.mem.a,u_ q.m.c g.mem.c,KD q.np g.net,Y3 M3 cv (g.committed.map ofL)]++[O1 pg K4 cs,u_ q.m.b g.mem.b]):=h.pick [1,3,4,5,0,2] (by decide)
  refine h.Jh0 (fun B2 own base2=>G B2 base2) fun v d1 d2 w' hp h=>?_
  obtain⟨cs',q',m',rfl,rfl,h1,h2,hp⟩:=hp
  exact k _ _ _ _ _ hp (ha.put hi h1 h2) (h.pick [4,0,5,1,2,3] (by decide))
 ·have h:Rel B w ([u_ q.m.a g.mem.a,u_ q.m.b g.mem.b,KD q.np g.net,Y3 M3 cv (g.committed.map ofL)]++[O1 pg K4 cs,u_ q.m.c g.mem.c]):=h.pick [1,2,4,5,0,3] (by decide)
  refine h.Jh0 (fun B2 own base2=>G B2 base2) fun v d1 d2 w' hp h=>?_
  obtain⟨cs',q',m',rfl,rfl,h1,h2,hp⟩:=hp
  exact k _ _ _ _ _ hp (ha.put hi h1 h2) (h.pick [4,0,1,5,2,3] (by decide))
set_option maxHeartbeats 2000000 in
theorem GE0(hT:VT B)(hP:VI B)(hok:ZY g.mem)(hke:bG g.mem B)(hn:HV g.net)(hc:g.committed.length≤1000000){id:Int}(hi:I3 id){u:UpP}(hu:(g.mem.get id).up=some u){out:vE}{rv sv:SV}(hf:TB0 out)(hfm:∀m∈out.send,bM m)(hsl:out.send.length≤1000)(qr:O4 rv.1 out.recs B)(qs:wN sv.1 out.send B) :
  Does prog B (kC pg g) (Z0 PK #[ptr pg,.int .i64 id,.agg (f_ out rv.1 sv.1)]) fun v e' τ=>v = .int .i64 (doS g id u out).2∧e'=kC pg (doS g id u out).1∧τ=[]:=by
 refine Does.intro fun B' w K base h k=>?_
 replace hT:=base hT
 replace hP:=base hP
 replace qr:=base qr
 replace qs:=base qs
 obtain⟨hr,hkl⟩:=hke id hi
 replace hr:=base hr
 refine fO.up ?_
 unfold fO.pt
 refine h.box fun o5 w1 h=>?_
 have h:Rel B' w1 ([kC pg g]++[O1 o5 F3 (f_ out rv.1 sv.1)]):=h
 obtain⟨B2,ext2,h,ho5⟩:=h.On0
 have up2:∀{d:Dat},d B'→d B2:=fun hd=>Dat.mono _ ext2.le hd
 replace k:∀w',Rel B2 w' [kC pg (doS g id u out).1]→K (.int .i64 (doS g id u out).2) w':=fun w' h=>k _ _ [] w' ⟨rfl,rfl,rfl⟩ (ext2.rel h)
 replace hT:=up2 hT
 replace hP:=up2 hP
 replace hr:=up2 hr
 replace qr:=up2 qr
 replace qs:=up2 qs
 clear up2 ext2 base
 unfold doS at k
 obtain⟨q,cs,cv,ha,h⟩:=kC.open h
 rw[List.append_nil] at h
 simp -zeta only[J5,U0 OC,Nat.zero_add]
 rw[ZX hi]
 have h:=h.tick
 generalize tick w1=w1 at *
 rw[O1.r9 (h.L6 ho5) EC rfl]
 have hat:=ha.mem id hi
 rw[hu] at hat
 refine dF0 (post:=fun v cs' q' m'=>v = .int .i64 (XE (g.mem.get id) u out).2∧m'=(XE (g.mem.get id) u out).1∧q'=q.m.get id) h ha hi (fun B3 base3=>?_) fun v cs' q' m' w2 hp ha h=>?_
 ·intro w σ i K h0 h1 h2
  refine QD0 (base3 hT) (base3 hP) (base3 hr) hkl hu (hok id hi u hu).j ha.size (by unfold I3 at hi;omega) hat hf (base3 qr) w σ i K h0 h1 fun v e' τ w' hp=>h2 v e' τ w' ?_
  obtain⟨d1',d2',⟨rfl,cs',rfl,rfl,h3,h4⟩,he,ht⟩:=hp
  exact⟨_,_,⟨cs',q.m.get id,_,rfl,rfl,h3,h4,rfl,rfl,rfl⟩,he,ht⟩
 obtain⟨rfl,rfl,rfl⟩:=hp
 have hok2:ZY (XG g id (XE (g.mem.get id) u out).1).mem:=hok.set hi (Yo0 (hok id hi u hu))
 generalize XE (g.mem.get id) u out=x at *
 obtain⟨m',e⟩:=x
 simp only at h ha hok2 k ⊢
 generalize ({ q with m:=q.m.set id (q.m.get id) }:GQ)=q at *
 unfold do2 at k
 simp only at k
 have fin:∀(n:CO) w',(∀w',Rel B2 w' [kC pg (vo0 { XG g id m' with net:=n })]→K (.int .i64 e) w')→Rel B2 w' (lW pg { XG g id m' with net:=n } q cs' cv)→upK prog (Z0 wI #[ptr pg]) w' fun _ w4=>K (.int .i64 e) w4:=by
  intro n w' k h
  have h:Rel B2 w' [kC pg { XG g id m' with net:=n }]:=kC.close (τ:=[]) ha (by rw[List.append_nil];exact h)
  refine h.act 0 rfl (fun B3 own base3=>gG0 hok2 hc) fun v e' τ w3 hp h=>?_
  obtain⟨rfl,rfl⟩:=hp
  exact k _ h
 refine P6 fun J hJ=>?_
 rw[F7,K3]
 refine⟨fun c=>?_,fun c=>?_⟩
 case refine_2 =>
  rw[if_neg c] at k
  exact hJ _ _ (fin g.net _ k h)
 rw[if_pos c] at k
 replace hJ:∀w',Rel B2 w' (lW pg { XG g id m' with net:=sendAll id g.net out.send } q cs' cv)→J () w':=fun w' h=>hJ _ _ (fin _ _ k h)
 clear fin k
 simp -zeta only[U0 ZV,Nat.zero_add]
 rw[O1.ld (h.L6 ho5) pR (o:=5) (v:=sv.1) rfl]
 obtain⟨vs,hvs,qs1,qs2⟩:=qs
 have hvs:vs.length=out.send.length:=hvs
 have hzl:(List.zipWith R9.raw out.send vs).length=out.send.length:=by rw[List.length_zipWith];omega
 rw[O4.len qs1 vL,hzl]
 refine F6 (fun z w'=>∃i:Nat,i≤out.send.length∧z=(.int .i64 i,())∧Rel B2 w' (lW pg { XG g id m' with net:=sendAll id g.net (out.send.take i) } q cs' cv))
  (fun z _=>out.send.length-(match z.1 with | .int _ n=>n.toNat | _=>0)) ⟨0,Nat.zero_le _,rfl,h⟩ ?_
 clear h
 rintro z w3 ⟨i,hil,rfl,h⟩ next hnext
 rw[G6,K3]
 refine⟨fun hlt=>?_,fun hge=>?_⟩
 case refine_2 =>
  have:i=out.send.length:=by omega
  subst this
  rw[List.take_length] at h
  exact hJ _ h
 have hi1:i<out.send.length:=by omega
 have hi2:i<(List.zipWith R9.raw out.send vs).length:=by omega
 obtain⟨gb,go,hx,hcx⟩:=O4.idx qs1 vL (P:=prog) hi2
 have hcx:K6 gb go ((List.zipWith R9.raw out.send vs)[i]).cs B2:=hcx
 rw[hx,K6.r9 (h.L6 hcx) Z8 rfl,List.getElem_zipWith]
 clear hx hcx
 have hmi:bM out.send[i]:=hfm _ (List.getElem_mem hi1)
 have hrow:O4 (vs[i]).1 (out.send[i]).recs B2:=by
  have hz:i<(out.send.zip vs).length:=by rw[List.length_zip];omega
  have:=qs2 (out.send.zip vs)[i] (List.getElem_mem hz)
  rw[List.getElem_zip] at this
  exact this
 have htk:sendAll id g.net (out.send.take (i+1))=(xV (sendAll id g.net (out.send.take i)) ⟨id,(out.send[i]).to_,ofL (EN out.send[i])⟩).2:=by
  unfold sendAll
  rw[List.take_succ_eq_append_getElem hi1,List.foldl_append]
  rfl
 have hno:HV (sendAll id g.net (out.send.take i)):=LY hn fun m hm=>hfm m (List.mem_of_mem_take hm)
 generalize out.send[i]=m at *
 generalize vs[i]=mv at *
 refine h.R8 (ds:=(m.raw mv).cs.toArray) vJ rfl Z8 rfl (fun v hv=>Enc.one (m.raw mv) v hv) fun m9 w4 h=>?_
 have h:=h.tick
 generalize tick w4=w4 at *
 simp -zeta only[J5,U0 uQ,U0 XV,Nat.zero_add]
 have h:Rel B2 w4 [O1 pg K4 cs',u_ q.m.a (XG g id m').mem.a,u_ q.m.b (XG g id m').mem.b,u_ q.m.c (XG g id m').mem.c,KD q.np (sendAll id g.net (out.send.take i)),Y3 M3 cv (g.committed.map ofL),O1 m9 Y1 (m.raw mv).cs.toArray]:=h
 rw[h.ld 0 rfl nR (o:=12) ha.np,h.ld 6 rfl Y2 (o:=2) (v := .int .i64 m.to_) rfl,h.r9 6 rfl Z8 rfl]
 refine h.ask (fun B3 own base3=>dg0 (base3 hP) hmi (base3 hrow)) fun w5 h=>?_
 refine⟨h.is 6 rfl Y2 (o:=2) rfl,h.is 0 rfl nR (o:=12) ha.np,?_⟩
 refine h.act 4 rfl (fun B3 own base3=>zG0 hno.1 id m.to_ (ofL (EN m))) fun v e' τ w6 hp h=>?_
 obtain⟨rfl,rfl,rfl⟩:=hp
 rw[Z5,E5 (by omega) (by omega)]
 refine hnext _ _ ⟨i+1,hi1,rfl,?_⟩ (by simp only;omega)
 rw[htk]
 exact h.take 6
end
theorem Yb0{b:Int}:∀{l:List uB} {a:Int},RA l a b=true→∀x∈l,a≤x.term∧x.term≤b∧x.data.size≤2000
 | [],_,_,x,hx=>by cases hx
 | y :: l,a,h,x,hx=>by
  rw[RA] at h
  split at h
  ·cases h
  split at h
  ·cases h
  split at h
  ·cases h
  rename_i h1 h2 h3
  rcases List.mem_cons.1 hx with rfl | hx
  ·omega
  ·have:=Yb0 h x hx
   omega
theorem Jr0{l:List uB}{a b:Int}(h:RA l a b=true)(n:Nat):RA (l.take n) a b=true:=by
 rw[←List.take_append_drop n l,xO,Bool.and_eq_true] at h
 exact h.1
theorem Fr0{l:List uB}{a b:Int}(h:RA l a b=true)(n:Nat):RA (l.drop n) ((((l.take n).getLast?).map (·.term)).getD a) b=true:=by
 rw[←List.take_append_drop n l,xO,Bool.and_eq_true] at h
 exact h.2
theorem So0(log:List uB):∀(l:List uB) (i:Nat),i≤log.length→i+yF log i l≤log.length
 | [],i,h=>h
 | x :: l,i,h=>by
  unfold yF
  split
  ·rename_i c
   have:=So0 log l (i+1) c.1
   omega
  ·exact h
theorem Fj0(log:List uB):∀(l:List uB) (i j:Nat) (hj:j<l.length),j<yF log i l→bK log ((i:Int)+j+1)=(l[j]).term
 | [],_,_,hj,_=>by cases hj
 | x :: l,i,j,hj,h=>by
  unfold yF at h
  split at h
  ·rename_i c
   cases j with
   | zero =>
    have:=c.2
    rw[show ((i:Int)+((0:Nat):Int)+1)=(i:Int)+1 by omega]
    exact this
   | succ j =>
    have:=Fj0 log l (i+1) j (by rw[List.length_cons] at hj;omega) (by omega)
    rw[show (((i+1:Nat):Int)+j+1)=((i:Int)+((j+1:Nat):Int)+1) by omega] at this
    rw[this]
    rfl
  ·cases h
theorem Lj0{log:List uB}{n:Nat}(hn:n<log.length):bK log ((n:Int)+1)=(log[n]).term:=by
 unfold bK
 rw[if_neg (by omega),show ((n:Int)+1-1).toNat=n by omega,List.getElem?_eq_getElem hn]
 rfl
theorem Ua0{l:List uB}{n:Nat}(hn:n<l.length)(a:Int):(((l.take (n+1)).getLast?).map (·.term)).getD a=(l[n]).term:=by
 rw[List.take_succ_eq_append_getElem hn,List.getLast?_concat]
 rfl
theorem je0{r:G8}(hk:Y9 r):Y9 (oI r).1∧(oI r).1.id=r.id∧((r.role=2→1≤r.hard.term)→(oI r).1.role=2→1≤(oI r).1.hard.term):=by
 unfold oI
 split
 ·exact⟨hk,rfl,id⟩
 split
 ·exact⟨hk,rfl,id⟩
 ·have h1:=hk.term
  have h2:=hk.id
  refine⟨⟨hk.id,?_,?_,hk.len,RY (show r.hard.term≤r.hard.term+1 by omega) _ _ hk.sound,.inr (.inl rfl),hk.commit,(fun h=>by cases h),(fun h=>by cases h)⟩,rfl,fun _ h=>by cases h⟩
  ·show 0≤r.hard.term+1∧r.hard.term+1≤_
   omega
  ·show -1≤r.id∧r.id≤2
   unfold I3 at h2
   omega
theorem Wx0{r:G8}(hk:Y9 r){m:R9}(hm:0≤m.commit)(h:0≤m.index∧m.index+m.recs.length≤r.log.length):Y9 (Qp0 r m) :=
 ⟨hk.id,hk.term,hk.vote,hk.len,hk.sound,hk.role,(by have:=hk.commit;show 0≤max r.commit (min m.commit (m.index+m.recs.length))∧max r.commit (min m.commit (m.index+m.recs.length))≤(r.log.length:Int);omega),hk.next,hk.mtch⟩
theorem aE0{r:G8}(hk:Y9 r)(hr:r.role=0){m:R9}(hm:WO r m)(ht:m.term=r.hard.term):Y9 (QZ r m).1:=by
 unfold QZ
 split
 ·exact hk
 rename_i h1
 have h1a:¬(r.log.length:Int)<m.index:=fun h=>h1 (.inl h)
 have h1b:bK r.log m.index=m.prev:=Classical.byContradiction fun h=>h1 (.inr h)
 have hi:=hm.index
 obtain⟨mi,emi⟩:∃mi:Nat,m.index=mi:=⟨m.index.toNat,by omega⟩
 have emn:m.index.toNat=mi:=by omega
 have hsl:=So0 r.log m.recs mi (by omega)
 have hsr:=ie0 r.log m.recs mi
 have hroom:=hm.room
 rw[emn]
 split
 ·rename_i h2
  exact Wx0 hk hm.commit.1 (by omega)
 split
 ·exact hk
 rename_i h2 h3
 have hcom:=hk.commit
 have hlen:(r.log.take (mi+yF r.log mi m.recs)++m.recs.drop (yF r.log mi m.recs)).length=mi+m.recs.length:=by
  rw[List.length_append,List.length_take,List.length_drop]
  omega
 refine Wx0 (r:={ r with log:=r.log.take (mi+yF r.log mi m.recs)++m.recs.drop (yF r.log mi m.recs) }) ⟨hk.id,hk.term,hk.vote,?_,?_,hk.role,?_,(fun h=>by rw[show _=r.role from rfl,hr] at h;cases h),(fun h=>by rw[show _=r.role from rfl,hr] at h;cases h)⟩ hm.commit.1 ?_
 ·show (r.log.take (mi+yF r.log mi m.recs)++m.recs.drop (yF r.log mi m.recs)).length≤4000
  rw[hlen]
  omega
 ·show RA (r.log.take (mi+yF r.log mi m.recs)++m.recs.drop (yF r.log mi m.recs)) 1 r.hard.term=true
  rw[xO,Bool.and_eq_true]
  refine⟨Jr0 hk.sound _,?_⟩
  have hs:=hm.sound
  rw[ht] at hs
  generalize hk':yF r.log mi m.recs=k at *
  cases k with
  | zero =>
   rw[List.drop_zero,Nat.add_zero]
   refine Uo0 m.recs ?_ hs
   cases mi with
   | zero =>
    show (((r.log.take 0).getLast?).map (·.term)).getD 1≤max 1 m.prev
    rw[List.take_zero]
    show (1:Int)≤_
    omega
   | succ n =>
    rw[Ua0 (by omega)]
    rw[emi,show ((n+1:Nat):Int)=(n:Int)+1 by omega,Lj0 (by omega)] at h1b
    omega
  | succ n =>
   have hd:=Fr0 hs (n+1)
   rw[Ua0 (by omega)] at hd
   rw[show mi+(n+1)=(mi+n)+1 by omega,Ua0 (by omega)]
   have:=Fj0 r.log m.recs mi n (by omega) (by omega)
   rw[show ((mi:Int)+n+1)=((mi+n:Nat):Int)+1 by omega,Lj0 (by omega)] at this
   rw[this]
   exact hd
 ·show 0≤r.commit∧r.commit≤((r.log.take (mi+yF r.log mi m.recs)++m.recs.drop (yF r.log mi m.recs)).length:Int)
  rw[hlen]
  omega
 ·show 0≤m.index∧m.index+m.recs.length≤((r.log.take (mi+yF r.log mi m.recs)++m.recs.drop (yF r.log mi m.recs)).length:Int)
  rw[hlen]
  omega
theorem ZD0(r:G8)(m:R9):(QZ r m).1.id=r.id∧(QZ r m).1.role=r.role∧(QZ r m).1.hard=r.hard:=by
 unfold QZ
 split
 ·exact⟨rfl,rfl,rfl⟩
 split
 ·exact⟨rfl,rfl,rfl⟩
 split
 ·exact⟨rfl,rfl,rfl⟩
 ·exact⟨rfl,rfl,rfl⟩
theorem Mb0(r:G8)(m:R9):m.term≤(KO r m).hard.term:=by
 unfold KO
 split
 ·exact Int.le_refl _
 ·omega
theorem ml0{r:G8}(hk:Y9 r){m:R9}(hm:WO r m)(hle:m.term≤r.hard.term)(ht:r.role=2→1≤r.hard.term):Y9 (aY r m).1∧(aY r m).1.id=r.id∧((aY r m).1.role=2→1≤(aY r m).1.hard.term):=by
 have hf:I3 m.from_:=by have:=hm.from3;unfold I3;omega
 unfold aY
 split
 ·unfold Vj0
  split
  ·have:=hm.from3
   exact⟨⟨hk.id,hk.term,(show -1≤m.from_∧m.from_≤2 by omega),hk.len,hk.sound,hk.role,hk.commit,hk.next,hk.mtch⟩,rfl,ht⟩
  ·exact⟨hk,rfl,ht⟩
 split
 ·unfold dc0
  split
  ·exact⟨hk,rfl,ht⟩
  split
  ·exact⟨XZ hk _,rfl,ht⟩
  ·rename_i h1 _
   have h2:m.term=r.hard.term:=Classical.byContradiction fun h=>h1 (.inr (.inl h))
   have h3:=hm.term
   exact⟨Rf0 (XZ hk _),rfl,fun _=>(show 1≤r.hard.term by omega)⟩
 split
 ·unfold QW
  split
  ·exact⟨hk,rfl,ht⟩
  split
  ·exact⟨hk,rfl,ht⟩
  ·rename_i h1 h2
   have hk0:Y9 { r with role:=0 }:=⟨hk.id,hk.term,hk.vote,hk.len,hk.sound,.inl rfl,hk.commit,(fun h=>by cases h),(fun h=>by cases h)⟩
   have hm0:WO { r with role:=0 } m:=⟨hm.kind,hm.to_,hm.from_,hm.from3,hm.term,hm.index,hm.prev,hm.zero,hm.commit,hm.few,hm.room,hm.sound⟩
   obtain⟨i1,i2,i3⟩:=ZD0 { r with role:=0 } m
   exact⟨aE0 hk0 rfl hm0 (show m.term=r.hard.term by omega),i1,fun h=>by rw[i2] at h;cases h⟩
 ·unfold vR
  split
  ·exact⟨hk,rfl,ht⟩
  rename_i h1
  have hlead:r.role=2:=Classical.byContradiction fun h=>h1 (.inl h)
  have hn:=hk.next hlead _ hf
  have hmt:=hk.mtch hlead _ hf
  have hix:=hm.index
  split
  ·exact⟨de0 hk hf (by omega),rfl,ht⟩
  rename_i h2
  have hyes:m.yes=true:=by cases hy:m.yes;exact absurd hy h2;rfl
  have h3:m.index≤r.log.length:=by
   by_cases c:(r.log.length:Int)<m.index
   ·exact absurd (.inr (.inr ⟨hyes,c⟩)) h1
   ·omega
  have hk2:Y9 { r with mtch:=r.mtch.set m.from_ (max (r.mtch.get m.from_) m.index),next:=r.next.set m.from_ (max (r.mtch.get m.from_) m.index+1) }:=de0 (r:={ r with mtch:=r.mtch.set m.from_ (max (r.mtch.get m.from_) m.index) }) (tt0 hk hf (by omega)) hf (by show _∧_≤(r.log.length:Int)+1;omega)
  have e1:Y9 (BV r m):=De0 hk2 hlead
  have e2:(BV r m).id=r.id∧(BV r m).hard=r.hard:=by unfold BV kJ;split<;>exact⟨rfl,rfl⟩
  have e3:(BV r m).role=2→1≤(BV r m).hard.term:=fun _=>by rw[e2.2];exact ht hlead
  split
  ·exact⟨e1,e2.1,e3⟩
  ·exact⟨e1,e2.1,e3⟩
theorem JA0(hd:SN)(q:G8×vE):(Sg0 hd q).1=q.1:=by unfold Sg0;split<;>rfl
theorem el0{r:G8}(hk:Y9 r)(ht:r.role=2→1≤r.hard.term)(m:R9):Y9 (nJ r m).1∧(nJ r m).1.id=r.id∧((nJ r m).1.role=2→1≤(nJ r m).1.hard.term):=by
 unfold nJ
 split
 ·rename_i hm
  obtain⟨hk1,hm1⟩:=Wl0 hk hm
  rw[JA0]
  have h1:(KO r m).role=2→1≤(KO r m).hard.term:=by
   unfold KO
   split
   ·intro h;cases h
   ·exact ht
  have h2:(KO r m).id=r.id:=by unfold KO;split<;>rfl
  obtain⟨a,b,c⟩:=ml0 hk1 hm1 (Mb0 r m) h1
  exact⟨a,b.trans h2,c⟩
 ·exact⟨hk,rfl,ht⟩
theorem iV{r:G8}(hk:Y9 r)(ht:r.role=2→1≤r.hard.term)(data:ByteArray):Y9 (U8 r data).r∧(U8 r data).r.id=r.id∧((U8 r data).r.role=2→1≤(U8 r data).r.hard.term):=by
 unfold U8
 split
 ·exact⟨hk,rfl,ht⟩
 split
 ·exact⟨hk,rfl,ht⟩
 split
 ·exact⟨hk,rfl,ht⟩
 ·rename_i h1 h2 h3
  have hl:r.role=2:=Classical.byContradiction h1
  exact⟨It0 hk (ht hl) (by omega) h3,rfl,ht⟩
structure QN (o:vE):Prop where
 st:TB0 o
 send:∀m∈o.send,bM m
 few:o.send.length≤1000
theorem JD{n:Int}(h0 : -1≤n)(h1:n≤1099511627776):inI n:=by unfold inI;omega
theorem Zs0{l:List uB}{a b:Int}(h:RA l a b=true)(ha:0≤a)(hb:b≤1099511627776){x:uB}(hx:x∈l):MR x:=by
 have:=Yb0 h x hx
 exact⟨JD (by omega) (by omega),by omega⟩
theorem Ws0{r:G8}(hk:Y9 r){x:uB}(hx:x∈r.log):MR x:=Zs0 hk.sound (by omega) hk.term.2 hx
theorem ih0{r:G8}(hk:Y9 r)(n:Int):0≤bK r.log n∧bK r.log n≤1099511627776:=by
 unfold bK
 split
 ·omega
 cases h:r.log[(n-1).toNat]? with
 | none=>show (0:Int)≤0∧(0:Int)≤_;omega
 | some x =>
  have hx:x∈r.log:=List.mem_of_getElem? h
  have:=Yb0 hk.sound x hx
  have:=hk.term
  show 0≤x.term∧x.term≤_
  omega
theorem FF0{m:R9}(h0:inI m.kind)(h1:inI m.from_)(h2:inI m.to_)(h3:inI m.term)(h4:inI m.index)(h5:inI m.prev)(h6:inI m.commit):∀n∈EL m,inI n:=by
 intro n hn
 unfold EL at hn
 simp only[List.mem_cons,List.not_mem_nil,or_false] at hn
 rcases hn with rfl | rfl | rfl | rfl | rfl | rfl | rfl | rfl
 ·exact h0
 ·exact h1
 ·exact h2
 ·exact h3
 ·exact h4
 ·exact h5
 ·exact h6
 ·split<;>(unfold inI;omega)
theorem kq0{r:G8}(hk:Y9 r):inI r.id:=by have:=hk.id;unfold I3 at this;exact JD (by omega) (by omega)
theorem mU{r:G8}(hk:Y9 r):inI r.hard.term:=by have:=hk.term;exact JD (by omega) (by omega)
theorem gW{r:G8}(hk:Y9 r)(hl:r.role=2){to_:Int}(ht:I3 to_):bM (z_ r to_):=by
 have h1:=hk.next hl to_ ht
 have h2:=hk.len
 have h3:=hk.commit
 have h4:=ih0 hk (r.next.get to_-1)
 refine⟨FF0 (by show inI (2:Int);exact JD (by omega) (by omega)) (kq0 hk) (by unfold I3 at ht;exact JD (by show -1≤to_;omega) (by show to_≤_;omega)) (mU hk) (JD (by show -1≤r.next.get to_-1;omega) (by show r.next.get to_-1≤_;omega)) (JD (by show -1≤bK r.log (r.next.get to_-1);omega) (by show bK r.log (r.next.get to_-1)≤_;omega)) (JD (by show -1≤r.commit;omega) (by show r.commit≤_;omega)),?_,?_⟩
 ·show ((r.log.drop _).take 8).length≤8
  rw[List.length_take]
  omega
 ·intro x hx
  have hx:x∈(r.log.drop (r.next.get to_-1).toNat).take 8:=hx
  exact Ws0 hk (List.mem_of_mem_drop (List.mem_of_mem_take hx))
theorem Tk0{r:G8}(hk:Y9 r)(hl:r.role=2):∀m∈PR r,bM m:=by
 intro m hm
 obtain⟨i,hi,rfl⟩:=List.mem_map.1 hm
 exact gW hk hl (sU hi)
theorem lk0(r:G8):(PR r).length≤3:=by unfold PR;rw[List.length_map];exact sS _
theorem GF0{o:vE}(h1:o.hard=⟨0,0⟩)(h2:o.from_=0)(h3:o.recs=[]):TB0 o:=⟨by rw[h1];exact⟨JD (by show (-1:Int)≤0;omega) (by show (0:Int)≤_;omega),JD (by show (-1:Int)≤0;omega) (by show (0:Int)≤_;omega)⟩,by rw[h2];omega,by rw[h3];exact Nat.zero_le _,by rw[h3];intro x hx;cases hx⟩
theorem Qd0{o:vE}(h1:o.hard=⟨0,0⟩)(h2:o.from_=0)(h3:o.recs=[])(h4:∀m∈o.send,bM m)(h5:o.send.length≤1000):QN o:=⟨GF0 h1 h2 h3,h4,h5⟩
theorem wK:QN o0:=Qd0 rfl rfl rfl (fun m hm=>by cases hm) (Nat.zero_le _)
theorem WU{m:R9}(h:bM m):QN { o0 with send:=[m] }:=Qd0 rfl rfl rfl (fun x hx=>by rw[List.mem_singleton.1 hx];exact h) (by show 1≤1000;omega)
theorem rf0{r:G8}(hk:Y9 r):QN (oI r).2:=by
 have hk2:=(je0 hk).1
 unfold oI at hk2 ⊢
 split
 ·rename_i h
  refine Qd0 rfl rfl rfl (Tk0 hk h) ?_
  have:=lk0 r
  show (PR r).length≤1000
  omega
 split
 ·exact wK
 ·rename_i h1 h2
  rw[if_neg h1,if_neg h2] at hk2
  have hk2:Y9 (PO r):=hk2
  have ht:=hk2.term
  have hv:=hk2.vote
  have hl:=hk2.len
  refine⟨⟨⟨mU hk2,JD (by show -1≤(PO r).hard.vote;omega) (by show (PO r).hard.vote≤_;omega)⟩,by show (0:Int)≤1000000;omega,Nat.zero_le _,fun x hx=>by cases hx⟩,?_,?_⟩
  ·intro m hm
   obtain⟨i,hi,rfl⟩:=List.mem_map.1 hm
   have hi3:=sU hi
   have h4:=ih0 hk2 (PO r).log.length
   refine⟨FF0 (by show inI (0:Int);exact JD (by omega) (by omega)) (kq0 hk2) (by unfold I3 at hi3;exact JD (by show -1≤i;omega) (by show i≤_;omega)) (mU hk2) (JD (by show (-1:Int)≤(PO r).log.length;omega) (by show ((PO r).log.length:Int)≤_;omega)) (JD (by show -1≤bK (PO r).log (PO r).log.length;omega) (by show bK (PO r).log (PO r).log.length≤_;omega)) (by show inI (0:Int);exact JD (by omega) (by omega)),Nat.zero_le _,fun x hx=>by cases hx⟩
  ·show ((o8 r.id).map _).length≤1000
   rw[List.length_map]
   have:=sS r.id
   omega
theorem iW{r:G8}(hk:Y9 r)(ht:r.role=2→1≤r.hard.term)(data:ByteArray):QN (U8 r data).o:=by
 have hk2:=(iV hk ht data).1
 unfold U8 at hk2 ⊢
 split
 ·exact wK
 split
 ·exact wK
 split
 ·exact wK
 ·rename_i h1 h2 h3
  rw[if_neg h1,if_neg h2,if_neg h3] at hk2
  have hl:r.role=2:=Classical.byContradiction h1
  have hlen:=hk.len
  have hk2:Y9 (wV r data):=hk2
  refine⟨⟨⟨JD (by show (-1:Int)≤0;omega) (by show (0:Int)≤_;omega),JD (by show (-1:Int)≤0;omega) (by show (0:Int)≤_;omega)⟩,by show (r.log.length:Int)+1≤1000000;omega,by show 1≤100;omega,fun x hx=>?_⟩,Tk0 hk2 hl,?_⟩
  ·rw[List.mem_singleton.1 hx]
   exact⟨mU hk,by show data.size≤_;omega⟩
  ·have:=lk0 (wV r data)
   show (PR (wV r data)).length≤1000
   omega
theorem XW{r:G8}(hk:Y9 r){m:R9}(hf:I3 m.from_){k i:Int}(hkk:0≤k∧k≤3)(hi : -1≤i∧i≤100000)(yes:Bool):bM ⟨k,r.id,m.from_,r.hard.term,i,0,0,yes,[]⟩:=by
 refine⟨FF0 (JD (by show -1≤k;omega) (by show k≤_;omega)) (kq0 hk) (by unfold I3 at hf;exact JD (by show -1≤m.from_;omega) (by show m.from_≤_;omega)) (mU hk) (JD (by show -1≤i;omega) (by show i≤_;omega)) (by show inI (0:Int);exact JD (by omega) (by omega)) (by show inI (0:Int);exact JD (by omega) (by omega)),Nat.zero_le _,fun x hx=>by cases hx⟩
theorem yy0{r:G8}(hk:Y9 r){m:R9}(hm:WO r m)(hle:m.term≤r.hard.term)(ht:r.role=2→1≤r.hard.term):QN (aY r m).2:=by
 have hf:I3 m.from_:=by have:=hm.from3;unfold I3;omega
 have hk2:=(ml0 hk hm hle ht).1
 have hlen:=hk.len
 have hix:=hm.index
 unfold aY at hk2 ⊢
 split
 ·unfold Vj0
  split
  ·exact WU (XW hk hf (by omega) (by omega) true)
  ·exact WU (XW hk hf (by omega) (by omega) false)
 split
 ·unfold dc0
  split
  ·exact wK
  split
  ·exact wK
  ·refine Qd0 rfl rfl rfl (Tk0 (Rf0 (XZ hk _)) rfl) ?_
   have:=lk0 (CZ { r with votes:=r.votes.set m.from_ true })
   show (PR (CZ { r with votes:=r.votes.set m.from_ true })).length≤1000
   omega
 split
 ·unfold QW
  split
  ·exact WU (XW hk hf (by omega) (by omega) false)
  split
  ·exact wK
  ·unfold QZ
   have hroom:=hm.room
   have hsl:=ie0 r.log m.recs m.index.toNat
   split
   ·exact WU (XW (r:=r) hk hf (by omega) (by show -1≤min (r.log.length:Int) (m.index-1)∧min (r.log.length:Int) (m.index-1)≤100000;omega) false)
   split
   ·exact WU (XW (r:=r) hk hf (by omega) (by omega) true)
   split
   ·exact wK
   ·refine⟨⟨⟨JD (by show (-1:Int)≤0;omega) (by show (0:Int)≤_;omega),JD (by show (-1:Int)≤0;omega) (by show (0:Int)≤_;omega)⟩,?_,?_,fun x hx=>?_⟩,fun x hx=>?_,by show 1≤1000;omega⟩
    ·show m.index+(yF r.log m.index.toNat m.recs:Nat)+1≤1000000
     omega
    ·show (m.recs.drop _).length≤100
     rw[List.length_drop]
     have:=hm.few
     omega
    ·have hx:x∈m.recs:=List.mem_of_mem_drop hx
     exact Zs0 hm.sound (by omega) hm.term.2 hx
    ·rw[List.mem_singleton.1 hx]
     exact XW (r:=r) hk hf (by omega) (by omega) true
 ·unfold vR at hk2 ⊢
  split
  ·exact wK
  rename_i h1
  have hlead:r.role=2:=Classical.byContradiction fun h=>h1 (.inl h)
  split
  ·rename_i h2
   rw[if_neg (by assumption),if_neg (by assumption),if_neg (by assumption),if_neg h1,if_pos h2] at hk2
   exact WU (gW (r:=wi0 r m) hk2 hlead hf)
  split
  ·rename_i h2 h3
   rw[if_neg (by assumption),if_neg (by assumption),if_neg (by assumption),if_neg h1,if_neg h2,if_pos h3] at hk2
   refine WU (gW (r:=BV r m) hk2 ?_ hf)
   unfold BV kJ
   split<;>exact hlead
  ·exact wK
theorem Ay0{hd:SN}{q:G8×vE}(hk:Y9 q.1)(h:QN q.2):QN (Sg0 hd q).2:=by
 unfold Sg0
 split
 ·exact h
 ·have:=hk.vote
  exact⟨⟨⟨mU hk,JD (by show -1≤q.1.hard.vote;omega) (by show q.1.hard.vote≤_;omega)⟩,h.st.from_,h.st.few,h.st.recs⟩,h.send,h.few⟩
theorem qf0{r:G8}(hk:Y9 r)(ht:r.role=2→1≤r.hard.term)(m:R9):QN (nJ r m).2:=by
 unfold nJ
 split
 ·rename_i hm
  obtain⟨hk1,hm1⟩:=Wl0 hk hm
  have h1:(KO r m).role=2→1≤(KO r m).hard.term:=by
   unfold KO
   split
   ·intro h;cases h
   ·exact ht
  exact Ay0 (ml0 hk1 hm1 (Mb0 r m) h1).1 (yy0 hk1 hm1 (Mb0 r m) h1)
 ·exact wK
def pI(g:nA)(id:Int)(u:UpP)(r:G8):nA:=XG g id { (g.mem.get id) with up:=some { u with r:=r } }
def zV(g:nA)(id:Int)(f:G8→G8×vE):nA×Int :=
 if upE g id≠0 then(g,upE g id)
 else match (g.mem.get id).up with
  | none=>(g,9)
  | some u=>doS (pI g id u (f u.r).1) id { u with r:=(f u.r).1 } (f u.r).2
structure GOk (g:nA):Prop where
 ups:ZY g.mem
 net:HV g.net
 com:g.committed.length≤1000000
theorem BU{g:nA}{id:Int}(h:upE g id=0):I3 id∧∃u,(g.mem.get id).up=some u:=by
 unfold upE at h
 split at h
 ·cases h
 rename_i c
 split at h
 ·rename_i hu
  exact⟨by unfold I3;omega,Option.isSome_iff_exists.1 hu⟩
 ·cases h
theorem GAt.same{cs:Array Value}{q:GQ}{mem mem':T3 UH}{cv:Value}(h:GAt cs q mem cv)(he:∀i,I3 i→(mem'.get i).up.isSome=(mem.get i).up.isSome):GAt cs q mem' cv :=
 ⟨h.size,fun i hi=>by rw[he i hi];exact h.mem i hi,h.np,h.cv⟩
theorem th0{g:nA}{id:Int}{u:UpP}{r:G8}(hi:I3 id)(hu:(g.mem.get id).up=some u)(i:Int)(hi2:I3 i):((pI g id u r).mem.get i).up.isSome=(g.mem.get i).up.isSome:=by
 by_cases c:i=id
 ·subst c
  show ((g.mem.set i _).get i).up.isSome=_
  rw[T3.IA _ hi,hu]
  rfl
 ·show ((g.mem.set id _).get i).up.isSome=_
  rw[T3.WG _ hi hi2 _ c]
theorem bG.set{mem:T3 UH}{B:Base}(h:bG mem B){i:Int}(hi:I3 i){m:UH}(hm:O4 m.kv m.d.keep B∧m.d.keep.length≤1000000):bG (mem.set i m) B:=fun j hj=>by
 by_cases c:j=i
 ·subst c
  rw[T3.IA _ hi]
  exact hm
 ·rw[T3.WG _ hi hj _ c]
  exact h j hj
theorem bG.mono{mem:T3 UH}{B B':Base}(h:bG mem B)(base:∀{d:Dat},d B→d B'):bG mem B':=fun i hi=>⟨base (h i hi).1,(h i hi).2⟩
section
variable {B:Base} {w:World} {σ τ:List Dat} {pg:Nat} {g:nA} {K:PtK}
theorem ox0{q:GQ}{cs:Array Value}{cv:Value}{i:Int}{u:UpP}{s:Sem Next}{post:Value→G8→Dat→Prop}(h:Rel B w (lW pg g q cs cv))(hi:I3 i)(hu:(g.mem.get i).up=some u)
  (G:∀B':Base,(∀{d:Dat},d B→d B')→Does prog B' (bA (q.m.get i).rp u.r) s fun v e' τ=>∃r' d,e'=bA (q.m.get i).rp r'∧τ=[d]∧post v r' d)
  (k:∀v r' d w',post v r' d→Rel B w' (lW pg (pI g i u r') q cs cv++[d])→K v w'):upK prog s w K:=by
 have hL:u_ (q.m.get i) (g.mem.get i)=eF [Z6 (q.m.get i).dp (g.mem.get i).d (g.mem.get i).kv,JB (q.m.get i).dp (q.m.get i).jc (q.m.get i).jp u.j,O1 (q.m.get i).cp U4 (ccs (q.m.get i).dp 2 u.c),bA (q.m.get i).rp u.r]:=by
  unfold u_ Az0
  rw[hu]
 have hR:∀r',u_ (q.m.get i) { (g.mem.get i) with up:=some { u with r:=r' } }=eF [Z6 (q.m.get i).dp (g.mem.get i).d (g.mem.get i).kv,JB (q.m.get i).dp (q.m.get i).jc (q.m.get i).jp u.j,O1 (q.m.get i).cp U4 (ccs (q.m.get i).dp 2 u.c),bA (q.m.get i).rp r']:=fun _=>rfl
 rcases hi.cases with rfl | rfl | rfl
 ·have h:Rel B w (u_ (q.m.get 0) (g.mem.get 0) :: [O1 pg K4 cs,u_ q.m.b g.mem.b,u_ q.m.c g.mem.c,KD q.np g.net,Y3 M3 cv (g.committed.map ofL)]):=h.pick [1,0,2,3,4,5] (by decide)
  rw[hL] at h
  have h:=Rel.nS h
  refine h.act 3 rfl (fun B2 own base2=>G B2 base2) fun v e' τ w' hp h=>?_
  obtain⟨r',d,rfl,rfl,hp⟩:=hp
  refine k v r' d w' hp ?_
  have h:Rel B w' ([Z6 (q.m.get 0).dp (g.mem.get 0).d (g.mem.get 0).kv,JB (q.m.get 0).dp (q.m.get 0).jc (q.m.get 0).jp u.j,O1 (q.m.get 0).cp U4 (ccs (q.m.get 0).dp 2 u.c),bA (q.m.get 0).rp r']++[O1 pg K4 cs,u_ q.m.b g.mem.b,u_ q.m.c g.mem.c,KD q.np g.net,Y3 M3 cv (g.committed.map ofL),d]):=h
  have h:=Rel.RL h
  rw[←hR] at h
  exact h.pick [1,0,2,3,4,5,6] (by decide)
 ·have h:Rel B w (u_ (q.m.get 1) (g.mem.get 1) :: [O1 pg K4 cs,u_ q.m.a g.mem.a,u_ q.m.c g.mem.c,KD q.np g.net,Y3 M3 cv (g.committed.map ofL)]):=h.pick [2,0,1,3,4,5] (by decide)
  rw[hL] at h
  have h:=Rel.nS h
  refine h.act 3 rfl (fun B2 own base2=>G B2 base2) fun v e' τ w' hp h=>?_
  obtain⟨r',d,rfl,rfl,hp⟩:=hp
  refine k v r' d w' hp ?_
  have h:Rel B w' ([Z6 (q.m.get 1).dp (g.mem.get 1).d (g.mem.get 1).kv,JB (q.m.get 1).dp (q.m.get 1).jc (q.m.get 1).jp u.j,O1 (q.m.get 1).cp U4 (ccs (q.m.get 1).dp 2 u.c),bA (q.m.get 1).rp r']++[O1 pg K4 cs,u_ q.m.a g.mem.a,u_ q.m.c g.mem.c,KD q.np g.net,Y3 M3 cv (g.committed.map ofL),d]):=h
  have h:=Rel.RL h
  rw[←hR] at h
  exact h.pick [1,2,0,3,4,5,6] (by decide)
 ·have h:Rel B w (u_ (q.m.get 2) (g.mem.get 2) :: [O1 pg K4 cs,u_ q.m.a g.mem.a,u_ q.m.b g.mem.b,KD q.np g.net,Y3 M3 cv (g.committed.map ofL)]):=h.pick [3,0,1,2,4,5] (by decide)
  rw[hL] at h
  have h:=Rel.nS h
  refine h.act 3 rfl (fun B2 own base2=>G B2 base2) fun v e' τ w' hp h=>?_
  obtain⟨r',d,rfl,rfl,hp⟩:=hp
  refine k v r' d w' hp ?_
  have h:Rel B w' ([Z6 (q.m.get 2).dp (g.mem.get 2).d (g.mem.get 2).kv,JB (q.m.get 2).dp (q.m.get 2).jc (q.m.get 2).jp u.j,O1 (q.m.get 2).cp U4 (ccs (q.m.get 2).dp 2 u.c),bA (q.m.get 2).rp r']++[O1 pg K4 cs,u_ q.m.a g.mem.a,u_ q.m.b g.mem.b,KD q.np g.net,Y3 M3 cv (g.committed.map ofL),d]):=h
  have h:=Rel.RL h
  rw[←hR] at h
  exact h.pick [1,2,3,0,4,5,6] (by decide)
theorem oB0(hT:VT B)(hP:VI B)(hok:GOk g)(hke:bG g.mem B){id:Int}{fv:Value}{f:G8→G8×vE}
  (hf:∀u,(g.mem.get id).up=some u→I3 id→UOk id { u with r:=(f u.r).1 }∧QN (f u.r).2∧∀(B':Base) (p:Nat),(∀{d:Dat},d B→d B')→Does prog B' (bA p u.r) (dA fv #[ptr p]) fun v e' τ=>e'=bA p (f u.r).1∧τ=[eG v (f u.r).2]) :
  Does prog B (kC pg g) (Z0 xI #[ptr pg,.int .i64 id,fv]) fun v e' τ=>v = .int .i64 (zV g id f).2∧e'=kC pg (zV g id f).1∧τ=[]:=by
 refine Does.intro fun B' w K base h k=>?_
 replace hT:=base hT
 replace hP:=base hP
 replace hke:=hke.mono base
 refine lL.up ?_
 unfold lL.pt
 unfold zV at k
 refine h.ask (fun B2 own base2=>zH0 (own (i:=0) rfl) id) fun w1 h=>?_
 rw[Q7,G5,K3]
 refine⟨fun c=>?_,fun c=>?_⟩
 case refine_2 =>
  rw[if_pos c] at k
  exact k _ _ [] _ ⟨rfl,rfl,rfl⟩ h
 rw[if_neg (fun hh=>hh c)] at k
 obtain⟨hi,u,hu⟩:=BU c
 rw[hu] at k
 simp only at k
 obtain⟨hu2,hfo,hG⟩:=hf u hu hi
 obtain⟨q,cs,cv,ha,h⟩:=kC.open h
 rw[List.append_nil] at h
 have hat:=ha.mem id hi
 rw[hu] at hat
 simp -zeta only[J5,U0 OC,Nat.zero_add]
 rw[ZX hi,U0 lF,h.ld 0 rfl P8 (o:=4 * id.toNat+3) hat.at3]
 refine ox0 (post:=fun v r' d=>r'=(f u.r).1∧d=eG v (f u.r).2) h hi hu (fun B2 base2=>?_) fun v r' d w2 hp h=>?_
 ·intro w σ i K h0 h1 h2
  refine hG B2 (q.m.get id).rp (fun hd=>base2 (base hd)) w σ i K h0 h1 fun v e' τ w' hp=>h2 v e' τ w' ?_
  obtain⟨rfl,rfl⟩:=hp
  exact⟨_,_,rfl,rfl,rfl,rfl⟩
 obtain⟨rfl,rfl⟩:=hp
 obtain⟨B2,ext2,h9,ho⟩:=h.On0
 have up2:∀{d:Dat},d B'→d B2:=fun hd=>Dat.mono _ ext2.le hd
 obtain⟨⟨rv,sv⟩,ev,qr,qs⟩:=ho
 have ev:v = .agg (f_ (f u.r).2 rv.1 sv.1):=ev
 subst ev
 have h:Rel B2 w2 [kC pg (pI g id u (f u.r).1)]:=kC.close (τ:=[]) (ha.same (th0 hi hu)) (by rw[List.append_nil];exact h9)
 have hok2:ZY (pI g id u (f u.r).1).mem:=hok.ups.set hi fun u' hu'=>by cases hu';exact hu2
 have hke2:bG (pI g id u (f u.r).1).mem B2:=(hke.mono up2).set hi ((hke.mono up2) id hi)
 have hsome:((pI g id u (f u.r).1).mem.get id).up=some { u with r:=(f u.r).1 }:=by
  show ((g.mem.set id _).get id).up=_
  rw[T3.IA _ hi]
 refine h.act 0 rfl (fun B3 own base3=>GE0 (base3 (up2 hT)) (base3 (up2 hP)) hok2 (hke2.mono base3) hok.net hok.com hi hsome hfo.st hfo.send hfo.few (base3 qr) (base3 qs)) fun v e' τ w3 hp h=>?_
 obtain⟨rfl,rfl,rfl⟩:=hp
 exact k _ _ [] _ ⟨rfl,rfl,rfl⟩ (ext2.rel h)
def lh0(g:nA)(id:Int):nA×Int:=zV g id oI
theorem bE0(hT:VT B)(hP:VI B)(hok:GOk g)(hke:bG g.mem B)(id:Int):Does prog B (kC pg g) (Z0 VM #[ptr pg,.int .i64 id]) fun v e' τ=>v = .int .i64 (lh0 g id).2∧e'=kC pg (lh0 g id).1∧τ=[]:=by
 refine Does.intro fun B' w K base h k=>?_
 refine jL.up ?_
 unfold jL.pt
 refine h.act 0 rfl (fun B2 own base2=>oB0 (f:=oI) (base2 (base hT)) (base2 (base hP)) hok (hke.mono fun hd=>base2 (base hd)) fun u hu hi=>?_) fun v e' τ w1 hp h=>?_
 ·have huok:=hok.ups id hi u hu
  obtain⟨a,b,c⟩:=je0 huok.r
  refine⟨⟨huok.j,a,b.trans huok.id,c huok.term⟩,rf0 huok.r,fun B3 p base3=>?_⟩
  intro w σ i K h0 h1 h2
  exact YH (LG0 (p:=p) huok.r w σ i K h0 h1 h2)
 ·exact k _ _ _ _ hp h
end
def CU(g:nA)(n:CO):nA:={ g with net:=n }
def WN(g:nA)(i:Int)(m:R9):nA×Int :=
 if(aA g.net i).1.2≠0 then(CU g (aA g.net i).2,(aA g.net i).1.2)
 else zV (CU g (aA g.net i).2) (aA g.net i).1.1.to_ fun r=>nJ r m
structure zE0 where
 g:nA
 n:Int
 e:Int
def ZP(g:nA)(id:Int)(u:UpP)(x:BE0):zE0 :=
 if x.e≠0 then⟨pI g id u x.r,0,x.e⟩
 else if(doS (pI g id u x.r) id { u with r:=x.r } x.o).2≠0 then⟨(doS (pI g id u x.r) id { u with r:=x.r } x.o).1,0,(doS (pI g id u x.r) id { u with r:=x.r } x.o).2⟩
 else⟨(doS (pI g id u x.r) id { u with r:=x.r } x.o).1,x.n,0⟩
def oJ(g:nA)(id:Int)(data:ByteArray):zE0 :=
 if upE g id≠0 then⟨g,0,upE g id⟩
 else match (g.mem.get id).up with
  | none=>⟨g,0,9⟩
  | some u=>ZP g id u (U8 u.r data)
theorem RE0{s:CO}{n:Nat}(h:HV s):HV (rmS s n):=⟨DD0 h.1,fun p hp=>by
 rcases List.mem_append.1 hp with hp | hp
 ·exact h.2 p (List.mem_of_mem_take hp)
 ·exact h.2 p (List.mem_of_mem_drop hp)⟩
theorem uY{s:CO}{i:Int}(h:HV s):HV (aA s i).2:=by
 unfold aA
 split
 ·split
  ·exact RE0 h
  ·exact RE0 h
 ·exact h
section
variable {B:Base} {w:World} {σ τ:List Dat} {pg:Nat} {g:nA} {K:PtK}
theorem FC0{p o:Nat}{r:G8}{m:R9}{pk:bU}(hW:qC B)(hP:VI B)(hk:Y9 r)(hm:bM m)(hb:pk.body=ofL (EN m))(hc:O1 o K5 pk.cs.toArray B):Does prog B (bA p r) (Z0 OH #[ptr p,ptr o]) fun v e' τ=>e'=bA p (nJ r m).1∧τ=[eG v (nJ r m).2]:=by
 refine Does.intro fun B' w K base h k=>?_
 replace hW:=base hW
 replace hP:=base hP
 replace hc:=base hc
 refine NF.up ?_
 unfold NF.pt
 have hmf:=hm.few
 refine h.alloc qF fun t w1 h=>?_
 have h:Rel B' w1 [bA p r,O1 t F3 (f_ o0 (.slice none 0 0) (.slice none 0 0))]:=h
 simp -zeta only[U0 jf0,Nat.zero_add]
 rw[O1.ld (h.L6 hc) U6 (o:=2) (v := .string pk.body) rfl,hb]
 refine h.make (fun B2 own base2=>rG0 (base2 hW) (base2 hP) hm) fun v τ w2 hp h=>?_
 obtain⟨mv,rfl,rfl⟩:=hp
 rw[M9,D9]
 have h:Rel B' w2 [bA p r,O1 t F3 (f_ o0 (.slice none 0 0) (.slice none 0 0)),Y3 X3 mv.1 m.recs]:=h
 refine h.R8 (ds:=(m.raw mv).cs.toArray) vJ rfl Z8 rfl (fun v hv=>Enc.one (m.raw mv) v hv) fun m4 w3 h=>?_
 rw[h.r9 3 rfl Z8 rfl]
 refine h.act 0 rfl (fun B2 own base2=>ZE0 hk (Y3.read (own (j:=2) (by decide) rfl)) (by omega)) fun v e' τ w4 hp h=>?_
 obtain⟨rfl,rfl⟩:=hp
 have h:Rel B' w4 ([bA p (nJ r m).1,O1 t F3 (f_ o0 (.slice none 0 0) (.slice none 0 0)),Y3 X3 mv.1 m.recs,O1 m4 Y1 (m.raw mv).cs.toArray]++[eG v (nJ r m).2]):=h
 obtain⟨rv,sv,ev,h2⟩:=eG.jP h
 subst ev
 refine BK (i:=1) h2 rfl rfl rfl (FE rv.2 sv.2) fun w5 h3=>?_
 refine k _ _ _ _ ⟨rfl,rfl⟩ ?_
 have h3:=h3.pick [0,4] (by decide)
 exact h3.imp (i:=1) (e:=eG (.agg (f_ (nJ r m).2 rv.1 sv.1)) (nJ r m).2) rfl fun B hB=>eG.of rv.2 sv.2 hB.1 hB.2
theorem KF0(h:Rel B w [kC pg g]):∃q cs cv,GAt cs q g.mem cv∧Rel B w [O1 pg K4 cs,u_ q.m.a g.mem.a,u_ q.m.b g.mem.b,u_ q.m.c g.mem.c,KD q.np g.net,Y3 M3 cv (g.committed.map ofL)]:=by
 obtain⟨q,cs,cv,ha,h⟩:=kC.open h
 exact⟨q,cs,cv,ha,h⟩
theorem Gy0{q:GQ}{cs:Array Value}{cv:Value}{n:CO}(ha:GAt cs q g.mem cv)(h:Rel B w [O1 pg K4 cs,u_ q.m.a g.mem.a,u_ q.m.b g.mem.b,u_ q.m.c g.mem.c,KD q.np n,Y3 M3 cv (g.committed.map ofL)]):Rel B w [kC pg (CU g n)] :=
 kC.close (g:=CU g n) (τ:=[]) ha (by rw[List.append_nil];exact h)
theorem Up0(hT:VT B)(hW:qC B)(hP:VI B)(hok:GOk g)(hke:bG g.mem B)(i:Int){m:R9}(hm:(aA g.net i).1.2=0→bM m∧(aA g.net i).1.1.body=ofL (EN m)):Does prog B (kC pg g) (Z0 xJ #[ptr pg,.int .i64 i]) fun v e' τ=>v = .int .i64 (WN g i m).2∧e'=kC pg (WN g i m).1∧τ=[]:=by
 refine Does.intro fun B' w K base h k=>?_
 replace hT:=base hT
 replace hW:=base hW
 replace hP:=base hP
 replace hke:=hke.mono base
 refine mH.up ?_
 unfold mH.pt
 obtain⟨q,cs,cv,ha,h⟩:=KF0 h
 simp -zeta only[J5,U0 uQ,Nat.zero_add]
 rw[h.ld 0 rfl nR (o:=12) ha.np]
 refine h.act 4 rfl (fun B2 own base2=>Su0 hok.net.1 i) fun v e' τ w1 hp h=>?_
 obtain⟨rfl,rfl,rfl⟩:=hp
 have hn2:=uY (i:=i) hok.net
 unfold WN at k
 have h:Rel B' w1 [kC pg (CU g (aA g.net i).2)]:=Gy0 ha h
 generalize aA g.net i=x at *
 obtain⟨⟨pk,e⟩,n⟩:=x
 simp only at h hn2 hm k ⊢
 rw[M9,D9]
 refine h.R8 (ds:=pk.cs.toArray) BL rfl a_ rfl (fun v hv=>Enc.one pk v hv) fun p5 w2 h=>?_
 have h:Rel B' w2 ([kC pg (CU g n)]++[O1 p5 K5 pk.cs.toArray]):=h
 rw[Q7,G5,K3]
 refine⟨fun c=>?_,fun c=>?_⟩
 case refine_2 =>
  rw[if_pos c] at k
  exact k _ _ [] _ ⟨rfl,rfl,rfl⟩ (h.take 1)
 rw[if_neg (fun hh=>hh c)] at k
 obtain⟨hfm,hb⟩:=hm c
 simp -zeta only[U0 aW,Nat.zero_add]
 rw[h.ld 1 rfl Y2 (o:=1) (v := .int .i64 pk.to_) rfl,TI]
 have hok2:GOk (CU g n):=⟨hok.ups,hn2,hok.com⟩
 refine h.act 0 rfl (fun B2 own base2=>oB0 (f:=fun r=>nJ r m) (base2 hT) (base2 hP) hok2 (hke.mono base2) fun u hu hi=>?_) fun v e' τ w3 hp h=>?_
 ·have huok:=hok.ups pk.to_ hi u hu
  obtain⟨a,b,c⟩:=el0 huok.r huok.term m
  refine⟨⟨huok.j,a,b.trans huok.id,c⟩,qf0 huok.r huok.term m,fun B3 p base3=>?_⟩
  have hc:=base3 (own (j:=1) (by decide) rfl)
  intro w σ i K h0 h1 h2
  exact YH (FC0 (p:=p) (base3 (base2 hW)) (base3 (base2 hP)) huok.r hfm hb hc w σ i K h0 h1 h2)
 ·obtain⟨rfl,rfl,rfl⟩:=hp
  exact k _ _ [] _ ⟨rfl,rfl,rfl⟩ (h.take 1)
theorem cw0(h0:kC pg g B):Gives prog B (Z0 yJ #[ptr pg]) (.int .i64 g.net.fl.length):=by
 refine Gives.intro fun B' w K base h k=>?_
 obtain⟨q,cs,cv,ha,c0,c1,c2,c3⟩:=kC.jP (base h0)
 refine nH.up ?_
 unfold nH.pt
 simp -zeta only[J5,U0 uQ,Nat.zero_add]
 rw[O1.ld (h.L6 c0) nR (o:=12) ha.np]
 refine h.ask (fun B2 own base2=>iC0 (base2 c1)) fun w1 h=>?_
 exact k _ _ h
theorem gn0(h0:kC pg g B)(hc:g.committed.length≤1000000):Makes prog B (Z0 NH #[ptr pg]) fun u τ=>τ=[Y3 M3 u (g.committed.map ofL)]:=by
 refine Makes.intro fun B' w K base h k=>?_
 obtain⟨q,cs,cv,ha,c0,c1,c2,c3⟩:=kC.jP (base h0)
 refine MF.up ?_
 unfold MF.pt
 have hl:(g.committed.map ofL).length=g.committed.length:=List.length_map ..
 simp -zeta only[J5,U0 vV,Nat.zero_add]
 rw[O1.ld (h.L6 c0) K9 (o:=13) ha.cv]
 refine h.make (fun B2 own base2=>XP (base2 c2) (by omega) (by omega)) fun u τ w1 hp h=>?_
 exact k _ _ _ hp h
theorem Cg0(hT:VT B)(hP:VI B)(hok:GOk g)(hke:bG g.mem B)(id:Int)(data:ByteArray):Does prog B (kC pg g) (Z0 EF #[ptr pg,.int .i64 id,.string data]) fun v e' τ=>v = .tuple #[.int .i64 (oJ g id data).n,.int .i64 (oJ g id data).e]∧e'=kC pg (oJ g id data).g∧τ=[]:=by
 refine Does.intro fun B' w K base h k=>?_
 replace hT:=base hT
 replace hP:=base hP
 replace hke:=hke.mono base
 refine oH.up ?_
 unfold oH.pt
 unfold oJ at k
 refine h.ask (fun B2 own base2=>zH0 (own (i:=0) rfl) id) fun w1 h=>?_
 rw[Q7,G5,K3]
 refine⟨fun c=>?_,fun c=>?_⟩
 case refine_2 =>
  rw[if_pos c] at k
  exact k _ _ [] _ ⟨rfl,rfl,rfl⟩ h
 rw[if_neg (fun hh=>hh c)] at k
 obtain⟨hi,u,hu⟩:=BU c
 rw[hu] at k
 simp only at k
 have huok:=hok.ups id hi u hu
 obtain⟨q,cs,cv,ha,h⟩:=kC.open h
 rw[List.append_nil] at h
 have hat:=ha.mem id hi
 rw[hu] at hat
 simp -zeta only[J5,U0 OC,Nat.zero_add]
 rw[ZX hi,U0 lF,h.ld 0 rfl P8 (o:=4 * id.toNat+3) hat.at3]
 refine ox0 (post:=fun v r' d=>r'=(U8 u.r data).r∧∃o,v = .tuple #[.int .i64 (U8 u.r data).n,.int .i64 (U8 u.r data).e,o]∧d=eG o (U8 u.r data).o) h hi hu (fun B2 base2=>?_) fun v r' d w2 hp h=>?_
 ·intro w σ i K h0 h1 h2
  refine lu0 huok.r huok.term data w σ i K h0 h1 fun v e' τ w' hp=>h2 v e' τ w' ?_
  obtain⟨rfl,o,rfl,rfl⟩:=hp
  exact⟨_,_,rfl,rfl,rfl,o,rfl,rfl⟩
 obtain⟨rfl,o,rfl,rfl⟩:=hp
 obtain⟨a,b,c2⟩:=iV huok.r huok.term data
 have hfo:=iW huok.r huok.term data
 obtain⟨B2,ext2,h9,ho⟩:=h.On0
 have up2:∀{d:Dat},d B'→d B2:=fun hd=>Dat.mono _ ext2.le hd
 obtain⟨⟨rv,sv⟩,ev,qr,qs⟩:=ho
 have ev:o = .agg (f_ (U8 u.r data).o rv.1 sv.1):=ev
 subst ev
 generalize U8 u.r data=x at *
 rw[UU,Md0,Od0]
 have h:Rel B2 w2 [kC pg (pI g id u x.r)]:=kC.close (τ:=[]) (ha.same (th0 hi hu)) (by rw[List.append_nil];exact h9)
 refine h.R8 (ds:=f_ x.o rv.1 sv.1) qF rfl EC rfl (FE rv.2 sv.2) fun o11 w3 h=>?_
 unfold ZP at k
 refine P6 fun J hJ=>?_
 rw[F7,K3]
 refine⟨fun c=>?_,fun c=>?_⟩
 case refine_2 =>
  rw[if_pos c] at k
  refine hJ _ _ ?_
  rw[Q7,G5,K3]
  exact⟨fun hh=>absurd hh c,fun _=>k _ _ [] _ ⟨rfl,rfl,rfl⟩ (ext2.rel (h.take 1))⟩
 rw[if_neg (fun hh=>hh c)] at k
 rw[h.r9 1 rfl EC rfl]
 have hok2:ZY (pI g id u x.r).mem:=hok.ups.set hi fun u' hu'=>by cases hu';exact⟨huok.j,a,b.trans huok.id,c2⟩
 have hke2:bG (pI g id u x.r).mem B2:=(hke.mono up2).set hi ((hke.mono up2) id hi)
 have hsome:((pI g id u x.r).mem.get id).up=some { u with r:=x.r }:=by
  show ((g.mem.set id _).get id).up=_
  rw[T3.IA _ hi]
 refine h.act 0 rfl (fun B3 own base3=>GE0 (base3 (up2 hT)) (base3 (up2 hP)) hok2 (hke2.mono base3) hok.net hok.com hi hsome hfo.st hfo.send hfo.few (base3 qr) (base3 qs)) fun v e' τ w4 hp h=>?_
 obtain⟨rfl,rfl,rfl⟩:=hp
 refine hJ _ _ ?_
 rw[Q7,G5,K3]
 refine⟨fun c=>?_,fun c=>?_⟩
 ·rw[if_neg (fun hh=>hh c)] at k
  exact k _ _ [] _ ⟨rfl,rfl,rfl⟩ (ext2.rel (h.take 1))
 ·rw[if_pos c] at k
  exact k _ _ [] _ ⟨rfl,rfl,rfl⟩ (ext2.rel (h.take 1))
end
end Go.Proofs.YtngbebnhegcokaaGreatDoor
