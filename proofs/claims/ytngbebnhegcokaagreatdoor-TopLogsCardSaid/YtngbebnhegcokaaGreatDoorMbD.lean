/-
  Part 4 of the proof that TopLogs holds, for the parts that follow; made small by program out of longer texts. No condition.
-/
import Derived.Test.YtngbebnhegcokaaGreatDoorMbC
set_option linter.all false
namespace Go.Proofs.YtngbebnhegcokaaGreatDoor
open Go.Proofs.Tryz (prog)
open Go.RowKit
set_option maxRecDepth 100000
theorem T3.Z9{α:Type}(t:T3 α){i:Int}(hi:I3 i)(x:α):(t.set i x).get i=x:=by
 rcases hi.cases with rfl | rfl | rfl<;>rfl
theorem T3.LB{α:Type}(t:T3 α){i j:Int}(hi:I3 i)(hj:I3 j)(x:α)(h:j≠i):(t.set i x).get j=t.get j:=by
 rcases hi.cases with rfl | rfl | rfl<;>rcases hj.cases with rfl | rfl | rfl<;>first | rfl | exact absurd rfl h
theorem wb0{r:H7}(hk:H8 r){i n:Int}(hi:I3 i)(hn:1≤n∧n≤r.log.length+1):H8 { r with next:=r.next.set i n } :=
 ⟨hk.id,hk.term,hk.C_,hk.len,hk.sound,hk.role,hk.commit,fun hl j hj=>by
  show 1≤(r.next.set i n).get j∧(r.next.set i n).get j≤_
  by_cases c:j=i
  ·rw[c,T3.Z9 _ hi];exact hn
  ·rw[T3.LB _ hi hj _ c];exact hk.next hl j hj,hk.mtch⟩
theorem co0{r:H7}(hk:H8 r){i n:Int}(hi:I3 i)(hn:0≤n∧n≤r.log.length):H8 { r with mtch:=r.mtch.set i n } :=
 ⟨hk.id,hk.term,hk.C_,hk.len,hk.sound,hk.role,hk.commit,hk.next,fun hl j hj=>by
  show 0≤(r.mtch.set i n).get j∧(r.mtch.set i n).get j≤_
  by_cases c:j=i
  ·rw[c,T3.Z9 _ hi];exact hn
  ·rw[T3.LB _ hi hj _ c];exact hk.mtch hl j hj⟩
theorem zh0{r:H7}(hk:H8 r)(hl:r.role=2):H8 (KF r):=by
 have:=JZ hk hl
 unfold KF
 split
 ·exact⟨hk.id,hk.term,hk.C_,hk.len,hk.sound,hk.role,this,hk.next,hk.mtch⟩
 ·exact hk
theorem Nm0(r:H7):(KF r).role=r.role∧(KF r).log=r.log∧(KF r).next=r.next:=by unfold KF;split<;>exact⟨rfl,rfl,rfl⟩
def af0(r:H7)(m:U8):H7:={ r with next:=r.next.set m.from_ (max (r.mtch.get m.from_+1) (min (r.next.get m.from_-1) (m.index+1))) }
def TN(r:H7)(m:U8):H7:=KF { r with mtch:=r.mtch.set m.from_ (max (r.mtch.get m.from_) m.index),next:=r.next.set m.from_ (max (r.mtch.get m.from_) m.index+1) }
def FJ(r:H7)(m:U8):H7×LC :=
 if r.role≠2∨m.term≠r.hard.term∨(m.yes=true∧(r.log.length:Int)<m.index) then(r,o0)
 else if m.yes=false then(af0 r m,{ o0 with send:=[o_ (af0 r m) m.from_] })
 else if max (r.mtch.get m.from_) m.index+1≤r.log.length then(TN r m,{ o0 with send:=[o_ (TN r m) m.from_] })
 else(TN r m,o0)
section
variable {B:Base} {w:World} {σ τ:List Dat} {p:Nat} {r:H7} {K:PtK}
set_option maxHeartbeats 2000000 in
theorem Kx0{lv:SV}{o t:Nat}{cs ds:Array Value}(hk:H8 r)(hlead:r.role=2){to_:Int}(ht:I3 to_)(hc:cs.size=6)
  (h:Rel B w [O1 p I1 (P_ r lv.1),V3 U3 lv.1 r.log,O1 o U1 ds,O1 t Y2 cs])
  (k:∀u w',Rel B w' [U_ p r,rG u { o0 with send:=[o_ r to_] }]→K u w') :
  upK prog (Z0 uA #[ptr p,.int .i64 to_]) w fun t70 w5 =>
  upK prog (Z0 D_ #[t70]) w5 fun t71 w6 =>
  upK prog (F4 Y2 (.pointer (some ⟨t,0,none⟩)) t71) w6 fun _ w7 =>
  S9 prog (do loadVar Y2 (←asAddr (.pointer (some ⟨t,0,none⟩)))) w7 fun t4_1=>K t4_1 w7:=by
 refine h.make (fun B2 own base2=>fl0 (BJ.of lv.2 (own (i:=0) rfl) (V3.read (own (i:=1) rfl))) hk hlead ht) fun u τ w1 hp h=>?_
 obtain⟨v,rfl,rfl⟩:=hp
 refine h.make (fun B2 own base2=>Ah0 (m:=o_ r to_) (v:=v) (V3.read (own (i:=4) rfl))) fun u τ w2 hp h=>?_
 obtain⟨s,rfl,rfl⟩:=hp
 refine SK (i:=3) h rfl hc rfl (UE (o:={ o0 with send:=[o_ r to_] }) rfl s.2) fun w3 h=>?_
 have h:=h.pick [0,1,4,5] (by decide)
 have h:Rel B w3 ([O1 p I1 (P_ r lv.1),V3 U3 lv.1 r.log]++[V3 U3 v.1 (o_ r to_).recs,V3 U1 s.1 [(o_ r to_).raw v]]):=h
 have h:=h.wrap (c:=rG (.agg (g_ { o0 with send:=[o_ r to_] } (.slice none 0 0) s.1)) { o0 with send:=[o_ r to_] }) fun B2 own=>rG.of rfl s.2 LY (qb0 (V3.read (own (i:=1) rfl)) (V3.read (own (i:=0) rfl)))
 exact k _ _ (U_.close lv h)
set_option maxHeartbeats 2000000 in
theorem yt0(hk:H8 r){m:U8}{v:SV}(hf:I3 m.from_)(hi:0≤m.index∧m.index≤4000):Does prog B (U_ p r) (Z0 EF #[ptr p,(m.raw v).v]) fun u e' τ=>e'=U_ p (FJ r m).1∧τ=[rG u (FJ r m).2]:=by
 refine Does.intro fun B' w K base h k=>?_
 refine ND.up ?_
 unfold ND.pt
 obtain⟨lv,h⟩:=U_.open h
 have h:Rel B' w [O1 p I1 (P_ r lv.1),V3 U3 lv.1 r.log]:=h
 have hlen:=hk.len
 refine h.box fun o w1 h=>?_
 have h:Rel B' w1 [O1 p I1 (P_ r lv.1),V3 U3 lv.1 r.log,O1 o U1 (m.raw v).cs.toArray]:=h
 refine h.alloc BF fun t w2 h=>?_
 have h:Rel B' w2 [O1 p I1 (P_ r lv.1),V3 U3 lv.1 r.log,O1 o U1 (m.raw v).cs.toArray,O1 t Y2 (g_ o0 (.slice none 0 0) (.slice none 0 0))]:=h
 refine Q6 fun J hJ=>?_
 have h:=h.tick
 generalize tick w2=w2 at *
 unfold FJ at k
 simp -zeta only[y5,U0 x_,U0 y_,U0 dD,U0 UC,U0 JK,U0 rF,U0 LK,Nat.zero_add,Nat.add_zero]
 rw[h.ld 0 rfl F3 (o:=4) (v := .int .i64 r.role) rfl,X7,K5,K3]
 refine⟨fun c1=>?_,fun c1=>?_⟩
 case refine_2 =>
  rw[if_pos (.inl c1)] at k
  refine pJ (i:=3) h rfl rfl fun w3 h=>?_
  exact k _ _ _ _ ⟨rfl,rfl⟩ (FD (h.pick [0,1] (by decide)) rfl)
 rw[h.ld 2 rfl F3 (o:=3) (v := .int .i64 m.term) rfl,h.ld 0 rfl F3 (o:=1) (v := .int .i64 r.hard.term) rfl,X7,K5,K3]
 refine⟨fun c2=>?_,fun c2=>?_⟩
 case refine_2 =>
  rw[if_pos (.inr (.inl c2))] at k
  refine pJ (i:=3) h rfl rfl fun w3 h=>?_
  exact k _ _ _ _ ⟨rfl,rfl⟩ (FD (h.pick [0,1] (by decide)) rfl)
 have go:¬(m.yes=true∧(r.log.length:Int)<m.index)→∀w',Rel B' w' [O1 p I1 (P_ r lv.1),V3 U3 lv.1 r.log,O1 o U1 (m.raw v).cs.toArray,O1 t Y2 (g_ o0 (.slice none 0 0) (.slice none 0 0))]→J () w':=by
  intro c3 w' h
  refine hJ _ _ ?_
  clear hJ
  rw[if_neg (fun hh=>hh.elim (fun h=>h c1) fun hh=>hh.elim (fun h=>h c2) c3)] at k
  have h:=h.tick
  generalize tick w'=w' at *
  simp -zeta only[U0 xN,Nat.zero_add]
  rw[h.ld 2 rfl F3 (o:=1) (v := .int .i64 m.from_) rfl]
  simp -zeta only[y5,U0 ZL,U0 aM,U0 rF,U0 LK,Nat.zero_add]
  rw[Dz0 hf,h.ld 2 rfl F3 (o:=1) (v := .int .i64 m.from_) rfl,Dz0 hf]
  simp -zeta only[y5]
  have hn:=hk.next c1 _ hf
  have hm:=hk.mtch c1 _ hf
  rw[h.ld 2 rfl RB (o:=7) (v := .bool m.yes) rfl,V8,K5,Q5]
  have h:=h.tick
  generalize tick w'=w' at *
  refine⟨fun c4=>?_,fun c4=>?_⟩
  ·rw[if_neg (by rw[c4];decide)] at k
   have c5:m.index≤r.log.length:=by
    by_cases c:(r.log.length:Int)<m.index
    ·exact absurd ⟨c4,c⟩ c3
    ·omega
   rw[h.ld 0 rfl F3 (o:=12+m.from_.toNat) (TV hf).2.1,h.ld 2 rfl F3 (o:=4) (v := .int .i64 m.index) rfl,kL]
   refine h.st 0 rfl F3 (o:=12+m.from_.toNat) (show 12+m.from_.toNat<15 by unfold I3 at hf;omega) rfl fun w3 h=>?_
   rw[(pW (r:=r) (lv:=lv.1) hf _ true).2.1] at h
   have g:=(TV (r:={ r with mtch:=r.mtch.set m.from_ (max (r.mtch.get m.from_) m.index) }) (lv:=lv.1) hf).2.1
   rw[show T3.get ({ r with mtch:=r.mtch.set m.from_ (max (r.mtch.get m.from_) m.index) }:H7).mtch m.from_=max (r.mtch.get m.from_) m.index from T3.Z9 _ hf _] at g
   have h:Rel B' w3 [O1 p I1 (P_ { r with mtch:=r.mtch.set m.from_ (max (r.mtch.get m.from_) m.index) } lv.1),V3 U3 lv.1 r.log,O1 o U1 (m.raw v).cs.toArray,O1 t Y2 (g_ o0 (.slice none 0 0) (.slice none 0 0))]:=h
   rw[h.ld 0 rfl F3 (o:=12+m.from_.toNat) g,V5,D5 (by omega) (by omega)]
   refine h.st 0 rfl F3 (o:=9+m.from_.toNat) (show 9+m.from_.toNat<15 by unfold I3 at hf;omega) rfl fun w4 h=>?_
   rw[(pW (r:={ r with mtch:=r.mtch.set m.from_ (max (r.mtch.get m.from_) m.index) }) (lv:=lv.1) hf _ true).1] at h
   have hk2:H8 { r with mtch:=r.mtch.set m.from_ (max (r.mtch.get m.from_) m.index),next:=r.next.set m.from_ (max (r.mtch.get m.from_) m.index+1) }:=wb0 (r:={ r with mtch:=r.mtch.set m.from_ (max (r.mtch.get m.from_) m.index) }) (co0 hk hf (by omega)) hf (by show _∧_≤(r.log.length:Int)+1;omega)
   have h:Rel B' w4 ([O1 p I1 (P_ { r with mtch:=r.mtch.set m.from_ (max (r.mtch.get m.from_) m.index),next:=r.next.set m.from_ (max (r.mtch.get m.from_) m.index+1) } lv.1),V3 U3 lv.1 r.log]++[O1 o U1 (m.raw v).cs.toArray,O1 t Y2 (g_ o0 (.slice none 0 0) (.slice none 0 0))]):=h
   have h:=U_.close (r:={ r with mtch:=r.mtch.set m.from_ (max (r.mtch.get m.from_) m.index),next:=r.next.set m.from_ (max (r.mtch.get m.from_) m.index+1) }) lv h
   refine h.act 0 rfl (fun B2 own base2=>vy0 hk2 c1) fun u e' τ w5 hp h=>?_
   obtain⟨rfl,rfl⟩:=hp
   have hac:=Nm0 { r with mtch:=r.mtch.set m.from_ (max (r.mtch.get m.from_) m.index),next:=r.next.set m.from_ (max (r.mtch.get m.from_) m.index+1) }
   have hk3:=zh0 hk2 c1
   have e1:(TN r m).log=r.log:=hac.2.1
   have e2:(TN r m).role=2:=hac.1.trans c1
   have e3:(TN r m).next.get m.from_=max (r.mtch.get m.from_) m.index+1:=by
    rw[show (TN r m).next=r.next.set m.from_ (max (r.mtch.get m.from_) m.index+1) from hac.2.2]
    exact T3.Z9 _ hf _
   have h:Rel B' w5 (U_ p (TN r m) :: [O1 o U1 (m.raw v).cs.toArray,O1 t Y2 (g_ o0 (.slice none 0 0) (.slice none 0 0))]):=h
   have hk3:H8 (TN r m):=hk3
   generalize TN r m=r2 at *
   clear hac hk2
   obtain⟨lv2,h⟩:=U_.open h
   have h:Rel B' w5 [O1 p I1 (P_ r2 lv2.1),V3 U3 lv2.1 r2.log,O1 o U1 (m.raw v).cs.toArray,O1 t Y2 (g_ o0 (.slice none 0 0) (.slice none 0 0))]:=h
   have h:=h.tick
   generalize tick w5=w5 at *
   have g2:=(TV (r:=r2) (lv:=lv2.1) hf).1
   rw[e3] at g2
   rw[h.ld 0 rfl F3 (o:=9+m.from_.toNat) g2]
   simp -zeta only[y5,U0 y_,Nat.zero_add]
   rw[h.ld 0 rfl O5 (o:=3) (v:=lv2.1) rfl,Q4.len (V3.read (h.here (i:=1) rfl)) U5,gD,K3,e1]
   refine⟨fun c6=>?_,fun c6=>?_⟩
   ·rw[if_pos c6] at k
    rw[h.ld 2 rfl F3 (o:=1) (v := .int .i64 m.from_) rfl]
    exact Kx0 hk3 e2 hf rfl h fun u w' h=>k _ _ _ _ ⟨rfl,rfl⟩ h
   ·rw[if_neg c6] at k
    refine pJ (i:=3) h rfl rfl fun w3 h=>?_
    exact k _ _ _ _ ⟨rfl,rfl⟩ (FD (h.pick [0,1] (by decide)) rfl)
  ·rw[if_pos c4] at k
   rw[h.ld 0 rfl F3 (o:=12+m.from_.toNat) (TV hf).2.1,V5,D5 (by omega) (by omega),h.ld 0 rfl F3 (o:=9+m.from_.toNat) (TV hf).1,eF,D5 (by omega) (by omega),h.ld 2 rfl F3 (o:=4) (v := .int .i64 m.index) rfl,V5,D5 (by omega) (by omega),PP,kL]
   refine h.st 0 rfl F3 (o:=9+m.from_.toNat) (show 9+m.from_.toNat<15 by unfold I3 at hf;omega) rfl fun w3 h=>?_
   rw[(pW (r:=r) (lv:=lv.1) hf _ true).1] at h
   have hk2:H8 (af0 r m):=wb0 hk hf (by omega)
   have h:Rel B' w3 [O1 p I1 (P_ (af0 r m) lv.1),V3 U3 lv.1 (af0 r m).log,O1 o U1 (m.raw v).cs.toArray,O1 t Y2 (g_ o0 (.slice none 0 0) (.slice none 0 0))]:=h
   rw[h.ld 2 rfl F3 (o:=1) (v := .int .i64 m.from_) rfl]
   exact Kx0 hk2 c1 hf rfl h fun u w' h=>k _ _ _ _ ⟨rfl,rfl⟩ h
 rw[h.ld 2 rfl RB (o:=7) (v := .bool m.yes) rfl,Q5]
 refine⟨fun c3=>?_,fun c3=>go (fun hh=>by rw[c3] at hh;cases hh.1) _ h⟩
 rw[h.ld 2 rfl F3 (o:=4) (v := .int .i64 m.index) rfl,h.ld 0 rfl O5 (o:=3) (v:=lv.1) rfl,Q4.len (V3.read (h.here (i:=1) rfl)) U5,A_,K3]
 refine⟨fun c4=>?_,fun c4=>go (fun hh=>c4 hh.2) _ h⟩
 rw[if_pos (.inr (.inr ⟨c3,c4⟩))] at k
 refine pJ (i:=3) h rfl rfl fun w3 h=>?_
 exact k _ _ _ _ ⟨rfl,rfl⟩ (FD (h.pick [0,1] (by decide)) rfl)
end
def gB(log:List J7):Nat→List J7→Nat
 | _,[]=>0
 | i,x :: l=>if i+1≤log.length∧YE log ((i:Int)+1)=x.term then gB log (i+1) l+1 else 0
theorem qc0(log:List J7):∀(l:List J7) (i:Nat),gB log i l≤l.length
 | [],_=>Nat.le_refl _
 | x :: l,i=>by
  unfold gB
  have:=qc0 log l (i+1)
  split
  ·rw[List.length_cons];omega
  ·omega
def YO(r:H7)(m:U8)(yes:Bool)(i:Int):U8:=⟨3,r.id,m.from_,r.hard.term,i,0,0,yes,[]⟩
def Lp0(r:H7)(m:U8):H7:={ r with commit:=max r.commit (min m.commit (m.index+m.recs.length)) }
def JW(r:H7)(m:U8):H7×LC :=
 if(r.log.length:Int)<m.index∨YE r.log m.index≠m.prev then(r,{ o0 with send:=[YO r m false (min r.log.length (m.index-1))] })
 else if gB r.log m.index.toNat m.recs=m.recs.length then(Lp0 r m,{ o0 with send:=[YO r m true (m.index+m.recs.length)] })
 else if m.index+gB r.log m.index.toNat m.recs+1≤r.commit then(r,o0)
 else(Lp0 { r with log:=r.log.take (m.index.toNat+gB r.log m.index.toNat m.recs)++m.recs.drop (gB r.log m.index.toNat m.recs) } m,
  { o0 with from_:=m.index+gB r.log m.index.toNat m.recs+1,recs:=m.recs.drop (gB r.log m.index.toNat m.recs),send:=[YO r m true (m.index+m.recs.length)] })
def AR(r:H7)(m:U8):H7×LC :=
 if m.term<r.hard.term then(r,{ o0 with send:=[YO r m false 0] })
 else if r.role=2 then(r,o0)
 else JW { r with role:=0 } m
section
variable {B:Base} {w:World} {σ τ:List Dat} {p:Nat} {r:H7} {K:PtK}
theorem eC0{r':H7}{lv:SV}{o t a:Nat}{cs ds:Array Value}{m:U8}(hm:m.recs=[])(hc:cs.size=6)
  (h:Rel B w [O1 p I1 (P_ r' lv.1),V3 U3 lv.1 r'.log,O1 o U1 ds,O1 t Y2 cs,O1 a U1 (m.raw YB).cs.toArray])
  (k:∀u w',Rel B w' [U_ p r',rG u { o0 with send:=[m] }]→K u w') :
  Y0 prog (X0 U1 (.pointer (some ⟨a,0,none⟩))) w fun t70 =>
  upK prog (Z0 D_ #[t70]) w fun t71 w6 =>
  upK prog (F4 Y2 (.pointer (some ⟨t,0,none⟩)) t71) w6 fun _ w7 =>
  S9 prog (do loadVar Y2 (←asAddr (.pointer (some ⟨t,0,none⟩)))) w7 fun t4_1=>K t4_1 w7:=by
 rw[h.Q9 4 rfl Q8 rfl]
 refine h.make (fun B2 own base2=>Ah0 (m:=m) (v:=YB) (by rw[hm];exact LY)) fun u τ w9 hp h=>?_
 obtain⟨s,rfl,rfl⟩:=hp
 refine SK (i:=3) h rfl hc rfl (UE (o:={ o0 with send:=[m] }) rfl s.2) fun w10 h=>?_
 have h:=h.pick [0,1,5] (by decide)
 have h:Rel B w10 ([O1 p I1 (P_ r' lv.1),V3 U3 lv.1 r'.log]++[V3 U1 s.1 [m.raw YB]]):=h
 have h:=h.wrap (c:=rG (.agg (g_ { o0 with send:=[m] } (.slice none 0 0) s.1)) { o0 with send:=[m] }) fun B2 own=>rG.of rfl s.2 LY (qb0 (V3.read (own (i:=0) rfl)) (by rw[hm];exact LY))
 exact k _ _ (U_.close lv h)
set_option maxHeartbeats 4000000 in
theorem iC0(hk:H8 r){m:U8}{v:SV}(hm:gI r m)(q:Q4 v.1 m.recs B):Does prog B (U_ p r) (Z0 ZG #[ptr p,(m.raw v).v]) fun u e' τ=>e'=U_ p (AR r m).1∧τ=[rG u (AR r m).2]:=by
 refine Does.intro fun B' w K base h k=>?_
 replace q:=base q
 refine lF.up ?_
 unfold lF.pt
 obtain⟨lv,h⟩:=U_.open h
 have h:Rel B' w [O1 p I1 (P_ r lv.1),V3 U3 lv.1 r.log]:=h
 have hlen:=hk.len
 have hmi:=hm.index
 have hmr:=hm.room
 have hmf:=hm.few
 refine h.box fun o w1 h=>?_
 have h:Rel B' w1 [O1 p I1 (P_ r lv.1),V3 U3 lv.1 r.log,O1 o U1 (m.raw v).cs.toArray]:=h
 refine h.alloc BF fun t w2 h=>?_
 have h:Rel B' w2 [O1 p I1 (P_ r lv.1),V3 U3 lv.1 r.log,O1 o U1 (m.raw v).cs.toArray,O1 t Y2 (g_ o0 (.slice none 0 0) (.slice none 0 0))]:=h
 simp -zeta only[y5,U0 x_,U0 y_,U0 dD,U0 wH,U0 UC,U0 xN,U0 JK,U0 rF,U0 yN,U0 XT,U0 LK,U0 uQ,Nat.zero_add,Nat.add_zero]
 rw[h.ld 2 rfl F3 (o:=1) (v := .int .i64 m.from_) rfl]
 refine h.ask (fun B2 own base2=>kY (BJ.of lv.2 (own (i:=0) rfl) (V3.read (own (i:=1) rfl))) 3 m.from_) fun w3 h=>?_
 refine h.r9 (ds:=((YO r m false 0).raw YB).cs.toArray) JJ rfl Q8 rfl (fun v hv=>Enc.one ((YO r m false 0).raw YB) v hv) fun a w4 h=>?_
 have h:Rel B' w4 [O1 p I1 (P_ r lv.1),V3 U3 lv.1 r.log,O1 o U1 (m.raw v).cs.toArray,O1 t Y2 (g_ o0 (.slice none 0 0) (.slice none 0 0)),O1 a U1 ((YO r m false 0).raw YB).cs.toArray]:=h
 have h:=h.tick
 generalize tick w4=w4 at *
 unfold AR at k
 rw[h.ld 2 rfl F3 (o:=3) (v := .int .i64 m.term) rfl,h.ld 0 rfl F3 (o:=1) (v := .int .i64 r.hard.term) rfl,D6,K3]
 refine⟨fun c1=>?_,fun c1=>?_⟩
 ·rw[if_pos c1] at k
  exact eC0 rfl rfl h fun u w' h=>k _ _ _ _ ⟨rfl,rfl⟩ h
 rw[if_neg c1] at k
 rw[h.ld 0 rfl F3 (o:=4) (v := .int .i64 r.role) rfl,O6,K3]
 refine⟨fun c2=>?_,fun c2=>?_⟩
 ·rw[if_pos c2] at k
  refine pJ (i:=3) h rfl rfl fun w3 h=>?_
  exact k _ _ _ _ ⟨rfl,rfl⟩ (FD (h.pick [0,1] (by decide)) rfl)
 rw[if_neg c2] at k
 refine h.st 0 rfl F3 (o:=4) (show 4<15 by omega) rfl fun w5 h=>?_
 have h:Rel B' w5 [O1 p I1 (P_ { r with role:=0 } lv.1),V3 U3 lv.1 { r with role:=0 }.log,O1 o U1 (m.raw v).cs.toArray,O1 t Y2 (g_ o0 (.slice none 0 0) (.slice none 0 0)),O1 a U1 ((YO { r with role:=0 } m false 0).raw YB).cs.toArray]:=h
 have hlen:{ r with role:=0 }.log.length≤4000:=hlen
 have hcom:0≤{ r with role:=0 }.commit∧{ r with role:=0 }.commit≤{ r with role:=0 }.log.length:=hk.commit
 clear hk c1 c2 hm
 generalize { r with role:=0 }=r at *
 unfold JW at k
 have back:((r.log.length:Int)<m.index∨YE r.log m.index≠m.prev)→∀w',Rel B' w' [O1 p I1 (P_ r lv.1),V3 U3 lv.1 r.log,O1 o U1 (m.raw v).cs.toArray,O1 t Y2 (g_ o0 (.slice none 0 0) (.slice none 0 0)),O1 a U1 ((YO r m false 0).raw YB).cs.toArray] →
   Y0 prog (X0 O3 (.pointer (some ⟨p,3,none⟩))) w' fun t53 =>
   Y0 prog (J5 .len #[O3] Q0 #[false] #[t53]) w' fun t54 =>
   Y0 prog (X0 Q0 (.pointer (some ⟨o,4,none⟩))) w' fun t56 =>
   M0 prog (Y3 .sub Q0 (.tmp 56) (.const (.int .i64 1)) t56 (.int .i64 1)) fun t57 =>
   M0 prog (J5 .min #[Q0,Q0] Q0 #[false,false] #[t54,t57]) fun t58 =>
   M0 prog (O0 U1 (.pointer (some ⟨a,0,none⟩)) 4) fun t59 =>
   upK prog (F4 Q0 t59 t58) w' fun _ w10 =>
   Y0 prog (X0 U1 (.pointer (some ⟨a,0,none⟩))) w10 fun t60 =>
   upK prog (Z0 D_ #[t60]) w10 fun t61 w11 =>
   upK prog (F4 Y2 (.pointer (some ⟨t,0,none⟩)) t61) w11 fun _ w12 =>
   S9 prog (do loadVar Y2 (←asAddr (.pointer (some ⟨t,0,none⟩)))) w12 fun t4_3=>K t4_3 w12:=by
  intro c w' h
  rw[if_pos c] at k
  rw[h.ld 0 rfl O5 (o:=3) (v:=lv.1) rfl,Q4.len (V3.read (h.here (i:=1) rfl)) U5,h.ld 2 rfl F3 (o:=4) (v := .int .i64 m.index) rfl,eF,D5 (by omega) (by omega),PP,U0 rF,Nat.zero_add]
  refine h.st 4 rfl F3 (o:=4) (show 4<9 by omega) rfl fun w6 h=>?_
  exact eC0 (m:=YO r m false (min r.log.length (m.index-1))) rfl rfl h fun u w' h=>k _ _ _ _ ⟨rfl,rfl⟩ h
 have h:=h.tick
 generalize tick w5=w5 at *
 rw[h.ld 2 rfl F3 (o:=4) (v := .int .i64 m.index) rfl]
 rw[h.ld 0 rfl O5 (o:=3) (v:=lv.1) rfl,Q4.len (V3.read (h.here (i:=1) rfl)) U5,A_,K3]
 refine⟨fun c3=>back (.inl c3) _ h.tick,fun c3=>?_⟩
 rw[h.ld 2 rfl F3 (o:=4) (v := .int .i64 m.index) rfl,h.ld 2 rfl F3 (o:=5) (v := .int .i64 m.prev) rfl]
 refine h.ask (fun B2 own base2=>pY (BJ.of lv.2 (own (i:=0) rfl) (V3.read (own (i:=1) rfl))) (by omega) ⟨by omega,by omega⟩) fun w6 h=>?_
 refine⟨h.is 2 rfl F3 (o:=5) rfl,?_⟩
 rw[X7,K5,K3]
 refine⟨fun c4=>?_,fun c4=>back (.inr c4) _ h.tick⟩
 clear back
 rw[if_neg (fun hh=>hh.elim c3 fun h=>h c4)] at k
 obtain⟨mi,emi⟩:∃mi:Nat,m.index=mi:=⟨m.index.toNat,by omega⟩
 have emn:m.index.toNat=mi:=by omega
 rw[emn] at k
 refine h.alloc BF fun o6 w7 h=>?_
 have h:Rel B' w7 [O1 p I1 (P_ r lv.1),V3 U3 lv.1 r.log,O1 o U1 (m.raw v).cs.toArray,O1 t Y2 (g_ o0 (.slice none 0 0) (.slice none 0 0)),O1 a U1 ((YO r m false 0).raw YB).cs.toArray,O1 o6 Y2 (g_ o0 (.slice none 0 0) (.slice none 0 0))]:=h
 refine Q6 fun J1 hJ1=>?_
 replace hJ1:∀(r':H7) (lv':SV) (o':LC) (rv:SV) (w':World),r'.commit=r.commit→(∀yes i,YO r' m yes i=YO r m yes i)→o'.send=[]→(∀u w',Rel B' w' [U_ p (Lp0 r' m),rG u { o' with send:=[YO r m true (m.index+m.recs.length)] }]→K u w') →
   Rel B' w' [O1 p I1 (P_ r' lv'.1),V3 U3 lv'.1 r'.log,O1 o U1 (m.raw v).cs.toArray,O1 t Y2 (g_ o0 (.slice none 0 0) (.slice none 0 0)),O1 a U1 ((YO r' m false 0).raw YB).cs.toArray,O1 o6 Y2 (g_ o' rv.1 (.slice none 0 0)),Q4 rv.1 o'.recs]→J1 () w':=by
  intro r' lv' o' rv w' hc ha hs k2 h
  refine hJ1 _ _ ?_
  clear hJ1 k
  have h:=h.tick
  generalize tick w'=w' at *
  rw[h.ld 2 rfl F3 (o:=4) (v := .int .i64 m.index) rfl,h.ld 2 rfl O5 (o:=8) (v:=v.1) rfl,Q4.len q U5,V5,D5 (by omega) (by omega)]
  simp -zeta only[U0 LK,U0 rF,Nat.zero_add]
  refine h.st 4 rfl RB (o:=7) (show 7<9 by omega) rfl fun w8 h=>?_
  refine⟨?_,h.is 2 rfl O5 (o:=8) rfl,h.is 2 rfl F3 (o:=4) rfl,?_⟩
  ·have:=Q4.len (P:=prog) (w:=w8) (T:=O3) (U:=Q0) (bs:=#[false]) (Kp:=fun x=>x = .int .i64 m.recs.length) (h.K6 q) U5
   obtain⟨x,h1,rfl⟩:=this.mpr rfl
   exact h1
  refine h.st 4 rfl F3 (o:=4) (show 4<9 by omega) rfl fun w9 h=>?_
  have h:=h.tick
  generalize tick w9=w9 at *
  have h:Rel B' w9 [O1 p I1 (P_ r' lv'.1),V3 U3 lv'.1 r'.log,O1 o U1 (m.raw v).cs.toArray,O1 t Y2 (g_ o0 (.slice none 0 0) (.slice none 0 0)),O1 a U1 ((YO r' m true (m.index+m.recs.length)).raw YB).cs.toArray,O1 o6 Y2 (g_ o' rv.1 (.slice none 0 0)),Q4 rv.1 o'.recs]:=h
  rw[h.ld 0 rfl F3 (o:=5) (v := .int .i64 r'.commit) rfl,h.ld 2 rfl F3 (o:=6) (v := .int .i64 m.commit) rfl,h.ld 4 rfl F3 (o:=4) (v := .int .i64 (m.index+m.recs.length)) rfl,PP,kL]
  refine h.st 0 rfl F3 (o:=5) (show 5<15 by omega) rfl fun w10 h=>?_
  have h:Rel B' w10 [O1 p I1 (P_ (Lp0 r' m) lv'.1),V3 U3 lv'.1 r'.log,O1 o U1 (m.raw v).cs.toArray,O1 t Y2 (g_ o0 (.slice none 0 0) (.slice none 0 0)),O1 a U1 ((YO r' m true (m.index+m.recs.length)).raw YB).cs.toArray,O1 o6 Y2 (g_ o' rv.1 (.slice none 0 0)),Q4 rv.1 o'.recs]:=h
  rw[h.Q9 4 rfl Q8 rfl,ha]
  refine h.bH (α:=dp0) ((YO r m true (m.index+m.recs.length)).raw YB) EL (by decide) fun s w11 h=>?_
  have hs1:s.oneCell'=true:=h.oneCell (i:=7) rfl
  simp -zeta only[U0 kX,Nat.zero_add]
  refine h.st 5 rfl aS (o:=5) (show 5<6 by omega) hs1 fun w12 h=>?_
  rw[h.Q9 5 rfl SC rfl]
  refine SK (i:=3) (ds:=g_ { o' with send:=[YO r m true (m.index+m.recs.length)] } rv.1 s) h rfl rfl rfl (UE rv.2 hs1) fun w13 h=>?_
  have h:=h.pick [0,1,6,7] (by decide)
  have h:Rel B' w13 ([O1 p I1 (P_ (Lp0 r' m) lv'.1),V3 U3 lv'.1 (Lp0 r' m).log]++[Q4 rv.1 o'.recs,V3 U1 s [(YO r m true (m.index+m.recs.length)).raw YB]]):=h
  have h:=h.wrap (c:=rG (.agg (g_ { o' with send:=[YO r m true (m.index+m.recs.length)] } rv.1 s)) { o' with send:=[YO r m true (m.index+m.recs.length)] }) fun B2 own=>rG.of rv.2 hs1 (own (i:=0) rfl) (qb0 (v:=YB) (V3.read (own (i:=1) rfl)) LY)
  exact k2 _ _ (U_.close lv' h)
 rw[h.ld 2 rfl O5 (o:=8) (v:=v.1) rfl,Q4.len q U5]
 refine M6 (fun z w'=>∃i:Nat,i≤m.recs.length∧z=(.int .i64 i,())∧mi+i≤r.log.length∧gB r.log mi m.recs=gB r.log (mi+i) (m.recs.drop i)+i∧Rel B' w' [O1 p I1 (P_ r lv.1),V3 U3 lv.1 r.log,O1 o U1 (m.raw v).cs.toArray,O1 t Y2 (g_ o0 (.slice none 0 0) (.slice none 0 0)),O1 a U1 ((YO r m false 0).raw YB).cs.toArray,O1 o6 Y2 (g_ o0 (.slice none 0 0) (.slice none 0 0))])
  (fun z _=>m.recs.length-(match z.1 with | .int _ n=>n.toNat | _=>0)) ⟨0,Nat.zero_le _,rfl,by omega,rfl,h⟩ ?_
 clear h
 rintro z w8 ⟨i,hi,rfl,hmil,hsk,h⟩ next hnext
 rw[D6,K3]
 refine⟨fun hlt=>?_,fun hge=>?_⟩
 case refine_2 =>
  have:i=m.recs.length:=by omega
  subst this
  rw[List.drop_length,gB,Nat.zero_add] at hsk
  rw[if_pos hsk] at k
  refine hJ1 r lv o0 YB _ rfl (fun _ _=>rfl) rfl (fun u w' h=>k _ _ _ _ ⟨rfl,rfl⟩ h) ?_
  exact h.Mm0 fun B=>LY
 have hil:i<m.recs.length:=by omega
 rw[List.drop_eq_getElem_cons hil,gB] at hsk
 obtain⟨g,og,hx,hc⟩:=Q4.idx q U5 (P:=prog) hil
 have hc:F6 g og m.recs[i].cs B':=hc
 rw[hx,F6.Q9 (h.K6 hc) P9 rfl]
 have hsl:=qc0 r.log m.recs mi
 generalize m.recs[i]=x at hsk ⊢
 refine h.r9 (ds:=x.cs.toArray) KL rfl P9 rfl (fun v hv=>Enc.one x v hv) fun b w9 h=>?_
 have h:Rel B' w9 [O1 p I1 (P_ r lv.1),V3 U3 lv.1 r.log,O1 o U1 (m.raw v).cs.toArray,O1 t Y2 (g_ o0 (.slice none 0 0) (.slice none 0 0)),O1 a U1 ((YO r m false 0).raw YB).cs.toArray,O1 o6 Y2 (g_ o0 (.slice none 0 0) (.slice none 0 0)),O1 b U3 x.cs.toArray]:=h
 rw[h.ld 2 rfl F3 (o:=4) (v := .int .i64 m.index) rfl,V5,D5 (by omega) (by omega),V5,D5 (by omega) (by omega)]
 rw[emi]
 refine Q6 fun J2 hJ2=>?_
 replace hJ2:¬(mi+i+1≤r.log.length∧YE r.log ((mi+i:Nat)+1)=x.term)→∀w',Rel B' w' [O1 p I1 (P_ r lv.1),V3 U3 lv.1 r.log,O1 o U1 (m.raw v).cs.toArray,O1 t Y2 (g_ o0 (.slice none 0 0) (.slice none 0 0)),O1 a U1 ((YO r m false 0).raw YB).cs.toArray,O1 o6 Y2 (g_ o0 (.slice none 0 0) (.slice none 0 0)),O1 b U3 x.cs.toArray]→J2 () w':=by
  intro c w' h
  refine hJ2 _ _ ?_
  clear hJ2 hnext
  rw[if_neg c,Nat.zero_add] at hsk
  rw[hsk,if_neg (by omega)] at k
  rw[h.ld 0 rfl F3 (o:=5) (v := .int .i64 r.commit) rfl,gD,K3]
  refine⟨fun c5=>?_,fun c5=>?_⟩
  ·rw[if_pos (by omega)] at k
   refine pJ (i:=3) h rfl rfl fun w3 h=>?_
   exact k _ _ _ _ ⟨rfl,rfl⟩ (FD (h.pick [0,1] (by decide)) rfl)
  rw[if_neg (by omega)] at k
  simp -zeta only[U0 jX,U0 of0,Nat.zero_add]
  rw[h.ld 2 rfl O5 (o:=8) (v:=v.1) rfl]
  have hcut:∀Kp:Value→Prop,M0 prog (d9 O3 v.1 (some (.int .i64 i)) none none) Kp=Kp (cutV 2 v.1 i m.recs.length):=fun Kp =>
   Q4.Sh0 (α:=J7) (P:=prog) (lo:=i) (hi:=m.recs.length) q U5 Bnd.some Bnd.none (by omega) (Nat.le_refl _)
  rw[hcut]
  have rc:=Q4.qn0 (lo:=i) (hi:=m.recs.length) q (by omega) (Nat.le_refl _)
  rw[List.take_length] at rc
  have hdl:(m.recs.drop i).length≤8:=by rw[List.length_drop];omega
  refine h.make (fun B2 own base2=>S_ (base2 rc) (by omega) (by omega)) fun u τ w10 hp h=>?_
  subst hp
  have hu1:u.oneCell'=true:=h.oneCell (i:=7) rfl
  refine h.st 5 rfl F3 (o:=3) (show 3<6 by omega) rfl fun w11 h=>?_
  refine h.st 5 rfl O5 (o:=4) (show 4<6 by omega) hu1 fun w12 h=>?_
  have h:=h.tick
  generalize tick w12=w12 at *
  rw[h.ld 0 rfl O5 (o:=3) (v:=lv.1) rfl,eF,D5 (by omega) (by omega)]
  have hcut2:∀Kp:Value→Prop,M0 prog (d9 O3 lv.1 none (some (.int .i64 ((mi:Int)+i+1-1))) none) Kp=Kp (cutV 2 lv.1 0 (mi+i)):=fun Kp=>by
   rw[show (mi:Int)+i+1-1=((mi+i:Nat):Int) by omega]
   exact Q4.Sh0 (α:=J7) (P:=prog) (lo:=0) (hi:=mi+i) (V3.read (h.here (i:=1) rfl)) U5 Bnd.none Bnd.some (by omega) (by omega)
  rw[hcut2,h.ld 5 rfl O5 (o:=4) (v:=u) rfl]
  have htl:(r.log.take (mi+i)).length≤4000:=by rw[List.length_take];omega
  refine h.make (fun B2 own base2=>S_ (l:=r.log.take (mi+i)) (by
   have:=Q4.qn0 (lo:=0) (hi:=mi+i) (V3.read (own (i:=1) rfl)) (by omega) (by omega)
   exact this) (by omega) (by omega)) fun u2 τ w13 hp h=>?_
  subst hp
  refine⟨h.is 5 rfl O5 (o:=4) rfl,?_⟩
  refine h.append (α:=J7) 8 rfl U5 (Rd.at 7 rfl) (by omega) (by omega) fun u3 w14 h=>?_
  have hu3:u3.oneCell'=true:=h.oneCell (i:=8) rfl
  refine h.st 0 rfl O5 (o:=3) (show 3<15 by omega) hu3 fun w15 h=>?_
  refine hJ1 { r with log:=r.log.take (mi+i)++m.recs.drop i } ⟨u3,hu3⟩ { o0 with from_:=m.index+i+1,recs:=m.recs.drop i } ⟨u,hu1⟩ _ rfl (fun _ _=>rfl) rfl (fun u w' h=>k _ _ _ _ ⟨rfl,rfl⟩ h) ?_
  rw[←emi] at h
  have h:=h.pick [0,8,2,3,4,5,7] (by decide)
  exact h.imp (i:=6) rfl fun B hB=>V3.read hB
 have h:=h.tick
 generalize tick w9=w9 at *
 rw[h.ld 0 rfl O5 (o:=3) (v:=lv.1) rfl,Q4.len (V3.read (h.here (i:=1) rfl)) U5,gD,K3]
 refine⟨fun c5=>?_,fun c5=>hJ2 (fun hh=>c5 (by omega)) _ h⟩
 simp -zeta only[U0 YT,Nat.zero_add]
 rw[h.ld 6 rfl F3 (o:=0) (v := .int .i64 x.term) rfl]
 refine h.ask (fun B2 own base2=>pY (BJ.of lv.2 (own (i:=0) rfl) (V3.read (own (i:=1) rfl))) (by omega) ⟨by omega,by omega⟩) fun w10 h=>?_
 refine⟨h.is 6 rfl F3 (o:=0) rfl,?_⟩
 rw[O6,K3]
 refine⟨fun c6=>?_,fun c6=>hJ2 (fun hh=>c6 (by rw[←hh.2,Int.natCast_add])) _ h⟩
 rw[V5,D5 (by omega) (by omega)]
 refine hnext _ _ ⟨i+1,hil,rfl,by omega,?_,h.pick [0,1,2,3,4,5] (by decide)⟩ (by simp only;omega)
 rw[hsk,if_pos ⟨by omega,by rw[Int.natCast_add];exact c6⟩,Nat.add_assoc mi i 1]
 omega
end
theorem RO:∀(l l2:List J7) (a b:Int),LA (l++l2) a b=(LA l a b&&LA l2 (((l.getLast?).map (·.term)).getD a) b)
 | [],l2,a,b=>by simp [LA]
 | x :: l,l2,a,b=>by
  rw[List.cons_append,LA,LA,RO l l2 x.term b]
  have:(((x :: l).getLast?).map (·.term)).getD a=((l.getLast?).map (·.term)).getD x.term:=by
   cases l with
   | nil=>rfl
   | cons y l=>rw[List.getLast?_cons_cons,List.getLast?_eq_some_getLast (List.cons_ne_nil y l)];rfl
  rw[this]
  split
  ·rw[Bool.false_and]
  split
  ·rw[Bool.false_and]
  split
  ·rw[Bool.false_and]
  rfl
theorem WZ{b c:Int}(h:b≤c):∀(l:List J7) (a:Int),LA l a b=true→LA l a c=true
 | [],_,_=>rfl
 | x :: l,a,hs=>by
  rw[LA] at hs ⊢
  split at hs
  ·cases hs
  split at hs
  ·cases hs
  split at hs
  ·cases hs
  rename_i h1 h2 h3
  rw[if_neg h1,if_neg (by omega),if_neg h3]
  exact WZ h l _ hs
theorem Nr0{b:Int}:∀(l:List J7) {a a':Int},a'≤a→LA l a b=true→LA l a' b=true
 | [],_,_,_,_=>rfl
 | x :: l,a,a',h,hs=>by
  rw[LA] at hs ⊢
  split at hs
  ·cases hs
  rw[if_neg (by omega)]
  exact hs
theorem Fj0{b:Int}:∀(l:List J7) (a:Int),a≤b→LA l a b=true→((l.getLast?).map (·.term)).getD a≤b
 | [],_,h,_=>h
 | [x],a,h,hs=>by
  rw[LA] at hs
  split at hs
  ·cases hs
  split at hs
  ·cases hs
  rename_i h1 h2
  show x.term≤b
  omega
 | x :: y :: l,a,h,hs=>by
  rw[LA] at hs
  split at hs
  ·cases hs
  split at hs
  ·cases hs
  split at hs
  ·cases hs
  rename_i h1 h2 h3
  have:=Fj0 (y :: l) x.term (by omega) hs
  rw[List.getLast?_cons_cons]
  rw[List.getLast?_eq_some_getLast (List.cons_ne_nil y l)] at this ⊢
  exact this
theorem uv0{l:List J7}{x:J7}{a b:Int}(hab:a≤b)(h:LA l a b=true)(hx:x.term=b)(hd:x.data.size≤2000):LA (l++[x]) a b=true:=by
 rw[RO,h,Bool.true_and]
 have:=Fj0 l a hab h
 rw[LA,if_neg (by omega),if_neg (by omega),if_neg (by omega)]
 rfl
def uT(r:H7)(data:ByteArray):H7:={ r with log:=r.log++[⟨r.hard.term,data⟩] }
structure jK0 where
 n:Int
 e:Int
 r:H7
 o:LC
def G7(r:H7)(data:ByteArray):jK0 :=
 if r.role≠2 then⟨0,24,r,o0⟩
 else if 2000<data.size then⟨0,1,r,o0⟩
 else if r.log.length=4000 then⟨0,6,r,o0⟩
 else⟨r.log.length+1,0,uT r data,{ o0 with from_:=r.log.length+1,recs:=[⟨r.hard.term,data⟩],send:=zR (uT r data) }⟩
theorem ux0{r:H7}(hk:H8 r)(ht:1≤r.hard.term){data:ByteArray}(hd:data.size≤2000)(hl:r.log.length≠4000):H8 (uT r data) where
 id:=hk.id
 term:=hk.term
 C_:=hk.C_
 len:=by
  show (r.log++[_]).length≤4000
  have:=hk.len
  rw[List.length_append]
  show r.log.length+1≤4000
  omega
 sound:=uv0 ht hk.sound rfl hd
 role:=hk.role
 commit:=by
  show 0≤r.commit∧r.commit≤((r.log++[_]).length:Int)
  have:=hk.commit
  rw[List.length_append]
  omega
 next:=fun h i hi=>by
  have:=hk.next h i hi
  show 1≤r.next.get i∧r.next.get i≤((r.log++[_]).length:Int)+1
  rw[List.length_append]
  omega
 mtch:=fun h i hi=>by
  have:=hk.mtch h i hi
  show 0≤r.mtch.get i∧r.mtch.get i≤((r.log++[_]).length:Int)
  rw[List.length_append]
  omega
def NF(r:H7)(m:U8):H7:=if r.hard.term<m.term then { r with hard:=⟨m.term,-1⟩,role:=0 } else r
def yQ(r:H7)(m:U8):H7×LC:=if m.kind=0 then Ec0 r m else if m.kind=1 then NU r m else if m.kind=2 then AR r m else FJ r m
def rV(hd:EB)(q:H7×LC):H7×LC:=if q.1.hard=hd then q else(q.1,{ q.2 with save:=true,hard:=q.1.hard })
def MF(r:H7)(m:U8):H7×LC:=if gI r m then rV r.hard (yQ (NF r m) m) else(r,o0)
theorem ah0{r:H7}(hk:H8 r){m:U8}(hm:gI r m):H8 (NF r m)∧gI (NF r m) m:=by
 unfold NF
 split
 ·rename_i c
  have h1:=hm.term
  have h2:=hk.term
  exact⟨⟨hk.id,(show 0≤m.term∧m.term≤_ by omega),(show (-1:Int) ≤ -1∧(-1:Int)≤2 by omega),hk.len,WZ (show r.hard.term≤m.term by omega) _ _ hk.sound,.inl rfl,hk.commit,(fun h=>by cases h),(fun h=>by cases h)⟩,
   ⟨hm.kind,hm.to_,hm.from_,hm.from3,hm.term,hm.index,hm.prev,hm.zero,hm.commit,hm.few,hm.room,hm.sound⟩⟩
 ·exact⟨hk,hm⟩
section
variable {B:Base} {w:World} {σ τ:List Dat} {p:Nat} {r:H7} {K:PtK}
theorem rG.FO{u:Value}{o:LC}(h:Rel B w (σ++[rG u o])):∃rv sv:SV,u = .agg (g_ o rv.1 sv.1)∧Rel B w (σ++[Dat.and (Q4 rv.1 o.recs) (GN sv.1 o.send)]):=by
 have hi:(σ++[rG u o])[σ.length]? = some (rG u o):=by rw[List.getElem?_append_right (Nat.le_refl _),Nat.sub_self];rfl
 obtain⟨q,h⟩:=h.ex hi
 rw[List.set_append_right _ _ (Nat.le_refl _),Nat.sub_self] at h
 have h:Rel B w (σ++[Dat.and (Dat.pure (u = .agg (g_ o q.1.1 q.2.1))) (Dat.and (Q4 q.1.1 o.recs) (GN q.2.1 o.send))]):=h
 have hi:(σ++[Dat.and (Dat.pure (u = .agg (g_ o q.1.1 q.2.1))) (Dat.and (Q4 q.1.1 o.recs) (GN q.2.1 o.send))])[σ.length]? = some (Dat.and (Dat.pure (u = .agg (g_ o q.1.1 q.2.1))) (Dat.and (Q4 q.1.1 o.recs) (GN q.2.1 o.send))):=by rw[List.getElem?_append_right (Nat.le_refl _),Nat.sub_self];rfl
 obtain⟨hp,h⟩:=h.iW hi
 rw[List.set_append_right _ _ (Nat.le_refl _),Nat.sub_self] at h
 exact⟨q.1,q.2,hp,h⟩
set_option maxHeartbeats 2000000 in
theorem oy0(hk:H8 r)(ht:r.role=2→1≤r.hard.term)(data:ByteArray):Does prog B (U_ p r) (Z0 lG #[ptr p,.string data]) fun v e' τ=>e'=U_ p (G7 r data).r∧∃u,v = .tuple #[.int .i64 (G7 r data).n,.int .i64 (G7 r data).e,u]∧τ=[rG u (G7 r data).o]:=by
 refine Does.intro fun B' w K base h k=>?_
 refine xE.up ?_
 unfold xE.pt
 obtain⟨lv,h⟩:=U_.open h
 have h:Rel B' w [O1 p I1 (P_ r lv.1),V3 U3 lv.1 r.log]:=h
 have hlen:=hk.len
 refine h.alloc BF fun t w1 h=>?_
 have h:Rel B' w1 [O1 p I1 (P_ r lv.1),V3 U3 lv.1 r.log,O1 t Y2 (g_ o0 (.slice none 0 0) (.slice none 0 0))]:=h
 unfold G7 at k
 simp -zeta only[y5,U0 x_,U0 y_,U0 dD,U0 UC,Nat.zero_add,Nat.add_zero]
 rw[h.ld 0 rfl F3 (o:=4) (v := .int .i64 r.role) rfl,X7,K5,K3]
 refine⟨fun c1=>?_,fun c1=>?_⟩
 case refine_2 =>
  rw[if_pos c1] at k
  refine pJ (i:=2) h rfl rfl fun w3 h=>?_
  exact k _ _ _ _ ⟨rfl,_,rfl,rfl⟩ (FD (h.pick [0,1] (by decide)) rfl)
 rw[if_neg (fun hh=>hh c1)] at k
 rw[WC C8,A_,K3]
 refine⟨fun c2=>?_,fun c2=>?_⟩
 ·rw[if_pos (by omega)] at k
  refine pJ (i:=2) h rfl rfl fun w3 h=>?_
  exact k _ _ _ _ ⟨rfl,_,rfl,rfl⟩ (FD (h.pick [0,1] (by decide)) rfl)
 rw[if_neg (by omega)] at k
 rw[h.ld 0 rfl O5 (o:=3) (v:=lv.1) rfl,Q4.len (V3.read (h.here (i:=1) rfl)) U5,O6,K3]
 refine⟨fun c3=>?_,fun c3=>?_⟩
 ·rw[if_pos (by omega)] at k
  refine pJ (i:=2) h rfl rfl fun w3 h=>?_
  exact k _ _ _ _ ⟨rfl,_,rfl,rfl⟩ (FD (h.pick [0,1] (by decide)) rfl)
 rw[if_neg (by omega)] at k
 have hk2:H8 (uT r data):=ux0 hk (ht c1) (by omega) (by omega)
 rw[h.ld 0 rfl F3 (o:=1) (v := .int .i64 r.hard.term) rfl,VS]
 refine h.r9 (ds:=(⟨r.hard.term,data⟩:J7).cs.toArray) KL rfl P9 rfl (fun v hv=>Enc.one (⟨r.hard.term,data⟩:J7) v hv) fun x w2 h=>?_
 have h:Rel B' w2 [O1 p I1 (P_ r lv.1),V3 U3 lv.1 r.log,O1 t Y2 (g_ o0 (.slice none 0 0) (.slice none 0 0)),O1 x U3 (⟨r.hard.term,data⟩:J7).cs.toArray]:=h
 have h:=h.tick
 generalize tick w2=w2 at *
 rw[h.ld 0 rfl O5 (o:=3) (v:=lv.1) rfl,h.Q9 3 rfl P9 rfl]
 refine h.bH (α:=J7) ⟨r.hard.term,data⟩ U5 (by decide) fun v1 w3 h=>?_
 refine⟨h.is 0 rfl O5 (o:=3) rfl,?_⟩
 refine h.append (α:=J7) 1 rfl U5 (Rd.at 4 rfl) (show (r.log.length+1) * _≤_ by omega) (show r.log.length+1≤_ by omega) fun v2 w4 h=>?_
 have hv2:v2.oneCell'=true:=h.oneCell (i:=1) rfl
 refine h.st 0 rfl O5 (o:=3) (show 3<15 by omega) hv2 fun w5 h=>?_
 have h:Rel B' w5 [O1 p I1 (P_ (uT r data) v2),V3 U3 v2 (uT r data).log,O1 t Y2 (g_ o0 (.slice none 0 0) (.slice none 0 0)),O1 x U3 (⟨r.hard.term,data⟩:J7).cs.toArray]:=h.take 4
 have e1:(r.log.length:Int)+1=(uT r data).log.length:=by
  show _=((r.log++[_]).length:Int)
  rw[List.length_append]
  rfl
 rw[e1] at k
 have hlead:(uT r data).role=2:=c1
 generalize uT r data=r2 at *
 have h:=h.tick
 generalize tick w5=w5 at *
 have hld:∀{τ:List Dat} {w':World},Rel B' w' (O1 p I1 (P_ r2 v2) :: V3 U3 v2 r2.log :: τ)→Is prog (J5 .len #[O3] Q0 #[false] #[v2]) (.int .i64 r2.log.length) w':=by
  intro τ w' h
  have:=Q4.len (P:=prog) (w:=w') (T:=O3) (U:=Q0) (bs:=#[false]) (Kp:=fun x=>x = .int .i64 r2.log.length) (V3.read (h.here (i:=1) rfl)) U5
  obtain⟨x,h1,rfl⟩:=this.mpr rfl
  exact h1
 rw[h.ld 0 rfl O5 (o:=3) (v:=v2) rfl,Q4.len (V3.read (h.here (i:=1) rfl)) U5]
 rw[h.ld 0 rfl O5 (o:=3) (v:=v2) rfl,Q4.len (V3.read (h.here (i:=1) rfl)) U5,h.Q9 3 rfl P9 rfl]
 refine⟨?_,?_⟩
 ·refine h.bH (α:=J7) ⟨r.hard.term,data⟩ U5 (by decide) fun v3 w6 h=>?_
  have hv3:v3.oneCell'=true:=h.oneCell (i:=4) rfl
  obtain⟨a3,n3,c3',rfl⟩:=FX h 4 rfl
  refine⟨hld h,h.is 0 rfl O5 (o:=3) rfl,hld h,h.is 0 rfl O5 (o:=3) rfl,?_⟩
  refine h.make (fun B2 own base2=>Uv0 (BJ.of hv2 (own (i:=0) rfl) (V3.read (own (i:=1) rfl))) hk2 hlead) fun u τ w7 hp h=>?_
  obtain⟨rfl,a,n,c,rfl⟩:=hp
  refine⟨h.uX 3 rfl P9 rfl,hld h,h.is 0 rfl O5 (o:=3) rfl,hld h,h.is 0 rfl O5 (o:=3) rfl,?_⟩
  rw[UU]
  refine SK (i:=2) (ds:=g_ { o0 with from_:=r2.log.length,recs:=[⟨r.hard.term,data⟩],send:=zR r2 } (.slice a3 n3 c3') (.slice a n c)) h rfl rfl rfl (UE hv3 rfl) fun w8 h=>?_
  have h:Rel B' w8 ([O1 p I1 (P_ r2 v2),V3 U3 v2 r2.log]++[V3 U3 (.slice a3 n3 c3') [(⟨r.hard.term,data⟩:J7)],GN (.slice a n c) (zR r2)]):=h.pick [0,1,4,5] (by decide)
  have h:=h.wrap (c:=rG (.agg (g_ { o0 with from_:=r2.log.length,recs:=[⟨r.hard.term,data⟩],send:=zR r2 } (.slice a3 n3 c3') (.slice a n c))) { o0 with from_:=r2.log.length,recs:=[⟨r.hard.term,data⟩],send:=zR r2 }) fun B2 own=>rG.of hv3 rfl (V3.read (own (i:=0) rfl)) (own (i:=1) rfl)
  exact k _ _ _ _ ⟨rfl,_,rfl,rfl⟩ (U_.close ⟨v2,hv2⟩ h)
 ·refine h.make (fun B2 own base2=>Uv0 (BJ.of hv2 (own (i:=0) rfl) (V3.read (own (i:=1) rfl))) hk2 hlead) fun u τ w7 hp h=>?_
  obtain⟨rfl,a,n,c,rfl⟩:=hp
  refine⟨h.uX 3 rfl P9 rfl,hld h,h.is 0 rfl O5 (o:=3) rfl,hld h,h.is 0 rfl O5 (o:=3) rfl,?_⟩
  refine h.bH (α:=J7) ⟨r.hard.term,data⟩ U5 (by decide) fun v3 w6 h=>?_
  have hv3:v3.oneCell'=true:=h.oneCell (i:=5) rfl
  obtain⟨a3,n3,c3',rfl⟩:=FX h 5 rfl
  refine⟨hld h,h.is 0 rfl O5 (o:=3) rfl,hld h,h.is 0 rfl O5 (o:=3) rfl,?_⟩
  rw[UU]
  refine SK (i:=2) (ds:=g_ { o0 with from_:=r2.log.length,recs:=[⟨r.hard.term,data⟩],send:=zR r2 } (.slice a3 n3 c3') (.slice a n c)) h rfl rfl rfl (UE hv3 rfl) fun w8 h=>?_
  have h:Rel B' w8 ([O1 p I1 (P_ r2 v2),V3 U3 v2 r2.log]++[V3 U3 (.slice a3 n3 c3') [(⟨r.hard.term,data⟩:J7)],GN (.slice a n c) (zR r2)]):=h.pick [0,1,5,4] (by decide)
  have h:=h.wrap (c:=rG (.agg (g_ { o0 with from_:=r2.log.length,recs:=[⟨r.hard.term,data⟩],send:=zR r2 } (.slice a3 n3 c3') (.slice a n c))) { o0 with from_:=r2.log.length,recs:=[⟨r.hard.term,data⟩],send:=zR r2 }) fun B2 own=>rG.of hv3 rfl (V3.read (own (i:=0) rfl)) (own (i:=1) rfl)
  exact k _ _ _ _ ⟨rfl,_,rfl,rfl⟩ (U_.close ⟨v2,hv2⟩ h)
set_option maxHeartbeats 2000000 in
theorem FK0(hk:H8 r){m:U8}{v:SV}(q:Q4 v.1 m.recs B)(hml:m.recs.length≤1000000):Does prog B (U_ p r) (Z0 UI #[ptr p,(m.raw v).v]) fun u e' τ=>e'=U_ p (MF r m).1∧τ=[rG u (MF r m).2]:=by
 refine Does.intro fun B' w K base h k=>?_
 replace q:=base q
 refine PG.up ?_
 unfold PG.pt
 obtain⟨lv,h⟩:=U_.open h
 have h:Rel B' w [O1 p I1 (P_ r lv.1),V3 U3 lv.1 r.log]:=h
 refine h.box fun o w1 h=>?_
 have h:Rel B' w1 [O1 p I1 (P_ r lv.1),V3 U3 lv.1 r.log,O1 o U1 (m.raw v).cs.toArray]:=h
 refine h.alloc BF fun t w2 h=>?_
 have h:Rel B' w2 [O1 p I1 (P_ r lv.1),V3 U3 lv.1 r.log,O1 o U1 (m.raw v).cs.toArray,O1 t Y2 (g_ o0 (.slice none 0 0) (.slice none 0 0))]:=h
 rw[h.Q9 2 rfl Q8 rfl]
 refine h.ask (fun B2 own base2=>eF0 (r:=r) (BJ.of lv.2 (own (i:=0) rfl) (V3.read (own (i:=1) rfl))) (base2 q) hml) fun w3 h=>?_
 rw[V8,K5,Q5]
 unfold MF at k
 refine⟨fun c=>?_,fun c=>?_⟩
 case refine_2 =>
  rw[if_neg (of_decide_eq_false c)] at k
  refine pJ (i:=3) h rfl rfl fun w3 h=>?_
  exact k _ _ _ _ ⟨rfl,rfl⟩ (FD (h.pick [0,1] (by decide)) rfl)
 have hm:gI r m:=of_decide_eq_true c
 rw[if_pos hm] at k
 clear c
 obtain⟨hk1,hm1⟩:=ah0 hk hm
 simp -zeta only[y5,U0 x_,U0 dD,U0 UC,U0 gX,U0 JK,Nat.zero_add,Nat.add_zero]
 rw[Ng0 (h.here (i:=0) rfl)]
 refine h.r9 (ds:=r.hard.cs.toArray) ek0 rfl uC rfl (fun v hv=>Enc.one r.hard v hv) fun b w4 h=>?_
 have h:Rel B' w4 [O1 p I1 (P_ r lv.1),V3 U3 lv.1 r.log,O1 o U1 (m.raw v).cs.toArray,O1 t Y2 (g_ o0 (.slice none 0 0) (.slice none 0 0)),O1 b H5 r.hard.cs.toArray]:=h
 refine Q6 fun J1 hJ1=>?_
 replace hJ1:∀w',Rel B' w' [O1 p I1 (P_ (NF r m) lv.1),V3 U3 lv.1 (NF r m).log,O1 o U1 (m.raw v).cs.toArray,O1 t Y2 (g_ o0 (.slice none 0 0) (.slice none 0 0)),O1 b H5 r.hard.cs.toArray]→J1 () w':=by
  intro w' h
  refine hJ1 _ _ ?_
  clear hJ1
  generalize NF r m=r1 at *
  have h:=U_.close (r:=r1) (τ:=[O1 o U1 (m.raw v).cs.toArray,O1 t Y2 (g_ o0 (.slice none 0 0) (.slice none 0 0)),O1 b H5 r.hard.cs.toArray]) lv h
  refine h.alloc BF fun o6 w5 h=>?_
  have h:Rel B' w5 [U_ p r1,O1 o U1 (m.raw v).cs.toArray,O1 t Y2 (g_ o0 (.slice none 0 0) (.slice none 0 0)),O1 b H5 r.hard.cs.toArray,O1 o6 Y2 (g_ o0 (.slice none 0 0) (.slice none 0 0))]:=h
  refine Q6 fun J2 hJ2=>?_
  have step:∀(q:H7×LC) (u:Value) (w':World),yQ r1 m=q→Rel B' w' [U_ p q.1,O1 o U1 (m.raw v).cs.toArray,O1 t Y2 (g_ o0 (.slice none 0 0) (.slice none 0 0)),O1 b H5 r.hard.cs.toArray,O1 o6 Y2 (g_ o0 (.slice none 0 0) (.slice none 0 0)),rG u q.2]→upK prog (F4 Y2 (.pointer (some ⟨o6,0,none⟩)) u) w' fun _ w15=>J2 () w15:=by
   rintro⟨r2,o2⟩ u w' e h
   rw[e] at k
   have h:Rel B' w' ([U_ p r2,O1 o U1 (m.raw v).cs.toArray,O1 t Y2 (g_ o0 (.slice none 0 0) (.slice none 0 0)),O1 b H5 r.hard.cs.toArray,O1 o6 Y2 (g_ o0 (.slice none 0 0) (.slice none 0 0))]++[rG u o2]):=h
   obtain⟨rv,sv,eu,h2⟩:=rG.FO h
   subst eu
   refine h2.xI 4 rfl SC rfl rfl (UE rv.2 sv.2) fun w6 h=>?_
   have h:Rel B' w6 (U_ p r2 :: [O1 o U1 (m.raw v).cs.toArray,O1 t Y2 (g_ o0 (.slice none 0 0) (.slice none 0 0)),O1 b H5 r.hard.cs.toArray,O1 o6 Y2 (g_ o2 rv.1 sv.1),Dat.and (Q4 rv.1 o2.recs) (GN sv.1 o2.send)]):=h
   obtain⟨lv2,h⟩:=U_.open h
   have h:Rel B' w6 [O1 p I1 (P_ r2 lv2.1),V3 U3 lv2.1 r2.log,O1 o U1 (m.raw v).cs.toArray,O1 t Y2 (g_ o0 (.slice none 0 0) (.slice none 0 0)),O1 b H5 r.hard.cs.toArray,O1 o6 Y2 (g_ o2 rv.1 sv.1),Dat.and (Q4 rv.1 o2.recs) (GN sv.1 o2.send)]:=h
   refine hJ2 _ _ ?_
   clear hJ2
   have fin:∀(o3:LC) (w':World),rV r.hard (r2,o2)=(r2,o3)→o3.recs=o2.recs→o3.send=o2.send→Rel B' w' [O1 p I1 (P_ r2 lv2.1),V3 U3 lv2.1 r2.log,O1 o U1 (m.raw v).cs.toArray,O1 t Y2 (g_ o0 (.slice none 0 0) (.slice none 0 0)),O1 b H5 r.hard.cs.toArray,O1 o6 Y2 (g_ o3 rv.1 sv.1),Dat.and (Q4 rv.1 o2.recs) (GN sv.1 o2.send)] →
     Y0 prog (X0 Y2 (.pointer (some ⟨o6,0,none⟩))) w' fun t67=>upK prog (F4 Y2 (.pointer (some ⟨t,0,none⟩)) t67) w' fun _ w11=>S9 prog (do loadVar Y2 (←asAddr (.pointer (some ⟨t,0,none⟩)))) w11 fun t4_2=>K t4_2 w11:=by
    intro o3 w' e3 er es h
    rw[e3] at k
    rw[h.Q9 5 rfl SC rfl]
    refine SK (i:=3) h rfl rfl rfl (UE rv.2 sv.2) fun w7 h=>?_
    have h:Rel B' w7 ([O1 p I1 (P_ r2 lv2.1),V3 U3 lv2.1 r2.log]++[Dat.and (Q4 rv.1 o2.recs) (GN sv.1 o2.send)]):=h.pick [0,1,6] (by decide)
    have h:=h.wrap (c:=rG (.agg (g_ o3 rv.1 sv.1)) o3) fun B2 own=>rG.of rv.2 sv.2 (by rw[er];exact(own (i:=0) rfl).1) (by rw[es];exact(own (i:=0) rfl).2)
    exact k _ _ _ _ ⟨rfl,rfl⟩ (U_.close lv2 h)
   unfold rV at fin
   refine Q6 fun J3 hJ3=>?_
   have h:=h.tick
   generalize tick w6=w6 at *
   simp -zeta only[y5,U0 x_,U0 gf0,U0 jf0,Nat.zero_add,Nat.add_zero]
   rw[Ng0 (h.here (i:=0) rfl),h.Q9 4 rfl uC rfl]
   have hne:∀Kp:Value→Prop,M0 prog (Y3 .neq H5 (.tmp 58) (.tmp 59) (.agg r2.hard.cs.toArray) (.agg r.hard.cs.toArray)) Kp=Kp (.bool (!decide (r2.hard=r.hard))):=fun Kp=>do0 r2.hard r.hard
   rw[hne,K5,K3]
   refine⟨fun c=>?_,fun c=>?_⟩
   ·rw[if_pos c] at fin
    exact hJ3 _ _ (fin o2 _ rfl rfl rfl h)
   ·rw[if_neg c] at fin
    have h:=h.tick
    generalize tick w6=w6 at *
    rw[Ng0 (h.here (i:=0) rfl)]
    refine h.st 5 rfl RB (o:=0) (show 0<6 by omega) rfl fun w7 h=>?_
    refine⟨UH0 (h.here (i:=0) rfl),?_⟩
    refine h.Av0 5 (n:=2) (o:=1) rfl uC rfl (show 1+2≤6 by omega) (fun v hv=>Enc.one r2.hard v hv) fun w8 h=>?_
    exact hJ3 _ _ (fin { o2 with save:=true,hard:=r2.hard } _ rfl rfl rfl h)
  clear hJ2 k
  rw[h.ld 1 rfl F3 (o:=0) (v := .int .i64 m.kind) rfl,O6,K3]
  unfold yQ at step
  refine⟨fun c0=>?_,fun c0=>?_⟩
  ·rw[if_pos c0] at step
   rw[h.Q9 1 rfl Q8 rfl]
   refine h.act 0 rfl (fun B2 own base2=>LM0 hk1) fun u e' τ w9 hp h=>?_
   obtain⟨rfl,rfl⟩:=hp
   exact step _ _ _ rfl h
  rw[if_neg c0] at step
  rw[O6,K3]
  refine⟨fun c1=>?_,fun c1=>?_⟩
  ·rw[if_pos c1] at step
   rw[h.Q9 1 rfl Q8 rfl]
   refine h.act 0 rfl (fun B2 own base2=>TJ0 hk1 (by have:=hm1.from3;unfold I3;omega)) fun u e' τ w9 hp h=>?_
   obtain⟨rfl,rfl⟩:=hp
   exact step _ _ _ rfl h
  rw[if_neg c1] at step
  rw[O6,K3]
  refine⟨fun c2=>?_,fun c2=>?_⟩
  ·rw[if_pos c2] at step
   rw[h.Q9 1 rfl Q8 rfl]
   refine h.act 0 rfl (fun B2 own base2=>iC0 hk1 hm1 (base2 q)) fun u e' τ w9 hp h=>?_
   obtain⟨rfl,rfl⟩:=hp
   exact step _ _ _ rfl h
  rw[if_neg c2] at step
  rw[O6,K3]
  refine⟨fun c3=>?_,fun c3=>absurd hm1.kind (by omega)⟩
  rw[h.Q9 1 rfl Q8 rfl]
  refine h.act 0 rfl (fun B2 own base2=>yt0 hk1 (by have:=hm1.from3;unfold I3;omega) hm1.index) fun u e' τ w9 hp h=>?_
  obtain⟨rfl,rfl⟩:=hp
  exact step _ _ _ rfl h
 clear hk1 hm1
 have h:=h.tick
 generalize tick w4=w4 at *
 unfold NF at hJ1
 rw[h.ld 2 rfl F3 (o:=3) (v := .int .i64 m.term) rfl,h.ld 0 rfl F3 (o:=1) (v := .int .i64 r.hard.term) rfl,A_,K3]
 refine⟨fun c=>?_,fun c=>?_⟩
 case refine_2 =>
  rw[if_neg c] at hJ1
  exact hJ1 _ h
 rw[if_pos c] at hJ1
 rw[h.ld 2 rfl F3 (o:=3) (v := .int .i64 m.term) rfl,XQ]
 refine h.Av0 0 (n:=2) (o:=1) rfl uC rfl (show 1+2≤15 by omega) (fun v hv=>Enc.one (⟨m.term,-1⟩:EB) v hv) fun w7 h=>?_
 refine h.st 0 rfl F3 (o:=4) (show 4<15 by omega) rfl fun w8 h=>?_
 exact hJ1 _ h
end
structure OY (id:Int) (hd:EB) (log:List J7):Prop where
 id:0≤id∧id≤2
 term:0≤hd.term∧hd.term≤1099511627776
 C_ : -1≤hd.C_∧hd.C_≤2
 len:log.length≤4000
 sound:LA log 1 hd.term=true
theorem wA0(id:Int)(hd:EB)(log:List J7):((0≤id∧id≤2)∧(0≤hd.term∧hd.term≤1099511627776)∧(-1≤hd.C_∧hd.C_≤2)∧log.length≤4000∧LA log 1 hd.term=true)↔OY id hd log :=
 ⟨fun⟨a,b,c,d,e⟩=>⟨a,b,c,d,e⟩,fun⟨a,b,c,d,e⟩=>⟨a,b,c,d,e⟩⟩
instance (id:Int) (hd:EB) (log:List J7):Decidable (OY id hd log):=decidable_of_iff _ (wA0 id hd log)
def newR(id:Int)(hd:EB)(log:List J7):H7:=⟨id,hd,log,0,0,⟨false,false,false⟩,⟨0,0,0⟩,⟨0,0,0⟩⟩
theorem wI0{id:Int}{hd:EB}{log:List J7}(h:OY id hd log):H8 (newR id hd log) where
 id:=by have:=h.id;unfold I3;show 0≤id∧id<3;omega
 term:=h.term
 C_:=h.C_
 len:=h.len
 sound:=h.sound
 role := .inl rfl
 commit:=by show (0:Int)≤0∧(0:Int)≤log.length;omega
 next:=fun h=>by cases h
 mtch:=fun h=>by cases h
section
variable {B:Base} {w:World} {σ τ:List Dat} {p:Nat} {r:H7} {K:PtK}
theorem Np0(a:BJ p r B):Gives prog B (Z0 JD #[ptr p]) (.int .i64 r.commit):=by
 refine Gives.intro fun B' w K base h k=>?_
 replace a:=base a
 refine kF.up ?_
 unfold kF.pt
 obtain⟨lv,c0,c1⟩:=BJ.FO a
 simp -zeta only[y5,U0 wH,Nat.zero_add]
 rw[O1.ld (h.K6 c0) F3 (o:=5) (v := .int .i64 r.commit) rfl]
 exact k _ _ h
theorem BN0(a:BJ p r B)(hl:r.log.length≤1000000):Makes prog B (Z0 OJ #[ptr p]) fun u τ=>τ=[V3 U3 u r.log]:=by
 refine Makes.intro fun B' w K base h k=>?_
 replace a:=base a
 refine SH.up ?_
 unfold SH.pt
 obtain⟨lv,c0,c1⟩:=BJ.FO a
 simp -zeta only[y5,U0 y_,Nat.zero_add]
 rw[O1.ld (h.K6 c0) O5 (o:=3) (v:=lv.1) rfl]
 refine h.make (fun B2 own base2=>S_ (base2 c1) (by omega) (by omega)) fun u τ w1 hp h=>?_
 exact k _ _ _ hp h
theorem GE0(id:Int)(hd:EB){v:Value}{log:List J7}(q:Q4 v log B)(hl:log.length≤1000000000):Makes prog B (Z0 pU #[.int .i64 id,.agg hd.cs.toArray,v]) fun u τ=>if OY id hd log then ∃p,u=ptr p∧τ=[U_ p (newR id hd log)] else u = .pointer none∧τ=[]:=by
 refine Makes.intro fun B' w K base h k=>?_
 replace q:=base q
 refine gU.up ?_
 unfold gU.pt
 refine h.box fun o w1 h=>?_
 have h:Rel B' w1 [O1 o H5 hd.cs.toArray]:=h
 have no:¬OY id hd log→∀w',Rel B' w' [O1 o H5 hd.cs.toArray]→K (.pointer none) w':=fun c w' h=>k _ [] _ (by rw[if_neg c];exact⟨rfl,rfl⟩) h.nil
 refine h.ask (fun B2 own base2=>qJ id 0 2) fun w2 h=>?_
 rw[V8,K5,Q5]
 refine⟨fun c1=>?_,fun c1=>no (fun hh=>by rw[decide_eq_true hh.id.1,decide_eq_true hh.id.2] at c1;cases c1) _ h⟩
 rw[Bool.and_eq_true,decide_eq_true_eq,decide_eq_true_eq] at c1
 simp -zeta only[U0 UC,U0 QV,Nat.zero_add]
 rw[h.ld 0 rfl F3 (o:=0) (v := .int .i64 hd.term) rfl]
 refine h.ask (fun B2 own base2=>qJ hd.term 0 1099511627776) fun w3 h=>?_
 rw[V8,K5,Q5]
 refine⟨fun c2=>?_,fun c2=>no (fun hh=>by rw[decide_eq_true hh.term.1,decide_eq_true hh.term.2] at c2;cases c2) _ h⟩
 rw[Bool.and_eq_true,decide_eq_true_eq,decide_eq_true_eq] at c2
 rw[h.ld 0 rfl F3 (o:=1) (v := .int .i64 hd.C_) rfl]
 refine h.ask (fun B2 own base2=>qJ hd.C_ (-1) 2) fun w4 h=>?_
 rw[V8,K5,Q5]
 refine⟨fun c3=>?_,fun c3=>no (fun hh=>by rw[decide_eq_true hh.C_.1,decide_eq_true hh.C_.2] at c3;cases c3) _ h⟩
 rw[Bool.and_eq_true,decide_eq_true_eq,decide_eq_true_eq] at c3
 rw[Q4.len q U5,A_,K3]
 refine⟨fun c4=>no (fun hh=>by have:=hh.len;omega) _ h,fun c4=>?_⟩
 rw[h.ld 0 rfl F3 (o:=0) (v := .int .i64 hd.term) rfl]
 refine h.ask (fun B2 own base2=>Sx0 (base2 q) (by omega) 1 hd.term) fun w5 h=>?_
 rw[V8,K5,Q5]
 refine⟨fun c5=>?_,fun c5=>no (fun hh=>by rw[hh.sound] at c5;cases c5) _ h⟩
 have ok:OY id hd log:=⟨c1,c2,c3,by omega,c5⟩
 have h:=h.tick
 generalize tick w5=w5 at *
 rw[h.Q9 0 rfl uC rfl]
 refine h.make (fun B2 own base2=>S_ (base2 q) (by omega) (by omega)) fun u τ w6 hp h=>?_
 subst hp
 refine⟨h.uX 0 rfl uC rfl,?_⟩
 obtain⟨x,n,c,rfl⟩:=FX h 1 rfl
 rw[show (Value.agg hd.cs.toArray) = .agg #[.int .i64 hd.term,.int .i64 hd.C_] from rfl,vU]
 refine h.box fun b w7 h=>?_
 refine k _ _ _ (by rw[if_pos ok];exact⟨b,rfl,rfl⟩) (U_.close (r:=newR id hd log) (τ:=[]) ⟨.slice x n c,rfl⟩ ?_)
 exact h.pick [2,1] (by decide)
end
theorem CI0(a b:Bs):ofL a++ofL b=ofL (a++b):=by
 apply wC0
 show (ofL a++ofL b).data.toList=a++b
 simp
theorem q9{P:Program}{Kp:Value→Prop}{T:TypeId}{xo yo:Operand}{a b:Bs}(h:a.length+b.length≤9223372036854775807):M0 P (Y3 .add T xo yo (.string (ofL a)) (.string (ofL b))) Kp=Kp (.string (ofL (a++b))):=by
 rw[AJ0 (by rw[J_,J_];exact h),CI0]
theorem ZD0{n:Nat}:Go.Lib.itoa (n:Int)=Go.Lib.decDigits n:=by unfold Go.Lib.itoa;rw[if_neg (by omega)];rfl
theorem X6{n:Int}(h:inI n):(encI n).length≤21:=by
 have:=kT h
 unfold encI
 rw[List.length_append,List.length_singleton]
 omega
theorem LF(s:Bs)(h:s.length≤9223372036854775807):(bB s).length≤s.length+22:=by
 have:=kT (n:=s.length) ⟨by omega,by omega⟩
 unfold bB
 simp
 omega
theorem YW{α:Type}(one:α→Bs)(l:List α)(h:l.length≤9223372036854775807):(l.flatMap one).length≤(Yf0 one l).length∧(Yf0 one l).length≤(l.flatMap one).length+22:=by
 have:=kT (n:=l.length) ⟨by omega,by omega⟩
 unfold Yf0
 simp
 omega
theorem fF{α:Type}(one:α→Bs)(l:List α)(i:Nat):((l.take i).flatMap one).length≤(l.flatMap one).length:=by
 have e:l.flatMap one=(l.take i).flatMap one++(l.drop i).flatMap one:=by rw[←List.flatMap_append,List.take_append_drop]
 rw[e,List.length_append]
 omega
theorem GG{α:Type}(one:α→Bs)(l:List α)(k:Nat)(h:∀x∈l,(one x).length≤k):(l.flatMap one).length≤k * l.length:=by
 induction l with
 | nil=>simp
 | cons x l ih =>
  have h1:=h x List.mem_cons_self
  have h2:=ih fun y hy=>h y (List.mem_cons_of_mem _ hy)
  rw[List.flatMap_cons,List.length_append,List.length_cons,Nat.mul_add]
  omega
theorem qI{α:Type}(one:α→Bs){l:List α}{i:Nat}(h:i<l.length):(l.take (i+1)).flatMap one=(l.take i).flatMap one++one l[i]:=by
 rw[List.take_succ_eq_append_getElem h,List.flatMap_append]
 simp
section
variable {B:Base} {w:World} {σ:List Dat}
theorem KC(hB:kH B){n:Int}(hn:inI n):Gives prog B (Z0 A8 #[.int .i64 n]) (.string (ofL (encI n))):=by
 refine Gives.intro fun B' w K base h k=>?_
 refine Kc0.up ?_
 unfold Kc0.pt
 refine h.ask (fun B2 own base2=>Nn0 (base2 (base hB)) hn) fun w1 h=>?_
 have:=kT hn
 have e:M0 prog (Y3 .add U2 (.tmp 4) (.const (.string ⟨#[59]⟩)) (.string (ofL (Go.Lib.itoa n))) (.string (ofL [59]))) (fun t5=>K t5 w1)=K (.string (ofL (Go.Lib.itoa n++[59]))) w1:=q9 (by simp;omega)
 show M0 prog (Y3 .add U2 (.tmp 4) (.const (.string ⟨#[59]⟩)) (.string (ofL (Go.Lib.itoa n))) (.string (ofL [59]))) (fun t5=>K t5 w1)
 rw[e]
 exact k _ _ h
theorem Oj0(hB:kH B){n:Int}(hn:inI n):Gives prog B (Z0 dN #[.int .i64 n]) (.string (ofL (bg0 n))):=by
 refine Gives.intro fun B' w K base h k=>?_
 refine Mc0.up ?_
 unfold Mc0.pt
 simp -zeta only[D6,K3]
 unfold bg0 at k
 refine⟨fun c=>?_,fun c=>?_⟩
 ·rw[if_pos c] at k
  exact k _ _ h
 ·rw[if_neg c] at k
  refine h.ask (fun B2 own base2=>KC (base2 (base hB)) hn) fun w1 h=>?_
  exact k _ _ h
theorem nU(hB:kH B){s:Bs}(hs:s.length≤4611686018427387904):Gives prog B (Z0 pF #[.string (ofL s)]) (.string (ofL (bB s))):=by
 refine Gives.intro fun B' w K base h k=>?_
 refine AY.up ?_
 unfold AY.pt
 rw[oK C8]
 have hin:inI (s.length:Int):=⟨by omega,by omega⟩
 refine h.ask (fun B2 own base2=>Nn0 (base2 (base hB)) hin) fun w1 h=>?_
 have hl:=kT hin
 rw[show (⟨#[58]⟩:ByteArray)=ofL [58] from rfl,show (⟨#[44]⟩:ByteArray)=ofL [44] from rfl]
 rw[q9 (by simp;omega),q9 (by simp;omega),q9 (by simp;omega)]
 have e:bB s=Go.Lib.itoa s.length++[58]++s++[44]:=by simp [bB]
 rw[e] at k
 exact k _ _ h
theorem Cu0(hB:kH B){v:Value}{l:List Int}(r:Q4 v l B)(hgood:∀x∈l,inI x)(hb:(Yf0 encI (l.map id)).length≤70368744177664) :
  Gives prog B (Z0 TQ #[v,.func (.func A8) #[] #[]]) (.string (ofL (Yf0 encI (l.map id)))):=by
 refine Gives.zi0 fun B' w K base h start k=>?_
 replace r:=base r
 replace hB:=base hB
 refine pQ.up ?_
 unfold pQ.pt
 have hll:l.length≤70368744177664:=by
  have h1:l.length≤((l.map id).flatMap encI).length:=by
   clear hb hgood k r start h
   induction l with
   | nil=>simp
   | cons x l ih =>
    rw[List.map_cons,List.flatMap_cons,List.length_append,List.length_cons]
    have:1≤(encI (id x)).length:=by simp [encI]<;>omega
    omega
  rcases Nat.lt_or_ge 9223372036854775807 l.length with hh | hh
  ·have h2:((l.map id).flatMap encI).length≤(Yf0 encI (l.map id)).length:=by unfold Yf0;simp;omega
   omega
  ·have:=(YW encI (l.map id) (by rw[List.length_map];exact hh)).1
   omega
 have hin:inI (l.length:Int):=⟨by omega,by omega⟩
 refine h.alloc WG fun b w1 h=>?_
 have h:=start w1 b h
 simp -zeta only[Q4.len r C9]
 refine h.ask (fun B2 own base2=>Nn0 (base2 hB) hin) fun w2 h=>?_
 have hl:=kT hin
 rw[show (⟨#[91]⟩:ByteArray)=ofL [91] from rfl,q9 (by simp;omega)]
 refine h.mO (Nat.le_refl _) (by rw[J_];simp;omega) fun _ w3 h=>?_
 have h:Rel B' w3 [qP B'.W.heap.size b (Go.Lib.itoa l.length++[91])]:=h
 have hmap:(l.map id).length=l.length:=List.length_map ..
 have hall:=(YW encI (l.map id) (by omega)).1
 refine M6 (fun x w'=>∃i:Nat,i≤l.length∧x=(.int .i64 i,())∧Rel B' w' [qP B'.W.heap.size b (Go.Lib.itoa l.length++[91]++((l.map id).take i).flatMap encI)]) (fun x _=>l.length-(match x.1 with | .int _ n=>n.toNat | _=>0))
  ⟨0,Nat.zero_le _,rfl,by simpa using h⟩ ?_
 clear h
 rintro x w4 ⟨i,hi,rfl,h⟩ next hnext
 simp -zeta only[D6,K3]
 refine⟨fun hlt=>?_,fun hge=>?_⟩
 ·have hil:i<l.length:=by omega
  obtain⟨q,q1,q2⟩:=Q4.Fh0 r h C9 hil F3 (x := .int .i64 l[i]) rfl
  rw[q1,q2]
  refine dH ?_
  refine h.ask (fun B2 own base2=>KC (base2 hB) (hgood l[i] (List.getElem_mem hil))) fun w5 h=>?_
  have hstep:=qI encI (l:=l.map id) (i:=i) (by omega)
  rw[List.getElem_map,show encI (id l[i])=encI l[i] from rfl] at hstep
  have hle:=fF encI (l.map id) (i+1)
  rw[hstep,List.length_append] at hle
  refine h.mO (Nat.le_refl _) (by rw[J_];simp only[List.length_append,List.length_singleton];omega) fun _ w6 h=>?_
  rw[V5,D5 (by omega) (by omega)]
  refine hnext _ _ ⟨i+1,hil,rfl,?_⟩ (by simp only;omega)
  rw[hstep,←List.append_assoc]
  exact h
 ·refine h.WU (Nat.le_refl _) fun w7 h=>?_
  have hie:i=l.length:=by omega
  subst hie
  have e:(l.map id).take l.length=l.map id:=List.take_of_length_le (by omega)
  rw[e] at *
  rw[show (⟨#[93]⟩:ByteArray)=ofL [93] from rfl,q9 (by simp only[List.length_append,List.length_singleton];omega)]
  have e2:Yf0 encI (l.map id)=Go.Lib.itoa l.length++[91]++(l.map id).flatMap encI++[93]:=by simp [Yf0]
  rw[e2] at k
  exact k _ _ h
theorem UJ0(hB:kH B){v:Value}{l:List Int}(r:Q4 v l B)(hgood:∀x∈l,inI x)(hl:l.length≤1099511627776):Gives prog B (Z0 OW #[v]) (.string (ofL (Yf0 encI l))):=by
 refine Gives.intro fun B' w K base h k=>?_
 refine yY.up ?_
 unfold yY.pt
 have e:l.map id=l:=List.map_id l
 refine h.ask (fun B2 own base2=>Cu0 (base2 (base hB)) (base2 (base r)) hgood (by
  rw[e]
  have h1:=(YW encI l (by omega)).2
  have h2:=GG encI l 21 fun x hx=>X6 (hgood x hx)
  omega)) fun w1 h=>?_
 rw[e]
 exact k _ _ h
end
abbrev rdC(s:RS):Array Value:=#[.string (ofL s.rest),.bool s.bad]
abbrev rdD(p:Nat)(s:RS):Dat:=O1 p K8 (rdC s)
def lW(p:Nat)(v:Value)(s:RS):Value→Dat→List Dat→Prop:=fun u e' τ=>u=v∧e'=rdD p s∧τ=[]
abbrev ie0(p:Nat):Value := .pointer (some ⟨p,0,none⟩)
section
variable {B:Base} {w:World} {σ:List Dat} {p:Nat} {s:RS}
theorem Does.rd{sem:Sem Next}{v:Value}{s':RS}(h:∀(B':Base) (w:World) (K:PtK),(∀{d:Dat},d B→d B')→Rel B' w [rdD p s]→(∀w' τ,Rel B' w' (rdD p s' :: τ)→K v w')→upK prog sem w K):Does prog B (rdD p s) sem (lW p v s'):=by
 refine Does.intro fun B' w K base h' k=>?_
 refine h B' w K base h' fun w' τ h2=>k v _ [] w' ⟨rfl,rfl,rfl⟩ ?_
 have h3:Rel B' w' ([rdD p s']++τ):=h2
 exact h3.drop
theorem Rel.rd_(h:Rel B w σ)(i:Nat)(hi:σ[i]? = some (rdD p s)){sem:Sem Next}{v:Value}{s':RS}{K:PtK}(G:∀B':Base,(∀{j:Nat} {d:Dat},j≠i→σ[j]? = some d→d B')→(∀{d:Dat},d B→d B')→Does prog B' (rdD p s) sem (lW p v s'))
  (k:∀w',Rel B w' (σ.set i (rdD p s'))→K v w'):upK prog sem w K:=by
 refine h.act i hi G fun u e' τ w' hp h2=>?_
 obtain⟨rfl,rfl,rfl⟩:=hp
 rw[List.append_nil] at h2
 exact k _ h2
theorem eu0:Does prog B (rdD p s) (Z0 zA #[ie0 p]) (lW p (.tuple #[]) zO):=by
 refine Does.rd fun B' w K base h k=>?_
 refine JL.up ?_
 unfold JL.pt
 simp -zeta only[y5,U0 KE,Nat.add_zero]
 refine h.st 0 rfl V6 (show 0<2 by omega) rfl fun w1 h=>?_
 simp -zeta only[U0 aR,Nat.zero_add]
 refine h.st 0 rfl RB (show 1<2 by omega) rfl fun w2 h=>?_
 exact k _ [] h
theorem uO0(e:UInt8):(e.toNat:Int).toNat.toUInt8=e:=by simp
theorem ej0(hB:lC B){e:UInt8}(he:vR e){lo:Int}(hs:s.rest.length≤140737488355328) :
  Does prog B (rdD p s) (Z0 YD #[ie0 p,.int .u8 e.toNat,.int .i64 lo]) (lW p (.int .i64 (UN e lo s).1) (UN e lo s).2):=by
 refine Does.rd fun B' w K base h k=>?_
 replace hB:=base hB
 refine uJ.up ?_
 unfold uJ.pt
 have h:=h.tick
 have hmin:min ((s.rest.length:Nat):Int) 21=((min s.rest.length 21:Nat):Int):=by omega
 simp -zeta only[y5,U0 KE,Nat.add_zero,h.ld 0 rfl V6 (o:=0) rfl,oK C8,BD,PP,hmin]
 rw[bS C8 (lo:=0) (hi:=min s.rest.length 21) Bnd.none Bnd.some (Nat.zero_le _) (by rw[J_];omega)]
 rw[BD,List.drop_zero]
 have hhead:s.rest.take (min s.rest.length 21)=s.rest.take 21:=by
  rcases Nat.le_total s.rest.length 21 with h1 | h1
  ·rw[Nat.min_eq_left h1,List.take_length,List.take_of_length_le h1]
  ·rw[Nat.min_eq_right h1]
 rw[hhead]
 refine h.ask (fun B2 own base2=>fI0 _ _) fun w1 h=>?_
 rw[uO0,BD,D6]
 have bad:(∀n r,s.rest=Go.Lib.itoa n++e :: r→lo≤n→¬inI n)→UN e lo s=(0,zO):=fun hno=>by
  unfold UN
  rw[Rl0.2 hno]
 have no:(∀n r,s.rest=Go.Lib.itoa n++e :: r→lo≤n→¬inI n)→∀w',Rel B' w' [rdD p s]→upK prog (Z0 zA #[ie0 p]) w' fun _ w2=>K (.int .i64 0) w2:=fun hno w' h=>by
  rw[bad hno] at k
  exact h.rd_ 0 rfl (fun B2 own base2=>eu0) fun w2 h=>k _ [] h
 by_cases hmem:e∈s.rest.take 21
 ·obtain⟨a,r,hsp,hna⟩:=rf0 hmem
  obtain⟨z,hfull⟩:∃z,s.rest=a++e :: z:=by
   have h1:s.rest.take 21++s.rest.drop 21=s.rest:=List.take_append_drop 21 s.rest
   rw[hsp,List.append_assoc,List.cons_append] at h1
   exact⟨_,h1.symm⟩
  have hal:a.length<s.rest.length:=by rw[hfull,List.length_append,List.length_cons];omega
  have hal2:a.length<(s.rest.take 21).length:=by rw[hsp,List.length_append,List.length_cons];omega
  have hat:Go.Lib.indexByte (s.rest.take 21) e=a.length:=by rw[hsp];exact index_first r hna
  have htk:((s.rest.take 21).take a.length).drop 0=a:=by rw[hsp,List.drop_zero,List.take_left]
  rw[hat,decide_eq_false (show ¬((a.length:Int)<0) by omega),t_]
  rw[bS C8 (lo:=0) (hi:=a.length) Bnd.none Bnd.some (Nat.zero_le _) (by rw[J_];omega)]
  rw[BD,htk]
  refine fL0 hB h (by rw[J_];omega) fun v w3 hv h=>?_
  have h:=h.tick
  rw[BD] at hv
  rcases hv with⟨n,hn,rfl⟩ | ⟨hno,n,t,q,rfl⟩
  ·have hin:=Go.Lib.atoiAll_bounds hn
   simp -zeta only[h_,Y9,Yq0 (show prog.underlying ia0=some (.interface (prog.methodsAt ia0)) by kernel_rfl),t_]
   rw[bS C8 (lo:=0) (hi:=a.length) Bnd.none Bnd.some (Nat.zero_le _) (by rw[J_];omega),BD,htk]
   refine h.ask (fun B2 own base2=>Nn0 (base2 hB) hin) fun w5 h=>?_
   rw[eo0,K5,K3]
   refine⟨fun heq=>?_,fun hne=>no (fun m r' h1 h2 h3=>?_) _ h⟩
   ·have heq:Go.Lib.itoa n=a:=by have:=congrArg bl heq;exact this
    rw[D6,K3]
    refine⟨fun hlt=>no (fun m r' h1 h2 h3=>?_) _ h,fun hge=>?_⟩
    ·rw[hfull] at h1
     obtain⟨e1,_⟩:=JQ hna (wX he) h1
     have:=Nq0 (heq.trans e1)
     omega
    ·have rX:UN e lo s=(n,⟨z,s.bad⟩):=by
      unfold UN
      rw[(de0 he (n:=n) (r:=z)).2 ⟨by rw[heq];exact hfull,by omega,hin⟩]
     rw[rX] at k
     have hw:IntKind.i64.wrap ((a.length:Int)+1)=((a.length+1:Nat):Int):=by rw[D5 (by omega) (by omega)];omega
     simp -zeta only[y5,U0 KE,Nat.add_zero,h.ld 0 rfl V6 (o:=0) rfl,V5,hw]
     rw[bS C8 (lo:=a.length+1) (hi:=(ofL s.rest).size) Bnd.some Bnd.none (by rw[J_];omega) (Nat.le_refl _)]
     have hcut:(((bl (ofL s.rest)).take (ofL s.rest).size).drop (a.length+1))=z:=by
      rw[BD,J_,List.take_length,hfull]
      have:a++e :: z=(a++[e])++z:=by simp
      rw[this,show a.length+1=(a++[e]).length by simp,List.drop_left]
     rw[hcut]
     refine h.st 0 rfl V6 (show 0<2 by omega) rfl fun w8 h=>?_
     exact k _ [] h
   ·rw[hfull] at h1
    obtain⟨e1,_⟩:=JQ hna (wX he) h1
    rw[e1,Yk0 h3] at hn
    injection hn with hn
    subst hn
    exact hne (by rw[e1])
  ·simp -zeta only[h_,Y9,Kk0 (show prog.underlying ia0=some (.interface (prog.methodsAt ia0)) by kernel_rfl),VC]
   refine no (fun m r' h1 h2 h3=>?_) _ h
   rw[hfull] at h1
   obtain⟨e1,_⟩:=JQ hna (wX he) h1
   exact hno m (by rw[e1];exact Yk0 h3)
 ·rw[index_none hmem,decide_eq_true (show (-1:Int)<0 by decide),VC]
  refine no (fun n r h1 h2 h3=>hmem ?_) _ h
  rw[h1,List.take_append]
  have:=kT h3
  refine List.mem_append.2 (.inr ?_)
  obtain⟨m,hm⟩:∃m,21-(Go.Lib.itoa n).length=m+1:=⟨20-(Go.Lib.itoa n).length,by omega⟩
  rw[hm,List.take_succ_cons]
  exact List.mem_cons_self
theorem dH0{e:UInt8}(hs:s.rest.length≤140737488355328):Does prog B (rdD p s) (Z0 VL #[ie0 p,.string (ofL [e])]) (lW p (.tuple #[]) (lN e s)):=by
 refine Does.rd fun B' w K base h k=>?_
 refine pK.up ?_
 unfold pK.pt
 simp -zeta only[y5,U0 KE,Nat.add_zero,h.ld 0 rfl V6 (o:=0) rfl]
 refine h.ask (fun B2 own base2=>nN0 _ _) fun w1 h=>?_
 simp -zeta only[h_,Y9,BD]
 have hc:(Go.Lib.hasPrefix s.rest [e]=true∧lN e s=⟨Go.Lib.trimPrefix s.rest [e],s.bad⟩)∨(Go.Lib.hasPrefix s.rest [e]=false∧lN e s=zO):=by
  unfold Go.Lib.trimPrefix Go.Lib.hasPrefix lN
  cases s.rest with
  | nil=>exact .inr ⟨rfl,rfl⟩
  | cons x r =>
   by_cases hx:x=e
   ·subst hx;left;simp
   ·right
    have:¬e=x:=fun hh=>hx hh.symm
    simp [List.isPrefixOf,hx,this]
 refine h.st 0 rfl V6 (show 0<2 by omega) rfl fun w2 h=>?_
 rcases hc with⟨h1,h2⟩ | ⟨h1,h2⟩
 ·rw[h1,V8,Bool.not_true,t_]
  rw[h2] at k
  exact k _ [] h
 ·rw[h1,V8,Bool.not_false,VC]
  rw[h2] at k
  have h:Rel B' w2 [rdD p ⟨Go.Lib.trimPrefix s.rest [e],s.bad⟩]:=h
  exact h.rd_ 0 rfl (fun B2 own base2=>eu0) fun w3 h=>k _ [] h
theorem lo0(hB:lC B)(hs:s.rest.length≤140737488355328):Does prog B (rdD p s) (Z0 qE #[ie0 p]) (lW p (.int .i64 (KR s).1) (KR s).2):=by
 refine Does.rd fun B' w K base h k=>?_
 refine XM.up ?_
 unfold XM.pt
 exact h.rd_ 0 rfl (fun B2 own base2=>ej0 (e:=59) (base2 (base hB)) (.inl rfl) hs) fun w1 h=>k _ [] h
theorem dR(hB:lC B)(hs:s.rest.length≤140737488355328):Does prog B (rdD p s) (Z0 Y6 #[ie0 p]) (lW p (.int .i64 (GA s).1) (GA s).2):=by
 refine Does.rd fun B' w K base h k=>?_
 refine WM.up ?_
 unfold WM.pt
 exact h.rd_ 0 rfl (fun B2 own base2=>ej0 (e:=59) (base2 (base hB)) (.inl rfl) hs) fun w1 h=>k _ [] h
theorem UR{e:UInt8}(he:vR e)(lo:Int)(s:RS):(UN e lo s).2.rest.length≤s.rest.length∧inI (UN e lo s).1∧(0≤lo→0≤(UN e lo s).1):=by
 rcases xP he lo s with⟨n,r,e1,e2,e3,e4⟩ | ⟨_,e4⟩<;>rw[e4]
 ·refine⟨?_,e3,fun h=>by show 0≤n;omega⟩
  rw[e1,List.length_append,List.length_cons]
  show r.length≤_
  omega
 ·exact⟨Nat.zero_le _,by show inI 0;exact⟨by decide,by decide⟩,fun _=>Int.le_refl 0⟩
theorem qY(hB:lC B)(hs:s.rest.length≤140737488355328):Does prog B (rdD p s) (Z0 yA #[ie0 p]) (lW p (.string (ofL (SA s).1)) (SA s).2):=by
 refine Does.rd fun B' w K base h k=>?_
 replace hB:=base hB
 refine IL.up ?_
 unfold IL.pt
 refine h.rd_ 0 rfl (fun B2 own base2=>ej0 (e:=58) (base2 hB) (.inr (.inl rfl)) hs) fun w1 h=>?_
 obtain⟨hle,hin,h0⟩:=UR (.inr (.inl rfl):vR 58) 0 s
 have h0:=h0 (Int.le_refl 0)
 unfold SA at k
 generalize UN 58 0 s=q at h k hle hin h0
 obtain⟨n,s1⟩:=q
 have h:Rel B' w1 [rdD p s1]:=h
 simp only at hle hin h0 k ⊢
 simp -zeta only[y5,U0 KE,Nat.add_zero,h.ld 0 rfl V6 (o:=0) rfl,oK C8,BD,A_,K3]
 refine⟨fun c=>?_,fun c=>?_⟩
 ·rw[if_pos c] at k
  exact h.rd_ 0 rfl (fun B2 own base2=>eu0) fun w2 h=>k _ [] h
 ·rw[if_neg c] at k
  obtain⟨m,rfl⟩:∃m:Nat,n=m:=⟨n.toNat,by omega⟩
  rw[bS C8 (lo:=0) (hi:=m) Bnd.none Bnd.some (Nat.zero_le _) (by rw[J_];omega)]
  rw[bS C8 (lo:=m) (hi:=(ofL s1.rest).size) Bnd.some Bnd.none (by rw[J_];omega) (Nat.le_refl _)]
  rw[BD,J_,List.take_length,List.drop_zero]
  refine h.st 0 rfl V6 (show 0<2 by omega) rfl fun w3 h=>?_
  have h:Rel B' w3 [rdD p ⟨s1.rest.drop m,s1.bad⟩]:=h
  refine h.rd_ 0 rfl (fun B2 own base2=>dH0 (e:=44) (by show (s1.rest.drop m).length≤_;rw[List.length_drop];omega)) fun w4 h=>?_
  simp only[Int.toNat_natCast] at k
  have h:Rel B' w4 [rdD p (lN 44 ⟨s1.rest.drop m,s1.bad⟩)]:=h
  simp -zeta only[y5,U0 aR,Nat.zero_add,h.ld 0 rfl RB (o:=1) rfl]
  rw[Q5]
  refine⟨fun c2=>?_,fun c2=>?_⟩
  ·rw[if_pos c2] at k;exact k _ [] h
  ·rw[if_neg (by rw[c2];decide)] at k;exact k _ [] h
theorem Vg0(hc:rdD p s B):Gives prog B (Z0 yD #[ie0 p]) (.int .i64 s.rest.length):=by
 refine Gives.intro fun B' w K base h k=>?_
 replace hc:=base hc
 refine GL.up ?_
 unfold GL.pt
 simp -zeta only[y5,U0 KE,Nat.add_zero,O1.ld (h.K6 hc) V6 (o:=0) rfl,oK C8,BD]
 exact k _ _ h
theorem gz0:(⟨#[]⟩:ByteArray)=ofL []:=rfl
theorem oH0{P:Program}{T:TypeId}{xo yo:Operand}{a b:Bs}{K:Value→Prop}:M0 P (Y3 .eql T xo yo (.string (ofL a)) (.string (ofL b))) K=K (.bool (decide (a=b))):=by
 rw[WT]
 congr 2
 exact decide_eq_decide.2 ⟨fun h=>congrArg bl h,fun h=>by rw[h]⟩
def UT(s:RS):Bool:=!s.bad&&decide (s.rest=[])
theorem nY(hc:rdD p s B):Gives prog B (Z0 jB #[ie0 p]) (.bool (UT s)):=by
 refine Gives.intro fun B' w K base h k=>?_
 replace hc:=base hc
 refine FL.up ?_
 unfold FL.pt
 simp -zeta only[y5,U0 KE,U0 aR,Nat.zero_add,Nat.add_zero,O1.ld (h.K6 hc) V6 (o:=0) rfl,O1.ld (h.K6 hc) RB (o:=1) rfl,V8,K5,Q5,gz0,oH0]
 unfold UT at k
 refine⟨fun c=>?_,fun c=>?_⟩
 ·rw[c] at k;exact k _ _ h
 ·rw[c] at k;exact k _ _ h
theorem KZ{t:Bs}:Makes prog B (Z0 iB #[.string (ofL t)]) fun u τ=>∃p,u=ie0 p∧τ=[rdD p ⟨t,false⟩]:=by
 refine Makes.intro fun B' w K base h k=>?_
 refine zY.up ?_
 unfold zY.pt
 rw[qd0]
 refine h.box fun b w1 h=>?_
 exact k _ _ _ ⟨b,rfl,rfl⟩ h
end
theorem bD0(n:Int):0<(encI n).length:=by unfold encI;simp
theorem fD0(t:Bs):0<(bB t).length:=by unfold bB;simp<;>omega
end Go.Proofs.YtngbebnhegcokaaGreatDoor
namespace Go.Proofs.YtngbebnhegcokaaGreatDoor
open Go.Proofs.Tryz (prog)
open Go.RowKit
structure Ok2 {α:Type} (enc:α→Bs) (good:α→Prop) (one:RS→α×RS):Prop where
 ok:Ok1 enc good one
 keep:∀s:RS,s.bad=true→(one s).2.bad=true
theorem Ok2.back{α:Type}{enc:α→Bs}{good:α→Prop}{one:RS→α×RS}(h:Ok2 enc good one){s:RS}(hb:(one s).2.bad=false):s.bad=false∧s.rest=enc (one s).1++(one s).2.rest∧good (one s).1:=by
 have h1:s.bad=false:=by
  cases hs:s.bad
  ·rfl
  ·rw[h.keep s hs] at hb;cases hb
 exact⟨h1,h.ok.back h1 hb⟩
theorem Yd0{e:UInt8}(he:vR e)(lo:Int)(s:RS)(h:s.bad=true):(UN e lo s).2.bad=true:=by
 rcases xP he lo s with⟨n,r,_,_,_,e4⟩ | ⟨_,e4⟩<;>rw[e4]
 ·exact h
 ·rfl
theorem Gp0(e:UInt8)(s:RS)(h:s.bad=true):(lN e s).bad=true:=by
 rcases BR e s with⟨r,_,e2⟩ | ⟨_,e2⟩<;>rw[e2]
 ·exact h
 ·rfl
theorem TD0:Ok2 encI (fun n => -9223372036854775808≤n∧inI n) GA:=⟨gI0,fun s h=>Yd0 (.inl rfl) _ s h⟩
theorem BE0:Ok2 encI (fun n=>0≤n∧inI n) KR:=⟨tI0,fun s h=>Yd0 (.inl rfl) _ s h⟩
theorem um0:Ok2 bB (fun t=>t.length≤9223372036854775807) SA:=by
 refine⟨cG0,fun s h=>?_⟩
 unfold SA
 simp only
 split
 ·rfl
 ·exact Gp0 _ _ (Yd0 (.inr (.inl rfl)) _ s h)
def vm0{α β:Type}(one:RS→α×RS)(two:RS→β×RS)(s:RS):(α×β)×RS:=(((one s).1,(two (one s).2).1),(two (one s).2).2)
def XK{α:Type}(one:RS→α×RS):Nat→List α→RS→List α×RS
 | 0,acc,s=>(acc,s)
 | k+1,acc,s=>XK one k (acc++[(one s).1]) (one s).2
structure Rd2 {α:Type} (enc:α→Bs) (good:α→Prop) (one:RS→α×RS):Prop where
 back:∀s:RS,(one s).2.bad=false→s.bad=false∧s.rest=enc (one s).1++(one s).2.rest∧good (one s).1
 fore:∀(x:α) (r:Bs),good x→one ⟨enc x++r,false⟩=(x,⟨r,false⟩)
theorem Qw0:Rd2 encI inI GA:=⟨fun s h=>by
 obtain⟨h1,h2,h3⟩:=TD0.back h
 exact⟨h1,h2,h3.2⟩,fun x r hx=>uI hx r false⟩
theorem uI0:Rd2 encI (fun n=>0≤n∧inI n) KR:=⟨fun s h=>BE0.back h,fun x r hx=>AX hx.1 hx.2 r false⟩
theorem eG0:Rd2 bB (fun t=>t.length≤9223372036854775807) SA:=⟨fun s h=>um0.back h,fun x r hx=>RN hx r⟩
theorem Rd2.seq{α β:Type}{e1:α→Bs}{e2:β→Bs}{g1:α→Prop}{g2:β→Prop}{one:RS→α×RS}{two:RS→β×RS}(h1:Rd2 e1 g1 one)(h2:Rd2 e2 g2 two):Rd2 (fun p=>e1 p.1++e2 p.2) (fun p=>g1 p.1∧g2 p.2) (vm0 one two):=by
 refine⟨fun s h=>?_,fun x r hx=>?_⟩
 ·obtain⟨b1,b2,b3⟩:=h2.back _ h
  obtain⟨a1,a2,a3⟩:=h1.back _ b1
  refine⟨a1,?_,a3,b3⟩
  show s.rest=(e1 (one s).1++e2 (two (one s).2).1)++(two (one s).2).2.rest
  rw[a2,b2,List.append_assoc]
 ·unfold vm0
  rw[List.append_assoc,h1.fore _ _ hx.1,h2.fore _ _ hx.2]
theorem Rd2.times{α:Type}{enc:α→Bs}{good:α→Prop}{one:RS→α×RS}(h:Rd2 enc good one):∀(k:Nat) (acc:List α) (s:RS),(XK one k acc s).2.bad=false →
  s.bad=false∧∃l,l.length=k∧(XK one k acc s).1=acc++l∧s.rest=l.flatMap enc++(XK one k acc s).2.rest∧∀x∈l,good x
 | 0,acc,s,hb=>⟨hb,[],rfl,by simp [XK],by simp [XK],fun x hx=>(by cases hx)⟩
 | k+1,acc,s,hb=>by
  rw[XK] at hb ⊢
  obtain⟨h1,l,e1,e2,e3,e4⟩:=Rd2.times h k _ _ hb
  obtain⟨b1,b2,b3⟩:=h.back _ h1
  refine⟨b1,(one s).1 :: l,by rw[List.length_cons,e1],by rw[e2];simp,?_,fun x hx=>?_⟩
  ·rw[List.flatMap_cons,List.append_assoc,←e3];exact b2
  ·rcases List.mem_cons.1 hx with rfl | hx
   ·exact b3
   ·exact e4 x hx
theorem Rd2.wm0{α:Type}{enc:α→Bs}{good:α→Prop}{one:RS→α×RS}(h:Rd2 enc good one):∀(l acc:List α) (r:Bs),(∀x∈l,good x)→XK one l.length acc ⟨l.flatMap enc++r,false⟩=(acc++l,⟨r,false⟩)
 | [],acc,r,_=>by simp [XK]
 | x :: l,acc,r,hg=>by
  rw[List.length_cons,XK,List.flatMap_cons,List.append_assoc,h.fore _ _ (hg x List.mem_cons_self)]
  rw[Rd2.wm0 h l _ r fun y hy=>hg y (List.mem_cons_of_mem _ hy)]
  simp
theorem Yp0{s:RS}(h:UT s=true):s.bad=false∧s.rest=[]:=by
 unfold UT at h
 cases hb:s.bad<;>rw[hb] at h
 ·exact⟨rfl,by simpa using h⟩
 ·cases h
abbrev LW(s:RS):Prop:=s.bad=true→s.rest=[]
theorem ae0{e:UInt8}(he:vR e){lo:Int}{s:RS}(h:LW s):LW (UN e lo s).2:=by
 rcases xP he lo s with⟨n,r,e1,_,_,e4⟩ | ⟨_,e4⟩<;>rw[e4]
 ·intro hb
  have:=h hb
  rw[this] at e1
  exact absurd e1.symm (by simp)
 ·exact fun _=>rfl
theorem Ip0{e:UInt8}{s:RS}(h:LW s):LW (lN e s):=by
 rcases BR e s with⟨r,e1,e2⟩ | ⟨_,e2⟩<;>rw[e2]
 ·intro hb
  have:=h hb
  rw[this] at e1
  cases e1
 ·exact fun _=>rfl
theorem TA0{s:RS}(h:LW s)(n:Nat):LW ⟨s.rest.drop n,s.bad⟩:=fun hb=>by
 show s.rest.drop n=[]
 rw[h hb,List.drop_nil]
theorem Gv0{s:RS}(h:LW s):LW (SA s).2:=by
 have h1:=ae0 (.inr (.inl rfl):vR 58) (lo:=0) h
 unfold SA
 simp only
 split
 ·exact fun _=>rfl
 ·exact Ip0 (TA0 h1 _)
theorem rl0{s:RS}(h:LW s):LW (GA s).2:=ae0 (.inl rfl) h
theorem sA0{s:RS}(h:LW s):LW (KR s).2:=ae0 (.inl rfl) h
theorem Ey0(e:UInt8)(s:RS):(lN e s).rest.length≤s.rest.length:=by
 rcases BR e s with⟨r,e1,e2⟩ | ⟨_,e2⟩<;>rw[e2]
 ·rw[e1,List.length_cons];exact Nat.le_succ _
 ·exact Nat.zero_le _
theorem OX(s:RS):(SA s).1.length≤s.rest.length∧(SA s).2.rest.length≤s.rest.length:=by
 have h1:=(UR (.inr (.inl rfl):vR 58) 0 s).1
 unfold SA
 simp only
 split
 ·exact⟨Nat.zero_le _,Nat.zero_le _⟩
 ·have h2:=Ey0 44 ⟨(UN 58 0 s).2.rest.drop (UN 58 0 s).1.toNat,(UN 58 0 s).2.bad⟩
  have h3:(⟨(UN 58 0 s).2.rest.drop (UN 58 0 s).1.toNat,(UN 58 0 s).2.bad⟩:RS).rest.length≤(UN 58 0 s).2.rest.length:=by
   show ((UN 58 0 s).2.rest.drop _).length≤_
   rw[List.length_drop];omega
  refine⟨?_,Nat.le_trans h2 (Nat.le_trans h3 h1)⟩
  show (if _ then([]:Bs) else _).length≤_
  split
  ·exact Nat.zero_le _
  ·rw[List.length_take];omega
theorem gK(s:RS):(GA s).2.rest.length≤s.rest.length:=(UR (.inl rfl) _ s).1
theorem sI0(s:RS):(KR s).2.rest.length≤s.rest.length:=(UR (.inl rfl) _ s).1
end Go.Proofs.YtngbebnhegcokaaGreatDoor
namespace Go.Proofs.YtngbebnhegcokaaGreatDoor
open Go.Proofs.Tryz (prog)
open Go.RowKit
set_option maxRecDepth 100000
def A7(x:J7):Bs:=encI x.term++bB (bl x.data)
def NL(m:U8):List Int:=[m.kind,m.from_,m.to_,m.term,m.index,m.prev,m.commit,if m.yes then 1 else 0]
def nM(m:U8):Bs:=(NL m).flatMap encI++(encI m.recs.length++m.recs.flatMap A7)
structure iN (x:J7):Prop where
 term:inI x.term
 data:x.data.size≤100000
structure gL (m:U8):Prop where
 ints:∀n∈NL m,inI n
 few:m.recs.length≤8
 recs:∀x∈m.recs,iN x
theorem jO(s:ByteArray):(bl s).length=s.size:=by
 show s.data.toList.length=s.data.size
 exact Array.length_toList
theorem QM(s:ByteArray):ofL (bl s)=s:=by
 show (⟨s.data.toList.toArray⟩:ByteArray)=s
 rw[Array.toArray_toList]
theorem bT{x:J7}(h:iN x):(A7 x).length≤100043:=by
 have h1:=X6 h.term
 have h2:=LF (bl x.data) (by rw[jO];have:=h.data;omega)
 have h3:=h.data
 rw[jO] at h2
 unfold A7
 rw[List.length_append]
 omega
theorem Vt0(x:J7):0<(A7 x).length:=by
 unfold A7 encI
 simp only[List.length_append,List.length_cons,List.length_nil]
 omega
theorem hO0{Kp:Value→Prop}{m:U8}{i:Nat}(hi:i<(NL m).length):M0 prog (RZ sg0 (.agg ((NL m).map (Value.int .i64)).toArray) (.int .i64 i)) Kp=Kp (.int .i64 (NL m)[i]):=by
 have:i<8:=hi
 obtain rfl | rfl | rfl | rfl | rfl | rfl | rfl | rfl:i=0∨i=1∨i=2∨i=3∨i=4∨i=5∨i=6∨i=7:=by omega
 all_goals exact V4 fun w=>by kernel_rfl
section
variable {B:Base} {w:World} {σ τ:List Dat} {p:Nat}
theorem uj0(hB:kH B){x:J7}(hx:iN x):Gives prog B (Z0 TI #[.agg x.cs.toArray]) (.string (ofL (A7 x))):=by
 refine Gives.intro fun B' w K base h k=>?_
 replace hB:=base hB
 refine CL.up ?_
 unfold CL.pt
 refine h.box fun o w1 h=>?_
 have h:Rel B' w1 [O1 o U3 x.cs.toArray]:=h
 have h:=h.tick
 generalize tick w1=w1 at *
 have l1:=X6 hx.term
 have l2:=bT hx
 have l3:=hx.data
 unfold A7 at k l2
 rw[List.length_append] at l2
 simp -zeta only[U0 YT,U0 mX,Nat.zero_add]
 rw[h.ld 0 rfl F3 (o:=0) (v := .int .i64 x.term) rfl,h.ld 0 rfl V6 (o:=1) (v := .string x.data) rfl]
 refine h.ask (fun B2 own base2=>KC (base2 hB) hx.term) fun w2 h=>?_
 refine⟨h.is 0 rfl V6 (o:=1) rfl,?_⟩
 refine h.ask (v := .string (ofL (bB (bl x.data)))) (fun B2 own base2=>by
  have:=nU (base2 hB) (s:=bl x.data) (by rw[jO];omega)
  rw[QM] at this
  exact this) fun w3 h=>?_
 rw[q9 (by omega)]
 exact k _ _ h.nil
end
theorem bd8{K:Value→Prop}{a b c d e f g i:Int}:M0 prog (G6 sg0 #[(0,.int .i64 a),(1,.int .i64 b),(2,.int .i64 c),(3,.int .i64 d),(4,.int .i64 e),(5,.int .i64 f),(6,.int .i64 g),(7,.int .i64 i)]) K=K (.agg #[.int .i64 a,.int .i64 b,.int .i64 c,.int .i64 d,.int .i64 e,.int .i64 f,.int .i64 g,.int .i64 i]):=V4 fun w=>by kernel_rfl
theorem aY{α:Type}(f:α→Bs)(l:List α){i:Nat}(hi:i<l.length):(l.take (i+1)).flatMap f=(l.take i).flatMap f++f l[i]:=by
 rw[List.take_succ_eq_append_getElem hi,List.flatMap_append]
 simp
theorem dq0{m:U8}(h:gL m):(nM m).length≤1000000:=by
 unfold nM
 have h1:=GG encI (NL m) 21 fun n hn=>X6 (h.ints n hn)
 have h2:=X6 (n:=(m.recs.length:Int)) (by have:=h.few;unfold inI;omega)
 have h3:=GG A7 m.recs 100043 fun x hx=>bT (h.recs x hx)
 have h4:=h.few
 have h5:(NL m).length=8:=rfl
 rw[List.length_append,List.length_append]
 omega
section
variable {B:Base} {w:World} {σ τ:List Dat} {p:Nat}
set_option maxHeartbeats 1000000 in
theorem Ti0(hB:kH B){m:U8}{v:SV}(hm:gL m)(q:Q4 v.1 m.recs B):Gives prog B (Z0 FM #[(m.raw v).v]) (.string (ofL (nM m))):=by
 refine Gives.intro fun B' w K base h k=>?_
 replace hB:=base hB
 replace q:=base q
 refine lQ.up ?_
 unfold lQ.pt
 have hml:=dq0 hm
 have hmf:=hm.few
 refine h.box fun o w1 h=>?_
 have h:Rel B' w1 [O1 o U1 (m.raw v).cs.toArray]:=h
 refine Q6 fun J hJ=>?_
 replace hJ:∀w',Rel B' w' [O1 o U1 (m.raw v).cs.toArray]→J (.int .i64 (if m.yes then 1 else 0),()) w':=by
  intro w' h
  refine hJ _ _ ?_
  clear hJ
  simp -zeta only[U0 gX,U0 xN,U0 iX,U0 JK,U0 rF,U0 yN,U0 XT,U0 uQ,Nat.zero_add]
  rw[h.ld 0 rfl F3 (o:=0) (v := .int .i64 m.kind) rfl,h.ld 0 rfl F3 (o:=1) (v := .int .i64 m.from_) rfl,h.ld 0 rfl F3 (o:=2) (v := .int .i64 m.to_) rfl,h.ld 0 rfl F3 (o:=3) (v := .int .i64 m.term) rfl,h.ld 0 rfl F3 (o:=4) (v := .int .i64 m.index) rfl,h.ld 0 rfl F3 (o:=5) (v := .int .i64 m.prev) rfl,h.ld 0 rfl F3 (o:=6) (v := .int .i64 m.commit) rfl,bd8]
  have hagg:(Value.agg #[.int .i64 m.kind,.int .i64 m.from_,.int .i64 m.to_,.int .i64 m.term,.int .i64 m.index,.int .i64 m.prev,.int .i64 m.commit,.int .i64 (if m.yes then 1 else 0)]) = .agg ((NL m).map (Value.int .i64)).toArray:=rfl
  rw[hagg]
  clear hagg
  have h8:(NL m).length=8:=rfl
  refine M6 (fun z w'=>∃i:Nat,i≤8∧z=(.string (ofL (((NL m).take i).flatMap encI)),.int .i64 i,())∧Rel B' w' [O1 o U1 (m.raw v).cs.toArray])
   (fun z _=>8-(match z.2.1 with | .int _ n=>n.toNat | _=>0)) ⟨0,Nat.zero_le _,rfl,h⟩ ?_
  clear h
  rintro z w2 ⟨i,hi,rfl,h⟩ next hnext
  simp -zeta only[D6,K3]
  refine⟨fun hlt=>?_,fun hge=>?_⟩
  ·have hil:i<(NL m).length:=by omega
   rw[hO0 hil]
   refine h.ask (fun B2 own base2=>KC (base2 hB) (hm.ints _ (List.getElem_mem hil))) fun w3 h=>?_
   have h1:=X6 (hm.ints _ (List.getElem_mem hil))
   have h2:=GG encI ((NL m).take i) 21 fun n hn=>X6 (hm.ints n (List.mem_of_mem_take hn))
   have h3:((NL m).take i).length≤8:=by rw[List.length_take];omega
   rw[q9 (by omega),V5,D5 (by omega) (by omega),←aY encI _ hil]
   exact hnext _ _ ⟨i+1,by omega,rfl,h⟩ (by simp only;omega)
  have:i=(NL m).length:=by omega
  subst this
  rw[List.take_length]
  have hml2:=hml
  unfold nM at hml2
  rw[List.length_append,List.length_append] at hml2
  have hin:inI (m.recs.length:Int):=by unfold inI;omega
  rw[h.ld 0 rfl O5 (o:=8) (v:=v.1) rfl,Q4.len q U5]
  refine h.ask (fun B2 own base2=>Oj0 (base2 hB) hin) fun w3 h=>?_
  rw[show bg0 (m.recs.length:Int)=encI m.recs.length by unfold bg0;rw[if_neg (by omega)],q9 (by omega)]
  rw[h.ld 0 rfl O5 (o:=8) (v:=v.1) rfl,Q4.len q U5]
  refine M6 (fun z w'=>∃i:Nat,i≤m.recs.length∧z=(.string (ofL (((NL m).flatMap encI++encI m.recs.length)++(m.recs.take i).flatMap A7)),.int .i64 i,())∧Rel B' w' [O1 o U1 (m.raw v).cs.toArray])
   (fun z _=>m.recs.length-(match z.2.1 with | .int _ n=>n.toNat | _=>0)) ⟨0,Nat.zero_le _,by rw[List.take_zero,List.flatMap_nil,List.append_nil];rfl,h⟩ ?_
  clear h
  rintro z w4 ⟨i,hi,rfl,h⟩ next hnext
  simp -zeta only[D6,K3]
  refine⟨fun hlt=>?_,fun hge=>?_⟩
  case refine_2 =>
   have:i=m.recs.length:=by omega
   subst this
   rw[List.take_length,List.append_assoc]
   exact k _ _ h.nil
  have hil:i<m.recs.length:=by omega
  obtain⟨g,og,hx,hc⟩:=Q4.idx q U5 (P:=prog) hil
  have hc:F6 g og m.recs[i].cs B':=hc
  rw[hx,F6.Q9 (h.K6 hc) P9 rfl]
  have hfx:=hm.recs _ (List.getElem_mem hil)
  have h3:=fF A7 m.recs (i+1)
  rw[aY A7 _ hil] at h3
  rw[List.length_append] at h3
  have hsn:=aY A7 m.recs hil
  generalize m.recs[i]=x at *
  refine h.r9 (ds:=x.cs.toArray) KL rfl P9 rfl (fun v hv=>Enc.one x v hv) fun b w5 h=>?_
  rw[h.Q9 1 rfl P9 rfl]
  refine h.ask (fun B2 own base2=>uj0 (base2 hB) hfx) fun w6 h=>?_
  rw[q9 (by rw[List.length_append,List.length_append];omega),V5,D5 (by omega) (by omega)]
  refine hnext _ _ ⟨i+1,hil,?_,h.take 1⟩ (by simp only;omega)
  rw[hsn,List.append_assoc _ ((m.recs.take i).flatMap A7)]
  rfl
 simp -zeta only[U0 LK,Nat.zero_add]
 rw[h.ld 0 rfl RB (o:=7) (v := .bool m.yes) rfl,Q5]
 refine⟨fun c=>?_,fun c=>?_⟩
 ·rw[c] at hJ;exact hJ _ h
 ·rw[c] at hJ;exact hJ _ h
end
theorem cp0{X:Type}{B:X→World→(X→World→Prop)→Prop}{x:X}{w:World}(I:Nat→X→World→Prop)(n:Nat)(h0:I n x w)
  (hB:∀n x w,I n x w→∀next:X→World→Prop,(∀n' x' w',n'<n→I n' x' w'→next x' w')→B x w next):LOOP B x w:=by
 have key:∀k n x w,I n x w→n<k→iter B k x w:=by
  intro k
  induction k with
  | zero=>intro n x w _ h;omega
  | succ k ih=>intro n x w hI hk;exact hB n x w hI _ fun n' x' w' hlt hI'=>ih n' x' w' hI' (by omega)
 exact⟨n+1,key _ n x w h0 (by omega)⟩
section
variable {B:Base} {w:World} {σ τ:List Dat} {p:Nat}
theorem Rel.Tb0(hB:lC B){n:Int}{r:Bs}{K:PtK}(h:Rel B w σ)(i:Nat)(hi:σ[i]? = some (rdD p ⟨encI n++r,false⟩))(hn:inI n)(hl:(encI n++r).length≤140737488355328)(k:∀w',Rel B w' (σ.set i (rdD p ⟨r,false⟩))→K (.int .i64 n) w') :
  upK prog (Z0 Y6 #[ie0 p]) w K:=by
 refine h.rd_ i hi (fun B2 own base2=>dR (base2 hB) hl) fun w' h=>?_
 rw[uI hn] at h ⊢
 exact k _ h
theorem Rel.sM0(hB:lC B){t r:Bs}{K:PtK}(h:Rel B w σ)(i:Nat)(hi:σ[i]? = some (rdD p ⟨bB t++r,false⟩))(hl:(bB t++r).length≤140737488355328)(ht:t.length≤9223372036854775807)(k:∀w',Rel B w' (σ.set i (rdD p ⟨r,false⟩))→K (.string (ofL t)) w') :
  upK prog (Z0 yA #[ie0 p]) w K:=by
 refine h.rd_ i hi (fun B2 own base2=>qY (base2 hB) hl) fun w' h=>?_
 rw[RN ht] at h ⊢
 exact k _ h
set_option maxHeartbeats 2000000 in
theorem tM0(hB:lC B)(hP:kH B){m:U8}(hm:gL m):Makes prog B (Z0 JS #[.string (ofL (nM m))]) fun u τ=>∃v:SV,u = .tuple #[(m.raw v).v,.bool true]∧τ=[V3 U3 v.1 m.recs]:=by
 refine Makes.intro fun B' w K base h k=>?_
 replace hB:=base hB
 replace hP:=base hP
 refine XR.up ?_
 unfold XR.pt
 have hml:=dq0 hm
 have hmf:=hm.few
 have hin:inI (m.recs.length:Int):=by unfold inI;omega
 have e8:nM m=encI m.kind++(encI m.from_++(encI m.to_++(encI m.term++(encI m.index++(encI m.prev++(encI m.commit++(encI (if m.yes then 1 else 0)++(encI m.recs.length++m.recs.flatMap A7)))))))):=by
  unfold nM NL
  simp only[List.flatMap_cons,List.flatMap_nil,List.append_assoc,List.nil_append]
 have hi:=hm.ints
 unfold NL at hi
 simp only[List.mem_cons,List.not_mem_nil,or_false,forall_eq_or_imp,forall_eq] at hi
 obtain⟨i0,i1,i2,i3,i4,i5,i6,i7⟩:=hi
 refine h.alloc JJ fun t w1 h=>?_
 refine h.make (fun B2 own base2=>KZ) fun u τ w2 hp h=>?_
 obtain⟨p,rfl,rfl⟩:=hp
 have h:Rel B' w2 [O1 t U1 ((⟨0,0,0,0,0,0,0,false,[]⟩:U8).raw YB).cs.toArray,rdD p ⟨nM m,false⟩]:=h
 have hll:=hml
 rw[e8] at h hll
 simp only[List.length_append] at hll
 refine h.Tb0 hB 1 rfl i0 (by simp only[List.length_append];omega) fun w3 h=>?_
 refine h.Tb0 hB 1 rfl i1 (by simp only[List.length_append];omega) fun w3 h=>?_
 refine h.Tb0 hB 1 rfl i2 (by simp only[List.length_append];omega) fun w3 h=>?_
 refine h.Tb0 hB 1 rfl i3 (by simp only[List.length_append];omega) fun w3 h=>?_
 refine h.Tb0 hB 1 rfl i4 (by simp only[List.length_append];omega) fun w3 h=>?_
 refine h.Tb0 hB 1 rfl i5 (by simp only[List.length_append];omega) fun w3 h=>?_
 refine h.Tb0 hB 1 rfl i6 (by simp only[List.length_append];omega) fun w3 h=>?_
 refine h.Tb0 hB 1 rfl i7 (by simp only[List.length_append];omega) fun w3 h=>?_
 have ey:decide ((if m.yes then 1 else 0:Int)=1)=m.yes:=by cases m.yes<;>rfl
 rw[O6,ey,SS]
 refine h.r9 (ds:=(({ m with recs:=[] }:U8).raw YB).cs.toArray) JJ rfl Q8 rfl (fun v hv=>Enc.one (({ m with recs:=[] }:U8).raw YB) v hv) fun a w4 h=>?_
 have h:Rel B' w4 [O1 t U1 ((⟨0,0,0,0,0,0,0,false,[]⟩:U8).raw YB).cs.toArray,rdD p ⟨encI m.recs.length++m.recs.flatMap A7,false⟩,O1 a U1 (m.raw YB).cs.toArray]:=h
 refine Q6 fun J hJ=>?_
 replace hJ:∀(v:SV) w',Rel B' w' [O1 t U1 ((⟨0,0,0,0,0,0,0,false,[]⟩:U8).raw YB).cs.toArray,rdD p ⟨[],false⟩,O1 a U1 (m.raw v).cs.toArray,V3 U3 v.1 m.recs]→J () w':=by
  intro v w' h
  refine hJ _ _ ?_
  clear hJ
  refine h.ask (fun B2 own base2=>nY (s:=⟨[],false⟩) (own (i:=1) rfl)) fun w6 h=>?_
  rw[show UT ⟨[],false⟩=true from rfl,V8,K5,Q5]
  refine⟨fun _=>?_,fun c=>by cases c⟩
  rw[h.Q9 2 rfl Q8 rfl]
  refine h.ask (fun B2 own base2=>Ti0 (base2 hP) hm (V3.read (own (i:=3) rfl))) fun w7 h=>?_
  rw[eo0,K5,K3]
  refine⟨fun _=>?_,fun c=>absurd rfl c⟩
  rw[h.Q9 2 rfl Q8 rfl]
  refine h.xI 0 rfl Q8 rfl rfl (fun x hx=>Enc.one (m.raw v) x hx) fun w8 h=>?_
  rw[CJ h 0 rfl Q8 rfl]
  exact k _ _ _ ⟨v,rfl,rfl⟩ (h.pick [3] (by decide))
 have hfl:(m.recs.flatMap A7).length≤1000000:=by omega
 refine h.rd_ 1 rfl (fun B2 own base2=>lo0 (base2 hB) (by simp only[List.length_append];omega)) fun w5 h=>?_
 rw[AX (by omega) hin] at h ⊢
 have h:=h.oG J7 U3
 clear e8 hll i0 i1 i2 i3 i4 i5 i6 i7 ey
 refine cp0 (fun j _ w'=>∃(i:Nat) (v:SV),i≤m.recs.length∧j=m.recs.length-i∧Rel B' w' [O1 t U1 ((⟨0,0,0,0,0,0,0,false,[]⟩:U8).raw YB).cs.toArray,rdD p ⟨(m.recs.drop i).flatMap A7,false⟩,O1 a U1 (m.raw v).cs.toArray,V3 U3 v.1 (m.recs.take i)])
  _ ⟨0,YB,Nat.zero_le _,rfl,h⟩ ?_
 clear h
 rintro j z w6 ⟨i,v,hi,rfl,h⟩ next hnext
 have htl:(m.recs.take i).length=i:=by rw[List.length_take];omega
 simp -zeta only[U0 uQ,Nat.zero_add]
 rw[h.ld 2 rfl O5 (o:=8) (v:=v.1) rfl,Q4.len (V3.read (h.here (i:=3) rfl)) U5,htl,D6,K3]
 refine⟨fun hlt=>?_,fun hge=>?_⟩
 case refine_2 =>
  have:i=m.recs.length:=by omega
  subst this
  rw[List.drop_length,List.take_length] at h
  exact hJ v _ h
 have hil:i<m.recs.length:=by omega
 have hfx:=hm.recs _ (List.getElem_mem hil)
 have hdc:=List.drop_eq_getElem_cons hil
 have htk:=List.take_succ_eq_append_getElem hil
 generalize m.recs[i]=x at *
 rw[hdc,List.flatMap_cons] at h
 have hdl:(A7 x++(m.recs.drop (i+1)).flatMap A7).length≤1000000:=by
  have:(A7 x++(m.recs.drop (i+1)).flatMap A7).length+((m.recs.take i).flatMap A7).length=(m.recs.flatMap A7).length:=by
   conv=>rhs;rw[←List.take_append_drop i m.recs,hdc]
   rw[List.flatMap_append,List.flatMap_cons]
   simp only[List.length_append]
   omega
  omega
 have hpos:=Vt0 x
 refine h.ask (fun B2 own base2=>Vg0 (own (i:=1) rfl)) fun w7 h=>?_
 rw[A_,K3]
 refine⟨fun _=>?_,fun c=>absurd (show (0:Int)<((A7 x++(m.recs.drop (i+1)).flatMap A7).length:Nat) by rw[List.length_append];omega) c⟩
 have h:=h.tick
 generalize tick w7=w7 at *
 rw[h.ld 2 rfl O5 (o:=8) (v:=v.1) rfl]
 unfold A7 at h hdl
 rw[List.append_assoc] at h hdl
 refine h.Tb0 hB 1 rfl hfx.term (by omega) fun w8 h=>?_
 refine⟨h.is 2 rfl O5 (o:=8) rfl,?_⟩
 refine h.sM0 hB 1 rfl (by rw[List.length_append] at hdl;omega) (by rw[jO];have:=hfx.data;omega) fun w9 h=>?_
 refine⟨h.is 2 rfl O5 (o:=8) rfl,?_⟩
 rw[QM,VS]
 refine h.bH (α:=J7) x U5 (by decide) fun v2 w10 h=>?_
 refine⟨h.is 2 rfl O5 (o:=8) rfl,?_⟩
 refine h.append (α:=J7) 3 rfl U5 (Rd.at 4 rfl) (by rw[htl];show (i+1) * _≤_;omega) (by rw[htl];show i+1≤_;omega) fun v3 w11 h=>?_
 have hv3:v3.oneCell'=true:=h.oneCell (i:=3) rfl
 refine h.st 2 rfl O5 (o:=8) (show 8<9 by omega) hv3 fun w12 h=>?_
 refine hnext _ _ _ (show m.recs.length-(i+1)<m.recs.length-i by omega) ⟨i+1,⟨v3,hv3⟩,hil,rfl,?_⟩
 rw[htk]
 exact h.take 4
end
theorem uV{b:Int}:∀{l:List J7} {a:Int},LA l a b=true→∀x∈l,a≤x.term∧x.term≤b∧x.data.size≤2000
 | [],_,_,x,hx=>by cases hx
 | y :: l,a,h,x,hx=>by
  rw[LA] at h
  split at h
  ·cases h
  split at h
  ·cases h
  split at h
  ·cases h
  rename_i h1 h2 h3
  rcases List.mem_cons.1 hx with rfl | hx
  ·omega
  ·have:=uV h x hx
   omega
theorem wv0{l:List J7}{a b:Int}(h:LA l a b=true)(n:Nat):LA (l.take n) a b=true:=by
 rw[←List.take_append_drop n l,RO,Bool.and_eq_true] at h
 exact h.1
theorem tv0{l:List J7}{a b:Int}(h:LA l a b=true)(n:Nat):LA (l.drop n) ((((l.take n).getLast?).map (·.term)).getD a) b=true:=by
 rw[←List.take_append_drop n l,RO,Bool.and_eq_true] at h
 exact h.2
theorem Cj0(log:List J7):∀(l:List J7) (i:Nat),i≤log.length→i+gB log i l≤log.length
 | [],i,h=>h
 | x :: l,i,h=>by
  unfold gB
  split
  ·rename_i c
   have:=Cj0 log l (i+1) c.1
   omega
  ·exact h
theorem te0(log:List J7):∀(l:List J7) (i j:Nat) (hj:j<l.length),j<gB log i l→YE log ((i:Int)+j+1)=(l[j]).term
 | [],_,_,hj,_=>by cases hj
 | x :: l,i,j,hj,h=>by
  unfold gB at h
  split at h
  ·rename_i c
   cases j with
   | zero =>
    have:=c.2
    rw[show ((i:Int)+((0:Nat):Int)+1)=(i:Int)+1 by omega]
    exact this
   | succ j =>
    have:=te0 log l (i+1) j (by rw[List.length_cons] at hj;omega) (by omega)
    rw[show (((i+1:Nat):Int)+j+1)=((i:Int)+((j+1:Nat):Int)+1) by omega] at this
    rw[this]
    rfl
  ·cases h
theorem uS{log:List J7}{n:Nat}(hn:n<log.length):YE log ((n:Int)+1)=(log[n]).term:=by
 unfold YE
 rw[if_neg (by omega),show ((n:Int)+1-1).toNat=n by omega,List.getElem?_eq_getElem hn]
 rfl
theorem Kd0{l:List J7}{n:Nat}(hn:n<l.length)(a:Int):(((l.take (n+1)).getLast?).map (·.term)).getD a=(l[n]).term:=by
 rw[List.take_succ_eq_append_getElem hn,List.getLast?_concat]
 rfl
theorem Bc0{r:H7}(hk:H8 r):H8 (uF r).1∧(uF r).1.id=r.id∧((r.role=2→1≤r.hard.term)→(uF r).1.role=2→1≤(uF r).1.hard.term):=by
 unfold uF
 split
 ·exact⟨hk,rfl,id⟩
 split
 ·exact⟨hk,rfl,id⟩
 ·have h1:=hk.term
  have h2:=hk.id
  refine⟨⟨hk.id,?_,?_,hk.len,WZ (show r.hard.term≤r.hard.term+1 by omega) _ _ hk.sound,.inr (.inl rfl),hk.commit,(fun h=>by cases h),(fun h=>by cases h)⟩,rfl,fun _ h=>by cases h⟩
  ·show 0≤r.hard.term+1∧r.hard.term+1≤_
   omega
  ·show -1≤r.id∧r.id≤2
   unfold I3 at h2
   omega
theorem FC0{r:H7}(hk:H8 r){m:U8}(hm:0≤m.commit)(h:0≤m.index∧m.index+m.recs.length≤r.log.length):H8 (Lp0 r m) :=
 ⟨hk.id,hk.term,hk.C_,hk.len,hk.sound,hk.role,(by have:=hk.commit;show 0≤max r.commit (min m.commit (m.index+m.recs.length))∧max r.commit (min m.commit (m.index+m.recs.length))≤(r.log.length:Int);omega),hk.next,hk.mtch⟩
theorem GJ0{r:H7}(hk:H8 r)(hr:r.role=0){m:U8}(hm:gI r m)(ht:m.term=r.hard.term):H8 (JW r m).1:=by
 unfold JW
 split
 ·exact hk
 rename_i h1
 have h1a:¬(r.log.length:Int)<m.index:=fun h=>h1 (.inl h)
 have h1b:YE r.log m.index=m.prev:=Classical.byContradiction fun h=>h1 (.inr h)
 have hi:=hm.index
 obtain⟨mi,emi⟩:∃mi:Nat,m.index=mi:=⟨m.index.toNat,by omega⟩
 have emn:m.index.toNat=mi:=by omega
 have hsl:=Cj0 r.log m.recs mi (by omega)
 have hsr:=qc0 r.log m.recs mi
 have hroom:=hm.room
 rw[emn]
 split
 ·rename_i h2
  exact FC0 hk hm.commit.1 (by omega)
 split
 ·exact hk
 rename_i h2 h3
 have hcom:=hk.commit
 have hlen:(r.log.take (mi+gB r.log mi m.recs)++m.recs.drop (gB r.log mi m.recs)).length=mi+m.recs.length:=by
  rw[List.length_append,List.length_take,List.length_drop]
  omega
 refine FC0 (r:={ r with log:=r.log.take (mi+gB r.log mi m.recs)++m.recs.drop (gB r.log mi m.recs) }) ⟨hk.id,hk.term,hk.C_,?_,?_,hk.role,?_,(fun h=>by rw[show _=r.role from rfl,hr] at h;cases h),(fun h=>by rw[show _=r.role from rfl,hr] at h;cases h)⟩ hm.commit.1 ?_
 ·show (r.log.take (mi+gB r.log mi m.recs)++m.recs.drop (gB r.log mi m.recs)).length≤4000
  rw[hlen]
  omega
 ·show LA (r.log.take (mi+gB r.log mi m.recs)++m.recs.drop (gB r.log mi m.recs)) 1 r.hard.term=true
  rw[RO,Bool.and_eq_true]
  refine⟨wv0 hk.sound _,?_⟩
  have hs:=hm.sound
  rw[ht] at hs
  generalize hk':gB r.log mi m.recs=k at *
  cases k with
  | zero =>
   rw[List.drop_zero,Nat.add_zero]
   refine Nr0 m.recs ?_ hs
   cases mi with
   | zero =>
    show (((r.log.take 0).getLast?).map (·.term)).getD 1≤max 1 m.prev
    rw[List.take_zero]
    show (1:Int)≤_
    omega
   | succ n =>
    rw[Kd0 (by omega)]
    rw[emi,show ((n+1:Nat):Int)=(n:Int)+1 by omega,uS (by omega)] at h1b
    omega
  | succ n =>
   have hd:=tv0 hs (n+1)
   rw[Kd0 (by omega)] at hd
   rw[show mi+(n+1)=(mi+n)+1 by omega,Kd0 (by omega)]
   have:=te0 r.log m.recs mi n (by omega) (by omega)
   rw[show ((mi:Int)+n+1)=((mi+n:Nat):Int)+1 by omega,uS (by omega)] at this
   rw[this]
   exact hd
 ·show 0≤r.commit∧r.commit≤((r.log.take (mi+gB r.log mi m.recs)++m.recs.drop (gB r.log mi m.recs)).length:Int)
  rw[hlen]
  omega
 ·show 0≤m.index∧m.index+m.recs.length≤((r.log.take (mi+gB r.log mi m.recs)++m.recs.drop (gB r.log mi m.recs)).length:Int)
  rw[hlen]
  omega
theorem EJ0(r:H7)(m:U8):(JW r m).1.id=r.id∧(JW r m).1.role=r.role∧(JW r m).1.hard=r.hard:=by
 unfold JW
 split
 ·exact⟨rfl,rfl,rfl⟩
 split
 ·exact⟨rfl,rfl,rfl⟩
 split
 ·exact⟨rfl,rfl,rfl⟩
 ·exact⟨rfl,rfl,rfl⟩
theorem rY(r:H7)(m:U8):m.term≤(NF r m).hard.term:=by
 unfold NF
 split
 ·exact Int.le_refl _
 ·omega
theorem jb0{r:H7}(hk:H8 r){m:U8}(hm:gI r m)(hle:m.term≤r.hard.term)(ht:r.role=2→1≤r.hard.term):H8 (yQ r m).1∧(yQ r m).1.id=r.id∧((yQ r m).1.role=2→1≤(yQ r m).1.hard.term):=by
 have hf:I3 m.from_:=by have:=hm.from3;unfold I3;omega
 unfold yQ
 split
 ·unfold Ec0
  split
  ·have:=hm.from3
   exact⟨⟨hk.id,hk.term,(show -1≤m.from_∧m.from_≤2 by omega),hk.len,hk.sound,hk.role,hk.commit,hk.next,hk.mtch⟩,rfl,ht⟩
  ·exact⟨hk,rfl,ht⟩
 split
 ·unfold NU
  split
  ·exact⟨hk,rfl,ht⟩
  split
  ·exact⟨Gc0 hk _,rfl,ht⟩
  ·rename_i h1 _
   have h2:m.term=r.hard.term:=Classical.byContradiction fun h=>h1 (.inr (.inl h))
   have h3:=hm.term
   exact⟨Oi0 (Gc0 hk _),rfl,fun _=>(show 1≤r.hard.term by omega)⟩
 split
 ·unfold AR
  split
  ·exact⟨hk,rfl,ht⟩
  split
  ·exact⟨hk,rfl,ht⟩
  ·rename_i h1 h2
   have hk0:H8 { r with role:=0 }:=⟨hk.id,hk.term,hk.C_,hk.len,hk.sound,.inl rfl,hk.commit,(fun h=>by cases h),(fun h=>by cases h)⟩
   have hm0:gI { r with role:=0 } m:=⟨hm.kind,hm.to_,hm.from_,hm.from3,hm.term,hm.index,hm.prev,hm.zero,hm.commit,hm.few,hm.room,hm.sound⟩
   obtain⟨i1,i2,i3⟩:=EJ0 { r with role:=0 } m
   exact⟨GJ0 hk0 rfl hm0 (show m.term=r.hard.term by omega),i1,fun h=>by rw[i2] at h;cases h⟩
 ·unfold FJ
  split
  ·exact⟨hk,rfl,ht⟩
  rename_i h1
  have hlead:r.role=2:=Classical.byContradiction fun h=>h1 (.inl h)
  have hn:=hk.next hlead _ hf
  have hmt:=hk.mtch hlead _ hf
  have hix:=hm.index
  split
  ·exact⟨wb0 hk hf (by omega),rfl,ht⟩
  rename_i h2
  have hyes:m.yes=true:=by cases hy:m.yes;exact absurd hy h2;rfl
  have h3:m.index≤r.log.length:=by
   by_cases c:(r.log.length:Int)<m.index
   ·exact absurd (.inr (.inr ⟨hyes,c⟩)) h1
   ·omega
  have hk2:H8 { r with mtch:=r.mtch.set m.from_ (max (r.mtch.get m.from_) m.index),next:=r.next.set m.from_ (max (r.mtch.get m.from_) m.index+1) }:=wb0 (r:={ r with mtch:=r.mtch.set m.from_ (max (r.mtch.get m.from_) m.index) }) (co0 hk hf (by omega)) hf (by show _∧_≤(r.log.length:Int)+1;omega)
  have e1:H8 (TN r m):=zh0 hk2 hlead
  have e2:(TN r m).id=r.id∧(TN r m).hard=r.hard:=by unfold TN KF;split<;>exact⟨rfl,rfl⟩
  have e3:(TN r m).role=2→1≤(TN r m).hard.term:=fun _=>by rw[e2.2];exact ht hlead
  split
  ·exact⟨e1,e2.1,e3⟩
  ·exact⟨e1,e2.1,e3⟩
theorem sV(hd:EB)(q:H7×LC):(rV hd q).1=q.1:=by unfold rV;split<;>rfl
theorem Og0{r:H7}(hk:H8 r)(ht:r.role=2→1≤r.hard.term)(m:U8):H8 (MF r m).1∧(MF r m).1.id=r.id∧((MF r m).1.role=2→1≤(MF r m).1.hard.term):=by
 unfold MF
 split
 ·rename_i hm
  obtain⟨hk1,hm1⟩:=ah0 hk hm
  rw[sV]
  have h1:(NF r m).role=2→1≤(NF r m).hard.term:=by
   unfold NF
   split
   ·intro h;cases h
   ·exact ht
  have h2:(NF r m).id=r.id:=by unfold NF;split<;>rfl
  obtain⟨a,b,c⟩:=jb0 hk1 hm1 (rY r m) h1
  exact⟨a,b.trans h2,c⟩
 ·exact⟨hk,rfl,ht⟩
theorem CP{r:H7}(hk:H8 r)(ht:r.role=2→1≤r.hard.term)(data:ByteArray):H8 (G7 r data).r∧(G7 r data).r.id=r.id∧((G7 r data).r.role=2→1≤(G7 r data).r.hard.term):=by
 unfold G7
 split
 ·exact⟨hk,rfl,ht⟩
 split
 ·exact⟨hk,rfl,ht⟩
 split
 ·exact⟨hk,rfl,ht⟩
 ·rename_i h1 h2 h3
  have hl:r.role=2:=Classical.byContradiction h1
  exact⟨ux0 hk (ht hl) (by omega) h3,rfl,ht⟩
structure Gh where
 vo:Int→Int→Option Int
 vt:Int→Int→Option (Int×List J7)
 ld:Int→Option (Int×List J7)
 ack:Int→Int→Nat
def Gh.L(G:Gh)(t:Int):List J7:=((G.ld t).map (·.2)).getD []
theorem Gh.UQ{G:Gh}{t c:Int}{l:List J7}(h:G.ld t=some (c,l)):G.L t=l:=by unfold Gh.L;rw[h];rfl
def Has(G:Gh)(l:List J7)(t:Int)(k:Nat):Prop:=k≤(G.L t).length∧l.take k=(G.L t).take k
theorem Has.zero(G:Gh)(l:List J7)(t:Int):Has G l t 0:=⟨Nat.zero_le _,by rw[List.take_zero,List.take_zero]⟩
theorem Has.len{G:Gh}{l:List J7}{t:Int}{k:Nat}(h:Has G l t k):k≤l.length:=by
 have:=congrArg List.length h.2
 rw[List.length_take,List.length_take] at this
 have:=h.1
 omega
theorem vW{l m:List J7}{j k:Nat}(h:l.take k=m.take k)(hj:j≤k):l.take j=m.take j:=by
 have:=congrArg (List.take j) h
 rwa [List.take_take,List.take_take,Nat.min_eq_left hj] at this
theorem Has.le{G:Gh}{l:List J7}{t:Int}{j k:Nat}(h:Has G l t k)(hj:j≤k):Has G l t j:=⟨Nat.le_trans hj h.1,vW h.2 hj⟩
theorem zc0{l m:List J7}{k i:Nat}(h:l.take k=m.take k)(hi:i<k)(h1:i<l.length)(h2:i<m.length):l[i]=m[i]:=by
 have e:(l.take k)[i]'(by rw[List.length_take];omega)=(m.take k)[i]'(by rw[List.length_take];omega):=by congr 1
 rwa [List.getElem_take,List.getElem_take] at e
theorem Has.get{G:Gh}{l:List J7}{t:Int}{k i:Nat}(h:Has G l t k)(hi:i<k):l[i]'(by have:=h.len;omega)=(G.L t)[i]'(by have:=h.1;omega):=zc0 h.2 hi _ _
def Good(G:Gh)(l:List J7):Prop:=∀i (h:i<l.length),(G.ld (l[i]).term).isSome=true∧Has G l (l[i]).term (i+1)
def Sorted(l:List J7):Prop:=∀i j (hi:i<l.length) (hj:j<l.length),i≤j→(l[i]).term≤(l[j]).term
def lastT(l:List J7):Int:=YE l l.length
theorem sS{l:List J7}(h:0<l.length):lastT l=(l[l.length-1]'(by omega)).term:=by
 unfold lastT
 obtain⟨n,hn⟩:∃n,l.length=n+1:=⟨l.length-1,by omega⟩
 rw[show ((l.length:Nat):Int)=(n:Int)+1 by omega,uS (by omega)]
 congr 2
 omega
theorem cA0:lastT []=0:=rfl
def Tv0(a b:List J7):Prop:=lastT a<lastT b∨lastT a=lastT b∧a.length≤b.length
structure GI (G:Gh):Prop where
 lgood:∀t,Good G (G.L t)
 lsort:∀t,Sorted (G.L t)
 lterm:∀t,∀x∈G.L t,1≤x.term∧x.term≤t
 quorum:∀t c l,G.ld t=some (c,l)→I3 c∧∃m,I3 m∧m≠c∧(∃lv,G.vt t m=some (c,lv))∧∃l0,G.vt t c=some (c,l0)∧l0 <+: l
 acked:∀t m,G.ack t m≤(G.L t).length
 vgood:∀t m c lv,G.vt t m=some (c,lv)→Good G lv
 vfresh:∀t m c lv,G.vt t m=some (c,lv)→I3 c∧∃l0,G.vt t c=some (c,l0)∧Tv0 lv l0
 vtvo:∀t m c lv,G.vt t m=some (c,lv)→G.vo t m=some c
 vovt:∀t m c,G.vo t m=some c→G.ld t=none→∃lv,G.vt t m=some (c,lv)
 vo3:∀t m c,G.vo t m=some c→I3 c
 vself:∀t c l0,G.vt t c=some (c,l0)→∀x∈l0,x.term<t
 vhas:∀t' m c lv,G.vt t' m=some (c,lv)→∀t k,t<t'→k≤G.ack t m→Has G lv t k∨∃t'',t<t''∧t''<t'∧(G.ld t'').isSome=true∧¬Has G (G.L t'') t k
theorem Good.sort{G:Gh}(h:GI G){l:List J7}(hl:Good G l):Sorted l:=by
 intro i j hi hj hij
 obtain⟨_,h2⟩:=hl j hj
 have h1:=h2.1
 have e1:=congrArg WH.term (h2.get (i:=i) (by omega))
 have e2:=congrArg WH.term (h2.get (i:=j) (by omega))
 have:=h.lsort _ i j (show i<(G.L (l[j]).term).length by omega) (show j<(G.L (l[j]).term).length by omega) hij
 omega
theorem Good.pos{G:Gh}(h:GI G){l:List J7}(hl:Good G l){i:Nat}(hi:i<l.length):1≤(l[i]).term:=by
 obtain⟨_,h2⟩:=hl i hi
 have e:=h2.get (i:=i) (by omega)
 have:=h.lterm _ _ (List.getElem_mem (show i<(G.L (l[i]).term).length by have:=h2.1;omega))
 rw[←e] at this
 exact this.1
theorem Good.take{G:Gh}{l:List J7}(hl:Good G l)(n:Nat):Good G (l.take n):=by
 intro i hi
 have hi2:=hi
 rw[List.length_take] at hi2
 rw[List.getElem_take]
 obtain⟨h1,h2,h3⟩:=hl i (by omega)
 exact⟨h1,h2,by rw[List.take_take,Nat.min_eq_left (by omega)];exact h3⟩
theorem JI{l m:List J7}(h:l <+: m){k:Nat}(hk:k≤l.length):m.take k=l.take k:=by
 obtain⟨r,rfl⟩:=h
 rw[List.take_append_of_le_length hk]
structure MG0 (G:Gh) (t:Int) (k:Nat):Prop where
 some:(G.ld t).isSome=true
 TU:∃a b,I3 a∧I3 b∧a≠b∧k≤G.ack t a∧k≤G.ack t b
 last:∃(h0:0<k) (h:k≤(G.L t).length),((G.L t)[k-1]'(by omega)).term=t
theorem Il0{G:Gh}(h:GI G){t:Int}{k:Nat}(hc:MG0 G t k):∀(n:Nat) (t':Int),t<t'→t'≤t+n→(G.ld t').isSome=true→Has G (G.L t') t k
 | 0,t',h1,h2,_=>by omega
 | n+1,t',h1,h2,h3=>by
  have ih:=Il0 h hc n
  by_cases c0:t'≤t+n
  ·exact ih t' h1 c0 h3
  obtain⟨k0,kl,klast⟩:=hc.last
  obtain⟨⟨c',l'⟩,hld⟩:=Option.isSome_iff_exists.1 h3
  obtain⟨ic,m',im,hne,⟨lvm,hvm⟩,l0,hv0,hpre⟩:=h.quorum t' c' l' hld
  obtain⟨a,b,ia,ib,hab,ka,kb⟩:=hc.TU
  have hx:∃x lv,G.vt t' x=some (c',lv)∧k≤G.ack t x:=by
   unfold I3 at ia ib ic im
   have:a=c'∨a=m'∨b=c'∨b=m':=by omega
   rcases this with rfl | rfl | rfl | rfl
   ·exact⟨_,_,hv0,ka⟩
   ·exact⟨_,_,hvm,ka⟩
   ·exact⟨_,_,hv0,kb⟩
   ·exact⟨_,_,hvm,kb⟩
  obtain⟨x,lv,hvx,kx⟩:=hx
  have hl':=Gh.UQ hld
  have hlv:Has G lv t k:=by
   rcases h.vhas t' x c' lv hvx t k h1 kx with hh | ⟨t2,a1,a2,a3,a4⟩
   ·exact hh
   ·exact absurd (ih t2 a1 (by omega) a3) a4
  have glv:=h.vgood _ _ _ _ hvx
  have gl0:=h.vgood _ _ _ _ hv0
  have llen:=hlv.len
  have e1:=hlv.get (i:=k-1) (by omega)
  have hlast:t≤lastT lv:=by
   rw[sS (by omega)]
   have:=glv.sort h (k-1) (lv.length-1) (by omega) (by omega) (by omega)
   rw[e1,klast] at this
   exact this
  have ht1:1≤t:=by
   have:=(h.lterm t _ (List.getElem_mem (show k-1<(G.L t).length by omega))).1
   rw[klast] at this
   exact this
  obtain⟨_,l0',hv0',hfr⟩:=h.vfresh _ _ _ _ hvx
  rw[hv0] at hv0'
  cases hv0'
  have h0n:0<l0.length:=by
   rcases Nat.eq_zero_or_pos l0.length with e | e
   ·have:l0=[]:=List.length_eq_zero_iff.1 e
    rw[this,Tv0,cA0] at hfr
    omega
   ·exact e
  obtain⟨u1,u2⟩:=gl0 (l0.length-1) (by omega)
  rw[←sS h0n,show l0.length-1+1=l0.length by omega] at u2
  rw[←sS h0n] at u1
  have hu:lastT l0<t':=by
   rw[sS h0n]
   exact h.vself _ _ _ hv0 _ (List.getElem_mem _)
  have key:Has G l0 t k:=by
   rcases hfr with hlt | ⟨heq,hle⟩
   ·have hL:=ih (lastT l0) (by omega) (by omega) u1
    have kle:k≤l0.length:=by
     by_cases c:k≤l0.length
     ·exact c
     ·have hk2:=hL.len
      have s1:=h.lsort (lastT l0) (l0.length-1) (k-1) (by omega) (by omega) (by omega)
      rw[hL.get (i:=k-1) (by omega),klast,←u2.get (i:=l0.length-1) (by omega),←sS h0n] at s1
      omega
    exact⟨hlv.1,by rw[vW u2.2 kle,hL.2]⟩
   ·obtain⟨_,v2⟩:=glv (lv.length-1) (by omega)
    rw[←sS (by omega),show lv.length-1+1=lv.length by omega,heq] at v2
    exact⟨hlv.1,by rw[vW u2.2 (show k≤l0.length by omega),←vW v2.2 llen];exact hlv.2⟩
  rw[hl']
  exact⟨key.1,by rw[JI hpre key.len];exact key.2⟩
def Com(G:Gh)(t:Int)(k:Nat):Prop:=∃k',k≤k'∧MG0 G t k'
theorem Com.len{G:Gh}{t:Int}{k:Nat}(h:Com G t k):k≤(G.L t).length:=by
 obtain⟨k',h1,h2⟩:=h
 obtain⟨_,h3,_⟩:=h2.last
 omega
theorem Qi0{G:Gh}(h:GI G){t t':Int}{k:Nat}(hc:Com G t k)(ht:t≤t')(hs:(G.ld t').isSome=true):Has G (G.L t') t k:=by
 by_cases e:t=t'
 ·subst e
  exact⟨hc.len,rfl⟩
 ·obtain⟨k',h1,h2⟩:=hc
  exact(Il0 h h2 (t'-t).toNat t' (by omega) (by omega) hs).le h1
theorem Gy0{G:Gh}(h:GI G){t t':Int}{k k':Nat}(hc:Com G t k)(hc':Com G t' k')(hk:k≤k'):(G.L t').take k=(G.L t).take k:=by
 have s1:(G.ld t).isSome=true:=by obtain⟨_,_,h2⟩:=hc;exact h2.some
 have s2:(G.ld t').isSome=true:=by obtain⟨_,_,h2⟩:=hc';exact h2.some
 by_cases c:t≤t'
 ·exact(Qi0 h hc c s2).2
 ·exact(vW (Qi0 h hc' (by omega) s1).2 hk).symm
structure Ext (G G':Gh):Prop where
 vo:∀t m x,G.vo t m=some x→G'.vo t m=some x
 vt:∀t m x,G.vt t m=some x→G'.vt t m=some x
 ld:∀t c l,G.ld t=some (c,l)→∃l',G'.ld t=some (c,l')∧l <+: l'∧∀i (h:i<l'.length),l.length≤i→(l'[i]).term=t
 ack:∀t m,G.ack t m≤G'.ack t m
theorem BP{l m:List J7}(h:l <+: m):l.length≤m.length:=by
 obtain⟨r,rfl⟩:=h
 rw[List.length_append]
 omega
theorem AP{l m:List J7}(h:l <+: m){i:Nat}(hi:i<l.length):m[i]'(Nat.lt_of_lt_of_le hi (BP h))=l[i]:=by
 obtain⟨r,rfl⟩:=h
 exact List.getElem_append_left hi
theorem Ext.refl(G:Gh):Ext G G:=⟨fun _ _ _ h=>h,fun _ _ _ h=>h,fun _ _ l h=>⟨l,h,List.prefix_refl l,fun i h1 h2=>by omega⟩,fun _ _=>Nat.le_refl _⟩
theorem Ext.trans{A B C:Gh}(h:Ext A B)(h':Ext B C):Ext A C:=by
 refine⟨fun t m x hx=>h'.vo _ _ _ (h.vo _ _ _ hx),fun t m x hx=>h'.vt _ _ _ (h.vt _ _ _ hx),fun t c l hl=>?_,fun t m=>Nat.le_trans (h.ack t m) (h'.ack t m)⟩
 obtain⟨l1,a1,a2,a3⟩:=h.ld t c l hl
 obtain⟨l2,b1,b2,b3⟩:=h'.ld t c l1 a1
 refine⟨l2,b1,a2.trans b2,fun i hi hle=>?_⟩
 by_cases c1:i<l1.length
 ·rw[AP b2 c1]
  exact a3 i c1 hle
 ·exact b3 i hi (by omega)
theorem Ext.isSome{G G':Gh}(h:Ext G G'){t:Int}(hs:(G.ld t).isSome=true):(G'.ld t).isSome=true:=by
 obtain⟨⟨c,l⟩,e⟩:=Option.isSome_iff_exists.1 hs
 obtain⟨l',e',_⟩:=h.ld t c l e
 rw[e']
 rfl
theorem Ext.L{G G':Gh}(h:Ext G G')(t:Int):G.L t <+: G'.L t:=by
 cases e:G.ld t with
 | none =>
  have:G.L t=[]:=by unfold Gh.L;rw[e];rfl
  rw[this]
  exact List.nil_prefix
 | some x =>
  obtain⟨c,l⟩:=x
  obtain⟨l',e',p,_⟩:=h.ld t c l e
  rw[Gh.UQ e,Gh.UQ e']
  exact p
theorem Ext.WN0{G G':Gh}(h:Ext G G'){t:Int}(hs:(G.ld t).isSome=true){i:Nat}(hi:i<(G'.L t).length)(hl:(G.L t).length≤i):((G'.L t)[i]).term=t:=by
 obtain⟨⟨c,l⟩,e⟩:=Option.isSome_iff_exists.1 hs
 obtain⟨l',e',_,p⟩:=h.ld t c l e
 have e1:=Gh.UQ e
 have e2:=Gh.UQ e'
 rw[e1] at hl
 have:=p i (by rw[←e2];exact hi) hl
 simp only[e2]
 exact this
theorem Ext.has{G G':Gh}(h:Ext G G'){l:List J7}{t:Int}{k:Nat}(hh:Has G l t k):Has G' l t k :=
 ⟨Nat.le_trans hh.1 (BP (h.L t)),by rw[JI (h.L t) hh.1];exact hh.2⟩
theorem Ext.good{G G':Gh}(h:Ext G G'){l:List J7}(hg:Good G l):Good G' l:=fun i hi=>⟨h.isSome (hg i hi).1,h.has (hg i hi).2⟩
theorem Ext.fO0{G G':Gh}(h:Ext G G'){t:Int}{k:Nat}(hc:MG0 G t k):MG0 G' t k:=by
 obtain⟨a,b,c,d,e,f,g⟩:=hc.TU
 obtain⟨k0,kl,kt⟩:=hc.last
 refine⟨h.isSome hc.some,⟨a,b,c,d,e,Nat.le_trans f (h.ack t a),Nat.le_trans g (h.ack t b)⟩,k0,Nat.le_trans kl (BP (h.L t)),?_⟩
 rw[AP (h.L t) (by omega)]
 exact kt
theorem Ext.com{G G':Gh}(h:Ext G G'){t:Int}{k:Nat}(hc:Com G t k):Com G' t k:=by
 obtain⟨k',a,b⟩:=hc
 exact⟨k',a,h.fO0 b⟩
theorem Ext.not{G G':Gh}(h:Ext G G')(hg:GI G){t t':Int}{k:Nat}(hk:k≤(G.L t).length)(ht:t<t')(hs:(G.ld t').isSome=true)(hn:¬Has G (G.L t') t k):¬Has G' (G'.L t') t k:=by
 intro hh
 refine hn ⟨hk,?_⟩
 have e:=hh.2
 rw[JI (h.L t) hk] at e
 by_cases c:k≤(G.L t').length
 ·rw[←JI (h.L t') c]
  exact e
 ·have hl:=hh.len
  have i1:(G.L t').length<(G'.L t').length:=by omega
  have e2:=zc0 e (i:=(G.L t').length) (by omega) i1 (by omega)
  have e3:=h.WN0 hs i1 (Nat.le_refl _)
  have e4:=(hg.lterm t _ (List.getElem_mem (show (G.L t').length<(G.L t).length by omega))).2
  rw[←e2,e3] at e4
  omega
structure MI (G:Gh) (id:Int) (hd:EB) (l:List J7):Prop where
 good:Good G l
 le:∀x∈l,x.term≤hd.term
 C_:∀t c,G.vo t id=some c→t≤hd.term∧(t=hd.term→hd.C_=c)
 ackle:∀t,G.ack t id≠0→t≤hd.term
 has:∀t k,k≤G.ack t id→Has G l t k∨∃t',t<t'∧t'≤hd.term∧(G.ld t').isSome=true∧¬Has G (G.L t') t k
theorem MI.ext{G G':Gh}(h:Ext G G')(hg:GI G){id:Int}(hv:∀t,G'.vo t id=G.vo t id)(ha:∀t,G'.ack t id=G.ack t id){hd:EB}{l:List J7}(hm:MI G id hd l):MI G' id hd l:=by
 refine⟨h.good hm.good,hm.le,fun t c hc=>hm.C_ t c (by rw[←hv];exact hc),fun t ht=>hm.ackle t (by rw[←ha];exact ht),fun t k hk=>?_⟩
 rw[ha] at hk
 rcases hm.has t k hk with a | ⟨t',a,b,c,d⟩
 ·exact .inl (h.has a)
 ·exact .inr ⟨t',a,b,h.isSome c,h.not hg (Nat.le_trans hk (hg.acked t id)) a c d⟩
theorem MI.rise{G:Gh}{id:Int}{hd hd':EB}{l:List J7}(hm:MI G id hd l)(h:hd.term<hd'.term):MI G id hd' l:=by
 refine⟨hm.good,fun x hx=>by have:=hm.le x hx;omega,fun t c hc=>?_,fun t ht=>by have:=hm.ackle t ht;omega,fun t k hk=>?_⟩
 ·obtain⟨a,_⟩:=hm.C_ t c hc
  exact⟨by omega,fun e=>by omega⟩
 ·rcases hm.has t k hk with a | ⟨t',a,b,c,d⟩
  ·exact .inl a
  ·exact .inr ⟨t',a,by omega,c,d⟩
def Gh.Ms0(G:Gh)(t m c:Int):Gh:={ G with vo:=fun t' m'=>if t'=t∧m'=m then some c else G.vo t' m' }
def Gh.UN0(G:Gh)(t m c:Int)(lv:List J7):Gh:={ G with vt:=fun t' m'=>if t'=t∧m'=m then some (c,lv) else G.vt t' m' }
def Gh.C_(G:Gh)(t m c:Int)(lv:List J7):Gh:=(G.Ms0 t m c).UN0 t m c lv
theorem Be0{G:Gh}{t m c:Int}(h:G.vo t m=none∨G.vo t m=some c):Ext G (G.Ms0 t m c):=by
 refine⟨fun t' m' x hx=>?_,fun _ _ _ h=>h,(Ext.refl G).ld,fun _ _=>Nat.le_refl _⟩
 show (if t'=t∧m'=m then some c else G.vo t' m')=some x
 by_cases e:t'=t∧m'=m
 ·obtain⟨rfl,rfl⟩:=e
  rw[if_pos ⟨rfl,rfl⟩]
  rcases h with h | h
  ·rw[h] at hx;cases hx
  ·rw[←h];exact hx
 ·rw[if_neg e];exact hx
theorem oG0{G:Gh}{t m c:Int}{lv:List J7}(h:G.vt t m=none):Ext G (G.UN0 t m c lv):=by
 refine⟨fun _ _ _ h=>h,fun t' m' x hx=>?_,(Ext.refl G).ld,fun _ _=>Nat.le_refl _⟩
 show (if t'=t∧m'=m then some (c,lv) else G.vt t' m')=some x
 by_cases e:t'=t∧m'=m
 ·obtain⟨rfl,rfl⟩:=e
  rw[h] at hx;cases hx
 ·rw[if_neg e];exact hx
theorem rG0{G:Gh}(h:GI G){t m c:Int}(ic:I3 c)(hv:G.vo t m=none∨G.vo t m=some c)(hs:(G.ld t).isSome=true):GI (G.Ms0 t m c):=by
 refine⟨h.lgood,h.lsort,h.lterm,h.quorum,h.acked,h.vgood,h.vfresh,fun t' m' c' lv hx=>(Be0 hv).vo _ _ _ (h.vtvo _ _ _ _ hx),fun t' m' c' hx hn=>?_,fun t' m' c' hx=>?_,h.vself,h.vhas⟩
 ·have hx:(if t'=t∧m'=m then some c else G.vo t' m')=some c':=hx
  by_cases e:t'=t∧m'=m
  ·rw[e.1] at hn
   have hn:G.ld t=none:=hn
   rw[hn] at hs
   cases hs
  ·rw[if_neg e] at hx
   exact h.vovt _ _ _ hx hn
 ·have hx:(if t'=t∧m'=m then some c else G.vo t' m')=some c':=hx
  by_cases e:t'=t∧m'=m
  ·rw[if_pos e] at hx
   cases hx
   exact ic
  ·rw[if_neg e] at hx
   exact h.vo3 _ _ _ hx
theorem Js0{G:Gh}{t m c:Int}{lv:List J7}(h:G.vo t m=none)(hn:G.vt t m=none):Ext G (G.C_ t m c lv):=(Be0 (.inl h)).trans (oG0 hn)
theorem ly0{G:Gh}(h:GI G){t m c:Int}{lv:List J7}(ic:I3 c)(hv:G.vo t m=none)(hg:Good G lv)
  (hf:(c=m∧∀x∈lv,x.term<t)∨(c≠m∧∃l0,G.vt t c=some (c,l0)∧Tv0 lv l0))
  (hh:∀t0 k,t0<t→k≤G.ack t0 m→Has G lv t0 k∨∃t'',t0<t''∧t''<t∧(G.ld t'').isSome=true∧¬Has G (G.L t'') t0 k):GI (G.C_ t m c lv):=by
 have hn:G.vt t m=none:=by
  cases e:G.vt t m with
  | none=>rfl
  | some x=>obtain⟨c',lv'⟩:=x;rw[h.vtvo _ _ _ _ e] at hv;cases hv
 have ex:Ext G (G.C_ t m c lv):=Js0 hv hn
 have cas:∀{t' m' c' lv'},(G.C_ t m c lv).vt t' m'=some (c',lv')→(t'=t∧m'=m∧c'=c∧lv'=lv)∨G.vt t' m'=some (c',lv'):=by
  intro t' m' c' lv' hx
  have hx:(if t'=t∧m'=m then some (c,lv) else G.vt t' m')=some (c',lv'):=hx
  by_cases e:t'=t∧m'=m
  ·rw[if_pos e] at hx
   cases hx
   exact .inl ⟨e.1,e.2,rfl,rfl⟩
  ·rw[if_neg e] at hx
   exact .inr hx
 have caso:∀{t' m' c'},(G.C_ t m c lv).vo t' m'=some c'→(t'=t∧m'=m∧c'=c)∨G.vo t' m'=some c':=by
  intro t' m' c' hx
  have hx:(if t'=t∧m'=m then some c else G.vo t' m')=some c':=hx
  by_cases e:t'=t∧m'=m
  ·rw[if_pos e] at hx
   cases hx
   exact .inl ⟨e.1,e.2,rfl⟩
  ·rw[if_neg e] at hx
   exact .inr hx
 have self:(G.C_ t m c lv).vt t m=some (c,lv):=if_pos ⟨rfl,rfl⟩
 have selfo:(G.C_ t m c lv).vo t m=some c:=if_pos ⟨rfl,rfl⟩
 refine⟨h.lgood,h.lsort,h.lterm,fun t' c' l hl=>?_,h.acked,fun t' m' c' lv' hx=>?_,fun t' m' c' lv' hx=>?_,fun t' m' c' lv' hx=>?_,fun t' m' c' hx hld=>?_,fun t' m' c' hx=>?_,fun t' c' l0 hx=>?_,fun t' m' c' lv' hx=>?_⟩
 ·obtain⟨a,m',b,d,⟨lv',e⟩,l0,f,g⟩:=h.quorum t' c' l hl
  exact⟨a,m',b,d,⟨lv',ex.vt _ _ _ e⟩,l0,ex.vt _ _ _ f,g⟩
 ·rcases cas hx with⟨_,_,_,rfl⟩ | hx
  ·exact hg
  ·exact h.vgood _ _ _ _ hx
 ·rcases cas hx with⟨rfl,rfl,rfl,rfl⟩ | hx
  ·refine⟨ic,?_⟩
   rcases hf with⟨rfl,_⟩ | ⟨_,l0,hl0,hfr⟩
   ·exact⟨_,self,.inr ⟨rfl,Nat.le_refl _⟩⟩
   ·exact⟨l0,ex.vt _ _ _ hl0,hfr⟩
  ·obtain⟨a,l0,b,d⟩:=h.vfresh _ _ _ _ hx
   exact⟨a,l0,ex.vt _ _ _ b,d⟩
 ·rcases cas hx with⟨rfl,rfl,rfl,rfl⟩ | hx
  ·exact selfo
  ·exact ex.vo _ _ _ (h.vtvo _ _ _ _ hx)
 ·rcases caso hx with⟨rfl,rfl,rfl⟩ | hx
  ·exact⟨lv,self⟩
  ·obtain⟨lv',e⟩:=h.vovt _ _ _ hx hld
   exact⟨lv',ex.vt _ _ _ e⟩
 ·rcases caso hx with⟨rfl,rfl,rfl⟩ | hx
  ·exact ic
  ·exact h.vo3 _ _ _ hx
 ·rcases cas hx with⟨rfl,rfl,rfl,rfl⟩ | hx
  ·rcases hf with⟨_,a⟩ | ⟨a,_⟩
   ·exact a
   ·exact absurd rfl a
  ·exact h.vself _ _ _ hx
 ·rcases cas hx with⟨rfl,rfl,rfl,rfl⟩ | hx
  ·exact hh
  ·exact h.vhas _ _ _ _ hx
def Gh.lead(G:Gh)(t c:Int)(l:List J7):Gh:={ G with ld:=fun t'=>if t'=t then some (c,l) else G.ld t' }
theorem GJ{G:Gh}{t c:Int}{l:List J7}:(G.lead t c l).ld t=some (c,l):=if_pos rfl
theorem lb0{G:Gh}{t c t':Int}{l:List J7}(h:t'≠t):(G.lead t c l).ld t'=G.ld t':=if_neg h
theorem zX{G:Gh}{t c t':Int}{l:List J7}(h:t'≠t):(G.lead t c l).L t'=G.L t':=by unfold Gh.L;rw[lb0 h]
theorem qE0{G:Gh}{t c:Int}{l:List J7}(h:G.ld t=none∨∃l1,G.ld t=some (c,l1)∧l1 <+: l∧∀i (h:i<l.length),l1.length≤i→(l[i]).term=t):Ext G (G.lead t c l):=by
 refine⟨fun _ _ _ h=>h,fun _ _ _ h=>h,fun t' c' l' hl=>?_,fun _ _=>Nat.le_refl _⟩
 by_cases e:t'=t
 ·subst e
  rcases h with h | ⟨l1,h1,h2,h3⟩
  ·rw[h] at hl;cases hl
  ·rw[h1] at hl
   cases hl
   exact⟨l,GJ,h2,h3⟩
 ·exact⟨l',by rw[lb0 e];exact hl,List.prefix_refl _,fun i h1 h2=>by omega⟩
theorem Sw0{G:Gh}(h:GI G){t c:Int}{l:List J7}(ex:Ext G (G.lead t c l))(hg:Good (G.lead t c l) l)(hs:Sorted l)(ht:∀x∈l,1≤x.term∧x.term≤t)
  (hq:I3 c∧∃m,I3 m∧m≠c∧(∃lv,G.vt t m=some (c,lv))∧∃l0,G.vt t c=some (c,l0)∧l0 <+: l):GI (G.lead t c l):=by
 have eL:(G.lead t c l).L t=l:=Gh.UQ GJ
 refine⟨fun t'=>?_,fun t'=>?_,fun t'=>?_,fun t' c' l' hl=>?_,fun t' m=>Nat.le_trans (h.acked t' m) (BP (ex.L t')),fun t' m c' lv hx=>ex.good (h.vgood _ _ _ _ hx),h.vfresh,h.vtvo,fun t' m' c' hx hld=>?_,h.vo3,h.vself,fun t' m' c' lv hx t0 k h0 hk=>?_⟩
 ·by_cases e:t'=t
  ·rw[e,eL];exact hg
  ·rw[zX e];exact ex.good (h.lgood t')
 ·by_cases e:t'=t
  ·rw[e,eL];exact hs
  ·rw[zX e];exact h.lsort t'
 ·by_cases e:t'=t
  ·rw[e,eL];exact ht
  ·rw[zX e];exact h.lterm t'
 ·by_cases e:t'=t
  ·rw[e] at hl ⊢
   rw[GJ] at hl
   cases hl
   exact hq
  ·rw[lb0 e] at hl
   exact h.quorum _ _ _ hl
 ·refine h.vovt _ _ _ hx ?_
  by_cases e:t'=t
  ·rw[e,GJ] at hld
   cases hld
  ·rw[lb0 e] at hld
   exact hld
 ·rcases h.vhas _ _ _ _ hx t0 k h0 hk with a | ⟨t2,a,b,d,f⟩
  ·exact .inl (ex.has a)
  ·exact .inr ⟨t2,a,b,ex.isSome d,ex.not h (Nat.le_trans hk (h.acked t0 m')) a d f⟩
def Gh.TU(G:Gh)(t m:Int)(k:Nat):Gh:={ G with ack:=fun t' m'=>if t'=t∧m'=m then max (G.ack t m) k else G.ack t' m' }
theorem aC0(G:Gh)(t m:Int)(k:Nat):Ext G (G.TU t m k):=by
 refine⟨fun _ _ _ h=>h,fun _ _ _ h=>h,(Ext.refl G).ld,fun t' m'=>?_⟩
 show G.ack t' m'≤if t'=t∧m'=m then max (G.ack t m) k else G.ack t' m'
 split
 ·rename_i e
  rw[e.1,e.2]
  omega
 ·exact Nat.le_refl _
theorem Lm0{G:Gh}(h:GI G){t m:Int}{k:Nat}(hk:k≤(G.L t).length)(hv:∀t' c,G.vo t' m=some c→t'≤t):GI (G.TU t m k):=by
 refine⟨h.lgood,h.lsort,h.lterm,h.quorum,fun t' m'=>?_,h.vgood,h.vfresh,h.vtvo,h.vovt,h.vo3,h.vself,fun t' m' c lv hx t0 j h0 hj=>?_⟩
 ·show (if t'=t∧m'=m then max (G.ack t m) k else G.ack t' m')≤(G.L t').length
  have:=h.acked t' m'
  split
  ·rename_i e
   rw[e.1,e.2] at this
   rw[e.1]
   omega
  ·exact this
 ·have hj:j≤if t0=t∧m'=m then max (G.ack t m) k else G.ack t0 m':=hj
  by_cases e:t0=t∧m'=m
  ·have hx:G.vt t' m'=some (c,lv):=hx
   have:=hv t' c (by rw[←e.2];exact h.vtvo _ _ _ _ hx)
   have:=e.1
   omega
  ·rw[if_neg e] at hj
   exact h.vhas _ _ _ _ hx t0 j h0 hj
structure RI (G:Gh) (r:H7):Prop where
 cand:r.role=1→G.vt r.hard.term r.id=some (r.id,r.log)∧(∀m,I3 m→r.votes.get m=true→G.vo r.hard.term m=some r.id)∧∀l,G.ld r.hard.term≠some (r.id,l)
 lead:r.role=2→G.ld r.hard.term=some (r.id,r.log)∧r.log.length≤G.ack r.hard.term r.id∧∀m,I3 m→m≠r.id→(r.mtch.get m).toNat≤G.ack r.hard.term m
 com:r.commit≤0∨∃t,t≤r.hard.term∧Com G t r.commit.toNat∧Has G r.log t r.commit.toNat
structure MS (G:Gh) (m:U8):Prop where
 ask:m.kind=0→∃l0,G.vt m.term m.from_=some (m.from_,l0)∧m.index=l0.length∧m.prev=lastT l0
 yes:m.kind=1→m.yes=true→G.vo m.term m.from_=some m.to_
 app:m.kind=2→∃l,G.ld m.term=some (m.from_,l)∧0≤m.index∧m.index.toNat+m.recs.length≤l.length∧YE l m.index=m.prev∧m.recs=(l.drop m.index.toNat).take m.recs.length∧(m.commit≤0∨∃t,t≤m.term∧Com G t m.commit.toNat)
 ackd:m.kind=3→m.yes=true→m.index.toNat≤G.ack m.term m.from_
theorem bG0{l l':List J7}(h:l <+: l'){n:Int}(h0:0≤n)(hn:n.toNat≤l.length):YE l' n=YE l n:=by
 by_cases c:n=0
 ·rw[c];rfl
 ·obtain⟨k,rfl⟩:∃k:Nat,n=(k:Int)+1:=⟨(n-1).toNat,by omega⟩
  have hk:k<l.length:=by omega
  rw[uS hk,uS (Nat.lt_of_lt_of_le hk (BP h)),AP h hk]
theorem MS.ext{G G':Gh}(h:Ext G G'){m:U8}(hm:MS G m):MS G' m:=by
 refine⟨fun k=>?_,fun k y=>h.vo _ _ _ (hm.yes k y),fun k=>?_,fun k y=>Nat.le_trans (hm.ackd k y) (h.ack _ _)⟩
 ·obtain⟨l0,a,b⟩:=hm.ask k
  exact⟨l0,h.vt _ _ _ a,b⟩
 ·obtain⟨l,a,b,c,d,e,f⟩:=hm.app k
  obtain⟨l',a',p,_⟩:=h.ld _ _ _ a
  refine⟨l',a',b,Nat.le_trans c (BP p),by rw[bG0 p b (by omega)];exact d,?_,f.imp (fun h=>h) fun⟨t,x,y⟩=>⟨t,x,h.com y⟩⟩
  obtain⟨q,rfl⟩:=p
  rw[List.drop_append_of_le_length (by omega),List.take_append_of_le_length (by rw[List.length_drop];omega)]
  exact e
structure By (id:Int) (G G':Gh):Prop where
 ext:Ext G G'
 vo:∀t m,m≠id→G'.vo t m=G.vo t m
 ack:∀t m,m≠id→G'.ack t m=G.ack t m
 ld:∀t j l,j≠id→(G'.ld t=some (j,l)↔G.ld t=some (j,l))
theorem By.refl(id:Int)(G:Gh):By id G G:=⟨Ext.refl G,fun _ _ _=>rfl,fun _ _ _=>rfl,fun _ _ _ _=>Iff.rfl⟩
theorem By.trans{id:Int}{A B C:Gh}(h:By id A B)(h':By id B C):By id A C :=
 ⟨h.ext.trans h'.ext,fun t m e=>(h'.vo t m e).trans (h.vo t m e),fun t m e=>(h'.ack t m e).trans (h.ack t m e),fun t j l e=>(h'.ld t j l e).trans (h.ld t j l e)⟩
theorem qG0{G:Gh}{t m c:Int}(h:G.vo t m=none∨G.vo t m=some c):By m G (G.Ms0 t m c) :=
 ⟨Be0 h,fun t' m' e=>if_neg fun hh=>e hh.2,fun _ _ _=>rfl,fun _ _ _ _=>Iff.rfl⟩
theorem ky0{G:Gh}{t m c:Int}{lv:List J7}(h:G.vo t m=none)(hn:G.vt t m=none):By m G (G.C_ t m c lv) :=
 ⟨Js0 h hn,fun t' m' e=>if_neg fun hh=>e hh.2,fun _ _ _=>rfl,fun _ _ _ _=>Iff.rfl⟩
theorem Km0(G:Gh)(t m:Int)(k:Nat):By m G (G.TU t m k) :=
 ⟨aC0 G t m k,fun _ _ _=>rfl,fun t' m' e=>if_neg fun hh=>e hh.2,fun _ _ _ _=>Iff.rfl⟩
theorem Rw0{G:Gh}{t c:Int}{l:List J7}(h:G.ld t=none∨∃l1,G.ld t=some (c,l1)∧l1 <+: l∧∀i (h:i<l.length),l1.length≤i→(l[i]).term=t):By c G (G.lead t c l):=by
 refine⟨qE0 h,fun _ _ _=>rfl,fun _ _ _=>rfl,fun t' j l' e=>?_⟩
 by_cases q:t'=t
 ·subst q
  rw[GJ]
  refine⟨fun hh=>(by cases hh;exact absurd rfl e),fun hh=>?_⟩
  rcases h with h | ⟨l1,h,_⟩
  ·rw[h] at hh;cases hh
  ·rw[h] at hh;cases hh;exact absurd rfl e
 ·rw[lb0 q]
theorem MI.by{G G':Gh}{id j:Int}(h:By id G G')(hj:j≠id)(hg:GI G){hd:EB}{l:List J7}(hm:MI G j hd l):MI G' j hd l:=hm.ext h.ext hg (fun t=>h.vo t j hj) fun t=>h.ack t j hj
theorem RI.by{G G':Gh}{id:Int}(h:By id G G'){r:H7}(hj:r.id≠id)(hr:RI G r):RI G' r:=by
 refine⟨fun k=>?_,fun k=>?_,hr.com.imp (fun h=>h) fun⟨t,a,b,c⟩=>⟨t,a,h.ext.com b,h.ext.has c⟩⟩
 ·obtain⟨a,b,c⟩:=hr.cand k
  exact⟨h.ext.vt _ _ _ a,fun m i v=>h.ext.vo _ _ _ (b m i v),fun l hl=>c l ((h.ld _ _ _ hj).1 hl)⟩
 ·obtain⟨a,b,c⟩:=hr.lead k
  exact⟨(h.ld _ _ _ hj).2 a,Nat.le_trans b (h.ext.ack _ _),fun m i e=>Nat.le_trans (c m i e) (h.ext.ack _ _)⟩
theorem RI.calm{G G':Gh}(h:Ext G G'){r r':H7}(hr:RI G r)(h0:r'.role=0)(hc:r'.commit=r.commit)(hl:r'.log=r.log)(ht:r.hard.term≤r'.hard.term):RI G' r' :=
 ⟨fun k=>(by rw[h0] at k;cases k),fun k=>(by rw[h0] at k;cases k),by rw[hc,hl];exact hr.com.imp (fun h=>h) fun⟨t,a,b,c⟩=>⟨t,by omega,h.com b,h.has c⟩⟩
theorem MI.TU{G:Gh}{id:Int}{hd:EB}{l:List J7}(hm:MI G id hd l){t:Int}{k:Nat}(hh:Has G l t k)(ht:t≤hd.term):MI (G.TU t id k) id hd l:=by
 refine⟨hm.good,hm.le,hm.C_,fun t' h=>?_,fun t' j hj=>?_⟩
 ·have h:(if t'=t∧id=id then max (G.ack t id) k else G.ack t' id)≠0:=h
  by_cases e:t'=t
  ·omega
  ·rw[if_neg fun hh=>e hh.1] at h
   exact hm.ackle t' h
 ·have hj:j≤if t'=t∧id=id then max (G.ack t id) k else G.ack t' id:=hj
  by_cases e:t'=t
  ·rw[if_pos ⟨e,rfl⟩] at hj
   rw[e]
   by_cases c:j≤k
   ·exact .inl (hh.le c)
   ·exact hm.has t j (by omega)
  ·rw[if_neg fun hh=>e hh.1] at hj
   exact hm.has t' j hj
def Bd(n:Nat)(G:Gh):Prop:=∀t,(G.L t).length≤n∧∀x∈G.L t,x.data.size≤2000
theorem Bd.up{n m:Nat}{G:Gh}(h:Bd n G)(hm:n≤m):Bd m G:=fun t=>⟨Nat.le_trans (h t).1 hm,(h t).2⟩
structure RU (d:Nat) (G:Gh) (r:H7) (q:H7×LC):Prop where
 go:∃G1 G',By r.id G G1∧GI G1∧By r.id G1 G'∧GI G'∧MI G' r.id q.1.hard q.1.log∧RI G' q.1∧(∀m∈q.2.send,MS G' m)∧(∀n,Bd n G→Bd (n+d) G1∧Bd (n+d) G') ∧
  (MI G1 r.id r.hard r.log∧MI G1 r.id q.1.hard r.log∧(0<q.2.from_→MI G1 r.id q.1.hard (r.log.take (q.2.from_-1).toNat)∧MI G1 r.id q.1.hard q.1.log))
 log:(¬0<q.2.from_∧q.1.log=r.log)∨(0<q.2.from_∧q.1.log=r.log.take (q.2.from_-1).toNat++q.2.recs∧(q.2.from_-1).toNat≤r.log.length∧q.2.recs≠[])
theorem RU.plain{d:Nat}{G G':Gh}{r:H7}{q:H7×LC}(hg:GI G)(hb:By r.id G G')(hg':GI G')(ho:MI G r.id r.hard r.log)(hm:MI G r.id q.1.hard r.log)(hm':MI G' r.id q.1.hard r.log)(hr:RI G' q.1)(hs:∀m∈q.2.send,MS G' m)(hl:q.1.log=r.log)(hf:q.2.from_=0)(hB:∀n,Bd n G→Bd n G':=by exact fun _ h=>h):RU d G r q :=
 ⟨⟨G,G',By.refl _ _,hg,hb,hg',by rw[hl];exact hm',hr,hs,fun n h=>⟨h.up (Nat.le_add_right n d),(hB n h).up (Nat.le_add_right n d)⟩,ho,hm,fun h=>by omega⟩,.inl ⟨by omega,hl⟩⟩
theorem qB0(l:List J7)(i n:Nat):(l.drop i).take n=(l.drop i).take ((l.drop i).take n).length:=by
 rw[List.length_take]
 by_cases c:n≤(l.drop i).length
 ·rw[Nat.min_eq_left c]
 ·rw[Nat.min_eq_right (by omega),List.take_of_length_le (by omega),List.take_of_length_le (Nat.le_refl _)]
theorem aX{G:Gh}{r:H7}(hr:RI G r)(hk:H8 r)(h2:r.role=2){i:Int}(hi:I3 i):MS G (o_ r i):=by
 obtain⟨a,b,c⟩:=hr.lead h2
 have hn:=hk.next h2 i hi
 refine⟨fun k=>(by cases k),fun k=>(by cases k),fun _=>⟨r.log,a,?_,?_,rfl,?_,?_⟩,fun k=>(by cases k)⟩
 ·show 0≤r.next.get i-1
  omega
 ·show (r.next.get i-1).toNat+((r.log.drop (r.next.get i-1).toNat).take 8).length≤r.log.length
  rw[List.length_take,List.length_drop]
  omega
 ·exact qB0 r.log (r.next.get i-1).toNat 8
 ·exact hr.com.imp (fun h=>h) fun⟨t,x,y,_⟩=>⟨t,x,y⟩
theorem Rm0{G:Gh}{r:H7}(hr:RI G r)(hk:H8 r)(h2:r.role=2):∀m∈zR r,MS G m:=by
 intro m hm
 obtain⟨i,hi,rfl⟩:=List.mem_map.1 hm
 exact aX hr hk h2 (zP hi)
theorem lM0{G:Gh}(hg:GI G){r:H7}(hr:RI G r)(hn:r.role≠0)(hk:H8 r):G.vo r.hard.term r.id=some r.id:=by
 rcases hk.role with h | h | h
 ·exact absurd h hn
 ·exact hg.vtvo _ _ _ _ (hr.cand h).1
 ·obtain⟨_,_,_,_,_,l0,h1,_⟩:=hg.quorum _ _ _ (hr.lead h).1
  exact hg.vtvo _ _ _ _ h1
theorem KJ0{G:Gh}(hg:GI G){r:H7}(hk:H8 r)(hm:MI G r.id r.hard r.log)(hr:RI G r):RU 0 G r (uF r):=by
 unfold uF
 split
 ·rename_i h2
  exact RU.plain hg (By.refl _ _) hg hm hm hm hr (Rm0 hr hk h2) rfl rfl
 split
 ·exact RU.plain hg (By.refl _ _) hg hm hm hm hr (fun m h=>by cases h) rfl rfl
 rename_i h2 hmax
 have hvo:G.vo (r.hard.term+1) r.id=none:=by
  cases e:G.vo (r.hard.term+1) r.id with
  | none=>rfl
  | some c=>have:=(hm.C_ _ _ e).1;omega
 have hvt:G.vt (r.hard.term+1) r.id=none:=by
  cases e:G.vt (r.hard.term+1) r.id with
  | none=>rfl
  | some x=>obtain⟨c,lv⟩:=x;rw[hg.vtvo _ _ _ _ e] at hvo;cases hvo
 have hmid:MI G r.id (UO r).hard r.log:=hm.rise (by show r.hard.term<r.hard.term+1;omega)
 have hb:=ky0 (c:=r.id) (lv:=r.log) hvo hvt
 have hg':GI (G.C_ (r.hard.term+1) r.id r.id r.log):=by
  refine ly0 hg hk.id hvo hm.good (.inl ⟨rfl,fun x hx=>by have:=hm.le x hx;omega⟩) fun t0 k h0 hka=>?_
  rcases hm.has t0 k hka with a | ⟨t',a,b,c,d⟩
  ·exact .inl a
  ·exact .inr ⟨t',a,by omega,c,d⟩
 have hvs:(G.C_ (r.hard.term+1) r.id r.id r.log).vt (r.hard.term+1) r.id=some (r.id,r.log):=if_pos ⟨rfl,rfl⟩
 have hvs2:(G.C_ (r.hard.term+1) r.id r.id r.log).vo (r.hard.term+1) r.id=some r.id:=if_pos ⟨rfl,rfl⟩
 refine RU.plain (G':=G.C_ (r.hard.term+1) r.id r.id r.log) hg hb hg' hm hmid ⟨hm.good,hmid.le,fun t c hc=>?_,hmid.ackle,hmid.has⟩ ⟨fun _=>⟨hvs,fun m im hv=>?_,fun l hl=>?_⟩,fun k=>(by cases k),?_⟩ (fun m hmm=>?_) rfl rfl
 ·have hc:(if t=r.hard.term+1∧r.id=r.id then some r.id else G.vo t r.id)=some c:=hc
  by_cases e:t=r.hard.term+1
  ·rw[if_pos ⟨e,rfl⟩] at hc
   cases hc
   exact⟨by show t≤r.hard.term+1;omega,fun _=>rfl⟩
  ·rw[if_neg fun hh=>e hh.1] at hc
   exact hmid.C_ t c hc
 ·have hv:((⟨false,false,false⟩:T3 Bool).set r.id true).get m=true:=hv
  have e:m=r.id:=by
   by_cases c:m=r.id
   ·exact c
   ·rw[T3.LB _ hk.id im _ c] at hv
    rcases im.cases with rfl | rfl | rfl<;>cases hv
  rw[e]
  exact hvs2
 ·obtain⟨_,_,_,_,_,l0,h1,_⟩:=hg.quorum _ _ _ (show G.ld (r.hard.term+1)=some (r.id,l) from hl)
  rw[hvt] at h1
  cases h1
 ·exact hr.com.imp (fun h=>h) fun⟨t,a,b,c⟩=>⟨t,by show t≤r.hard.term+1;omega,hb.ext.com b,hb.ext.has c⟩
 ·obtain⟨i,hi,rfl⟩:=List.mem_map.1 hmm
  exact⟨fun _=>⟨r.log,hvs,rfl,rfl⟩,fun k=>(by cases k),fun k=>(by cases k),fun k=>(by cases k)⟩
structure FK (G:Gh) (r:H7) (q:H7×LC):Prop where
 go:∃G',By r.id G G'∧GI G'∧MI G' r.id q.1.hard q.1.log∧RI G' q.1∧(∀m∈q.2.send,MS G' m)∧(∀n,Bd n G→Bd n G') ∧
  (MI G r.id q.1.hard r.log∧(0<q.2.from_→MI G r.id q.1.hard (r.log.take (q.2.from_-1).toNat)∧MI G r.id q.1.hard q.1.log))
 log:(¬0<q.2.from_∧q.1.log=r.log)∨(0<q.2.from_∧q.1.log=r.log.take (q.2.from_-1).toNat++q.2.recs∧(q.2.from_-1).toNat≤r.log.length∧q.2.recs≠[])
theorem FK.plain{G G':Gh}{r:H7}{q:H7×LC}(hb:By r.id G G')(hg':GI G')(hm:MI G r.id q.1.hard r.log)(hm':MI G' r.id q.1.hard r.log)(hr:RI G' q.1)(hs:∀m∈q.2.send,MS G' m)(hl:q.1.log=r.log)(hf:q.2.from_=0)(hB:∀n,Bd n G→Bd n G':=by exact fun _ h=>h):FK G r q :=
 ⟨⟨G',hb,hg',by rw[hl];exact hm',hr,hs,hB,hm,fun h=>by omega⟩,.inl ⟨by omega,hl⟩⟩
theorem ct0{G:Gh}{r:H7}{m:U8}{k i:Int}(h:k=1∨k=3):MS G ⟨k,r.id,m.from_,r.hard.term,i,0,0,false,[]⟩:=by
 refine⟨fun e=>?_,fun _ y=>(by cases y),fun e=>?_,fun _ y=>(by cases y)⟩
 ·have e:k=0:=e
  omega
 ·have e:k=2:=e
  omega
theorem SJ0{G:Gh}(hg:GI G){r:H7}(hk:H8 r)(hm:MI G r.id r.hard r.log)(hr:RI G r){m:U8}(hR:gI r m)(hM:MS G m)(k0:m.kind=0):FK G r (Ec0 r m):=by
 unfold Ec0
 have ic:I3 m.from_:=by have:=hR.from3;unfold I3;omega
 split
 case isFalse =>
  exact FK.plain (By.refl _ _) hg hm hm hr (fun x hx=>by rw[List.mem_singleton.1 hx];exact ct0 (.inl rfl)) rfl rfl
 rename_i hgr
 obtain⟨g1,g2,g3⟩:=hgr
 obtain⟨l0,a1,a2,a3⟩:=hM.ask k0
 rw[g1] at a1
 have hfresh:Tv0 r.log l0:=by
  unfold ti0 at g3
  rw[a3,a2] at g3
  rcases g3 with h | ⟨h1,h2⟩
  ·exact .inl h
  ·exact .inr ⟨h1.symm,by omega⟩
 have hvo:∀c,G.vo r.hard.term r.id=some c→c=m.from_:=by
  intro c hc
  have h1:=(hm.C_ _ _ hc).2 rfl
  have h2:=hg.vo3 _ _ _ hc
  rcases g2 with h | h
  ·rw[h] at h1;unfold I3 at h2;omega
  ·rw[←h1,h]
 have hro:r.role=0:=by
  by_cases c:r.role=0
  ·exact c
  ·have:=hvo _ (lM0 hg hr c hk)
   exact absurd this.symm hR.from_
 have hmid:MI G r.id ⟨r.hard.term,m.from_⟩ r.log:=⟨hm.good,hm.le,fun t c hc=>by
  obtain⟨b1,b2⟩:=hm.C_ t c hc
  refine⟨b1,fun e=>?_⟩
  have e:t=r.hard.term:=e
  rw[e] at hc
  exact(hvo c hc).symm,hm.ackle,hm.has⟩
 have fin:∀G',(∀n,Bd n G→Bd n G')→By r.id G G'→GI G'→(∀t c,G'.vo t r.id=some c→G.vo t r.id=some c∨(t=r.hard.term∧c=m.from_))→(∀t,G'.ack t r.id=G.ack t r.id)→G'.vo r.hard.term r.id=some m.from_ →
   FK G r ({ r with hard:=⟨r.hard.term,m.from_⟩ },{ o0 with send:=[wM r m true] }):=by
  intro G' hB hb hg' hv ha hself
  refine FK.plain hb hg' hmid ⟨hb.ext.good hm.good,hm.le,fun t c hc=>?_,fun t ht=>hm.ackle t (by rw[←ha];exact ht),fun t k hka=>?_⟩ (RI.calm hb.ext hr hro rfl rfl (Int.le_refl _)) (fun x hx=>?_) rfl rfl hB
  ·rcases hv t c hc with h | ⟨rfl,rfl⟩
   ·exact hmid.C_ t c h
   ·exact⟨Int.le_refl _,fun _=>rfl⟩
  ·rw[ha] at hka
   rcases hm.has t k hka with a | ⟨t',a,b,c,d⟩
   ·exact .inl (hb.ext.has a)
   ·exact .inr ⟨t',a,b,hb.ext.isSome c,hb.ext.not hg (Nat.le_trans hka (hg.acked t _)) a c d⟩
  ·rw[List.mem_singleton.1 hx]
   exact⟨fun k=>(by cases k),fun _ _=>hself,fun k=>(by cases k),fun k=>(by cases k)⟩
 cases hv:G.vo r.hard.term r.id with
 | some c =>
  have:=hvo c hv
  subst this
  exact fin G (fun _ h=>h) (By.refl _ _) hg (fun t c h => .inl h) (fun _=>rfl) hv
 | none =>
  cases hld:G.ld r.hard.term with
  | some x =>
   refine fin (G.Ms0 r.hard.term r.id m.from_) (fun _ h=>h) (qG0 (.inl hv)) (rG0 hg ic (.inl hv) (by rw[hld];rfl)) (fun t c hc=>?_) (fun _=>rfl) (if_pos ⟨rfl,rfl⟩)
   have hc:(if t=r.hard.term∧r.id=r.id then some m.from_ else G.vo t r.id)=some c:=hc
   by_cases e:t=r.hard.term
   ·rw[if_pos ⟨e,rfl⟩] at hc
    cases hc
    exact .inr ⟨e,rfl⟩
   ·rw[if_neg fun hh=>e hh.1] at hc
    exact .inl hc
  | none =>
   have hvt:G.vt r.hard.term r.id=none:=by
    cases e:G.vt r.hard.term r.id with
    | none=>rfl
    | some x=>obtain⟨c,lv⟩:=x;rw[hg.vtvo _ _ _ _ e] at hv;cases hv
   refine fin (G.C_ r.hard.term r.id m.from_ r.log) (fun _ h=>h) (ky0 hv hvt) (ly0 hg ic hv hm.good (.inr ⟨hR.from_,l0,a1,hfresh⟩) fun t0 k h0 hka=>?_) (fun t c hc=>?_) (fun _=>rfl) (if_pos ⟨rfl,rfl⟩)
   ·rcases hm.has t0 k hka with a | ⟨t',a,b,c,d⟩
    ·exact .inl a
    ·refine .inr ⟨t',a,?_,c,d⟩
     by_cases e:t'=r.hard.term
     ·rw[e,hld] at c;cases c
     ·omega
   ·have hc:(if t=r.hard.term∧r.id=r.id then some m.from_ else G.vo t r.id)=some c:=hc
    by_cases e:t=r.hard.term
    ·rw[if_pos ⟨e,rfl⟩] at hc
     cases hc
     exact .inr ⟨e,rfl⟩
    ·rw[if_neg fun hh=>e hh.1] at hc
     exact .inl hc
theorem Jy0{t:T3 Bool}(h:¬xU t<2):∃a b,I3 a∧I3 b∧a≠b∧t.get a=true∧t.get b=true:=by
 unfold xU at h
 obtain⟨x,y,z⟩:=t
 have i0:I3 0:=by unfold I3;omega
 have i1:I3 1:=by unfold I3;omega
 have i2:I3 2:=by unfold I3;omega
 cases x<;>cases y<;>cases z<;>first | (exfalso;revert h;decide) | exact⟨0,1,i0,i1,by omega,rfl,rfl⟩ | exact⟨0,2,i0,i2,by omega,rfl,rfl⟩ | exact⟨1,2,i1,i2,by omega,rfl,rfl⟩
theorem vG0{G:Gh}(hg:GI G){r:H7}(hk:H8 r)(hm:MI G r.id r.hard r.log)(hr:RI G r){m:U8}(hR:gI r m)(hM:MS G m)(k1:m.kind=1):FK G r (NU r m):=by
 have ic:I3 m.from_:=by have:=hR.from3;unfold I3;omega
 have hok:=fun ht=>(jb0 hk hR (Int.le_of_eq ht) fun h2=>by have:=hR.term;omega).1
 unfold NU
 split
 ·exact FK.plain (By.refl _ _) hg hm hm hr (fun x hx=>by cases hx) rfl rfl
 rename_i h0
 have hro:r.role=1:=Classical.byContradiction fun h=>h0 (.inl h)
 have ht:m.term=r.hard.term:=Classical.byContradiction fun h=>h0 (.inr (.inl h))
 have hy:m.yes=true:=by cases e:m.yes;exact absurd (.inr (.inr e)) h0;rfl
 obtain⟨c1,c2,c3⟩:=hr.cand hro
 have hyes:=hM.yes k1 hy
 rw[ht,hR.to_] at hyes
 have hvotes:∀x,I3 x→(r.votes.set m.from_ true).get x=true→G.vo r.hard.term x=some r.id:=by
  intro x ix hx
  by_cases e:x=m.from_
  ·rw[e];exact hyes
  ·rw[T3.LB _ ic ix _ e] at hx
   exact c2 x ix hx
 split
 ·exact FK.plain (q:=({ r with votes:=r.votes.set m.from_ true },o0)) (By.refl _ _) hg hm hm ⟨fun _=>⟨c1,hvotes,c3⟩,fun k=>(by rw[show r.role=2 from k] at hro;cases hro),hr.com⟩ (fun x hx=>by cases hx) rfl rfl
 rename_i hcount
 have hok:H8 (yX { r with votes:=r.votes.set m.from_ true }):=by
  have:=hok ht
  unfold yQ at this
  rw[if_neg (by omega),if_pos k1] at this
  unfold NU at this
  rw[if_neg h0,if_neg hcount] at this
  exact this
 obtain⟨a,b,ia,ib,hab,va,vb⟩:=Jy0 hcount
 have va:=hvotes a ia va
 have vb:=hvotes b ib vb
 have hnone:G.ld r.hard.term=none:=by
  cases e:G.ld r.hard.term with
  | none=>rfl
  | some x =>
   exfalso
   obtain⟨c,l⟩:=x
   obtain⟨ic',x,ix,hne,⟨lv,hvx⟩,l0,hv0,_⟩:=hg.quorum _ _ _ e
   have q1:=hg.vtvo _ _ _ _ hvx
   have q2:=hg.vtvo _ _ _ _ hv0
   have hcid:c≠r.id:=fun hh=>by rw[hh] at e;exact c3 l e
   unfold I3 at ia ib ic' ix
   have:a=c∨a=x∨b=c∨b=x:=by omega
   rcases this with rfl | rfl | rfl | rfl
   ·rw[va] at q2;cases q2;exact hcid rfl
   ·rw[va] at q1;cases q1;exact hcid rfl
   ·rw[vb] at q2;cases q2;exact hcid rfl
   ·rw[vb] at q1;cases q1;exact hcid rfl
 have hLn:G.L r.hard.term=[]:=by unfold Gh.L;rw[hnone];rfl
 have hb1:By r.id G (G.lead r.hard.term r.id r.log):=Rw0 (.inl hnone)
 have hq:I3 r.id∧∃m,I3 m∧m≠r.id∧(∃lv,G.vt r.hard.term m=some (r.id,lv))∧∃l0,G.vt r.hard.term r.id=some (r.id,l0)∧l0 <+: r.log:=by
  refine⟨hk.id,?_⟩
  by_cases e:a=r.id
  ·exact⟨b,ib,fun e2=>hab (e.trans e2.symm),hg.vovt _ _ _ vb hnone,r.log,c1,List.prefix_refl _⟩
  ·exact⟨a,ia,e,hg.vovt _ _ _ va hnone,r.log,c1,List.prefix_refl _⟩
 have hg1:GI (G.lead r.hard.term r.id r.log):=Sw0 hg hb1.ext (hb1.ext.good hm.good) (hm.good.sort hg) (fun x hx=>⟨by
  obtain⟨i,hi,rfl⟩:=List.getElem_of_mem hx
  exact hm.good.pos hg hi,hm.le x hx⟩) hq
 have eL:(G.lead r.hard.term r.id r.log).L r.hard.term=r.log:=Gh.UQ GJ
 have hm1:MI (G.lead r.hard.term r.id r.log) r.id r.hard r.log:=hm.ext hb1.ext hg (fun _=>rfl) fun _=>rfl
 have hb2:=hb1.trans (Km0 (G.lead r.hard.term r.id r.log) r.hard.term r.id r.log.length)
 have hg2:GI ((G.lead r.hard.term r.id r.log).TU r.hard.term r.id r.log.length):=Lm0 hg1 (by rw[eL];exact Nat.le_refl _) fun t' c hc=>(hm.C_ t' c hc).1
 have hm2:MI ((G.lead r.hard.term r.id r.log).TU r.hard.term r.id r.log.length) r.id r.hard r.log:=hm1.TU ⟨by rw[eL];exact Nat.le_refl _,by rw[eL]⟩ (Int.le_refl _)
 have hr2:RI ((G.lead r.hard.term r.id r.log).TU r.hard.term r.id r.log.length) (yX { r with votes:=r.votes.set m.from_ true }):=by
  refine⟨fun k=>(by cases k),fun _=>⟨GJ,?_,fun x ix _=>?_⟩,hr.com.imp (fun h=>h) fun⟨t,x,y,z⟩=>⟨t,x,hb2.ext.com y,hb2.ext.has z⟩⟩
  ·show r.log.length≤if r.hard.term=r.hard.term∧r.id=r.id then max _ r.log.length else _
   rw[if_pos ⟨rfl,rfl⟩]
   omega
  ·show ((⟨0,0,0⟩:T3 Int).get x).toNat≤_
   rcases ix.cases with rfl | rfl | rfl<;>exact Nat.zero_le _
 refine FK.plain hb2 hg2 hm hm2 hr2 (Rm0 hr2 hok rfl) rfl rfl fun n hn t=>?_
 show ((G.lead r.hard.term r.id r.log).L t).length≤n∧∀x∈(G.lead r.hard.term r.id r.log).L t,x.data.size≤2000
 by_cases e:t=r.hard.term
 ·rw[e,eL]
  refine⟨?_,fun x hx=>(uV hk.sound x hx).2.2⟩
  rcases Nat.eq_zero_or_pos r.log.length with z | z
  ·omega
  ·have:=(hm.good (r.log.length-1) (by omega)).2.1
   have:=(hn (r.log[r.log.length-1]).term).1
   omega
 ·rw[zX e]
  exact hn t
theorem om0(log:List J7):∀(l:List J7) (i:Nat) (h:gB log i l<l.length),i+gB log i l+1≤log.length→YE log ((i:Int)+(gB log i l:Nat)+1)≠(l[gB log i l]).term
 | [],_,h,_=>by cases h
 | x :: l,i,h,hl=>by
  unfold gB at hl
  have e:gB log i (x :: l)=if i+1≤log.length∧YE log ((i:Int)+1)=x.term then gB log (i+1) l+1 else 0:=rfl
  by_cases c:i+1≤log.length∧YE log ((i:Int)+1)=x.term
  ·rw[if_pos c] at hl e
   have h2:gB log (i+1) l<l.length:=by rw[e,List.length_cons] at h;omega
   have:=om0 log l (i+1) h2 (by omega)
   simp only[e]
   rw[show ((i:Int)+((gB log (i+1) l+1:Nat):Int)+1)=((i+1:Nat):Int)+(gB log (i+1) l:Nat)+1 by omega]
   exact this
  ·rw[if_neg c] at hl e
   simp only[e]
   intro hh
   refine c ⟨by omega,?_⟩
   exact hh
theorem lm0{G:Gh}{l m:List J7}(hl:Good G l)(hm:Good G m){n:Nat}(h1:n<l.length)(h2:n<m.length)(h:(l[n]).term=(m[n]).term):l.take (n+1)=m.take (n+1):=by
 have a:=(hl n h1).2.2
 have b:=(hm n h2).2.2
 rw[a,b,h]
theorem Ac0{l:List J7}{n:Nat}(h:n<l.length):YE l ((n:Int)+1)=(l[n]).term:=uS h
theorem sw0{G:Gh}(hg:GI G){r:H7}{m:U8}{l:List J7}{t:Int}(hterm:t=m.term)(hld:G.ld t=some (m.from_,l))(hc:m.commit≤0∨∃t0,t0≤t∧Com G t0 m.commit.toNat){c0:Int}{nl:List J7}(h0:0≤m.index)
  (hold:c0≤0∨∃t0,t0≤t∧Com G t0 c0.toNat∧Has G nl t0 c0.toNat) (hnl:nl.take (m.index.toNat+m.recs.length)=l.take (m.index.toNat+m.recs.length)) :
  max c0 (min m.commit (m.index+m.recs.length))≤0∨∃t0,t0≤t∧Com G t0 (max c0 (min m.commit (m.index+m.recs.length))).toNat∧Has G nl t0 (max c0 (min m.commit (m.index+m.recs.length))).toNat:=by
 by_cases c:min m.commit (m.index+m.recs.length)≤c0
 ·rw[show max c0 (min m.commit (m.index+m.recs.length))=c0 by omega]
  exact hold
 ·rw[show max c0 (min m.commit (m.index+m.recs.length))=min m.commit (m.index+m.recs.length) by omega]
  by_cases z:min m.commit (m.index+m.recs.length)≤0
  ·exact .inl z
  ·right
   rcases hc with h | ⟨t0,a,b⟩
   ·omega
   ·have hh:=Qi0 hg b a (by rw[hld];rfl)
    have hle:(min m.commit (m.index+m.recs.length)).toNat≤m.commit.toNat:=by omega
    have h2:=hh.le hle
    rw[Gh.UQ hld] at h2
    refine⟨t0,a,?_,h2.1,?_⟩
    ·obtain⟨k',x,y⟩:=b
     exact⟨k',by omega,y⟩
    ·rw[vW hnl (show (min m.commit (m.index+m.recs.length)).toNat≤_ by omega)]
     exact h2.2
theorem JJ0{G:Gh}(hg:GI G){r:H7}(hk:H8 r)(hm:MI G r.id r.hard r.log)(hr:RI G r)(hro:r.role=0){m:U8}(hR:gI r m)(hM:MS G m)(k2:m.kind=2)(ht:m.term=r.hard.term):FK G r (JW r m):=by
 obtain⟨l,hld,h0,hfit,hprev,hrecs,hcom⟩:=hM.app k2
 rw[ht] at hld hcom
 have eL:=Gh.UQ hld
 have gl:Good G l:=by have:=hg.lgood r.hard.term;rwa [eL] at this
 have hsome:(G.ld r.hard.term).isSome=true:=by rw[hld];rfl
 unfold JW
 split
 ·exact FK.plain (By.refl _ _) hg hm hm hr (fun x hx=>by rw[List.mem_singleton.1 hx];exact ct0 (.inr rfl)) rfl rfl
 rename_i h1
 have hil:m.index≤r.log.length:=by by_cases c:(r.log.length:Int)<m.index;exact absurd (.inl c) h1;omega
 have hpt:YE r.log m.index=m.prev:=Classical.byContradiction fun h=>h1 (.inr h)
 obtain⟨i,ei⟩:∃i:Nat,m.index=i:=⟨m.index.toNat,(Int.toNat_of_nonneg h0).symm⟩
 have ein:m.index.toNat=i:=by rw[ei];rfl
 rw[ein] at hfit hrecs ⊢
 rw[ei] at hpt hprev hil
 have claimA:r.log.take i=l.take i:=by
  rcases Nat.eq_zero_or_pos i with e | e
  ·rw[e,List.take_zero,List.take_zero]
  ·obtain⟨j,rfl⟩:∃j,i=j+1:=⟨i-1,by omega⟩
   refine lm0 hm.good gl (by omega) (by omega) ?_
   rw[←Ac0,←Ac0]
   rw[show ((j+1:Nat):Int)=(j:Int)+1 by omega] at hpt hprev
   rw[hpt,hprev]
 have s1:=qc0 r.log m.recs i
 have s2:=Cj0 r.log m.recs i (by omega)
 have hrget:∀(j:Nat) (hj:j<m.recs.length),m.recs[j]=l[i+j]'(by omega):=by
  intro j hj
  have e:m.recs[j]=((l.drop i).take m.recs.length)[j]'(by rw[←hrecs];exact hj):=by congr 1
  rw[e,List.getElem_take,List.getElem_drop]
 have claimB:r.log.take (i+gB r.log i m.recs)=l.take (i+gB r.log i m.recs):=by
  rcases Nat.eq_zero_or_pos (gB r.log i m.recs) with e | e
  ·rw[e,Nat.add_zero];exact claimA
  ·obtain⟨j,ej⟩:∃j,gB r.log i m.recs=j+1:=⟨gB r.log i m.recs-1,by omega⟩
   have h3:=te0 r.log m.recs i j (by omega) (by omega)
   rw[show ((i:Int)+(j:Int)+1)=((i+j:Nat):Int)+1 by omega,Ac0 (by omega),hrget j (by omega)] at h3
   rw[ej]
   exact lm0 hm.good gl (n:=i+j) (by omega) (by omega) h3
 have hyes:∀G',i+m.recs.length≤G'.ack r.hard.term r.id→∀x∈([YO r m true (m.index+m.recs.length)]:List U8),MS G' x:=by
  intro G' ha x hx
  rw[List.mem_singleton.1 hx]
  refine⟨fun k=>(by cases k),fun k=>(by cases k),fun k=>(by cases k),fun _ _=>?_⟩
  show (m.index+m.recs.length).toNat≤G'.ack r.hard.term r.id
  omega
 have hg':GI (G.TU r.hard.term r.id (i+m.recs.length)):=Lm0 hg (by rw[eL];omega) fun t' c hc=>(hm.C_ t' c hc).1
 have hb:=Km0 G r.hard.term r.id (i+m.recs.length)
 have hack:i+m.recs.length≤(G.TU r.hard.term r.id (i+m.recs.length)).ack r.hard.term r.id:=by
  show _≤if r.hard.term=r.hard.term∧r.id=r.id then max _ _ else _
  rw[if_pos ⟨rfl,rfl⟩]
  omega
 have hcom':m.commit≤0∨∃t0,t0≤r.hard.term∧Com G t0 m.commit.toNat:=hcom
 split
 ·rename_i hall
  rw[hall] at claimB
  have hh:Has G r.log r.hard.term (i+m.recs.length):=⟨by rw[eL];omega,by rw[eL];exact claimB⟩
  refine FK.plain (q:=(Lp0 r m,{ o0 with send:=[YO r m true (m.index+m.recs.length)] })) hb hg' hm (hm.TU hh (Int.le_refl _)) ⟨fun k=>?_,fun k=>?_,?_⟩ (hyes _ hack) rfl rfl
  ·have k:r.role=1:=k
   omega
  ·have k:r.role=2:=k
   omega
  ·have:=sw0 hg (r:=r) ht.symm hld hcom' h0 hr.com (by rw[ein];exact claimB)
   exact this.imp (fun h=>h) fun⟨t0,a,b,c⟩=>⟨t0,a,hb.ext.com b,hb.ext.has c⟩
 split
 ·exact FK.plain (By.refl _ _) hg hm hm hr (fun x hx=>by cases hx) rfl rfl
 rename_i hne hguard
 have hlt:gB r.log i m.recs<m.recs.length:=by omega
 have hstop:=fun h=>om0 r.log m.recs i hlt h
 generalize gB r.log i m.recs=s at *
 have hnew:r.log.take (i+s)++m.recs.drop s=l.take (i+m.recs.length):=by
  rw[claimB]
  have e:m.recs.drop s=(l.drop (i+s)).take (m.recs.length-s):=by
   conv=>lhs;rw[hrecs]
   rw[List.drop_take,List.drop_drop]
  rw[e,←List.take_add]
  congr 1
  omega
 have hcf:∀(h1:i+s<r.log.length),(r.log[i+s]).term≠(l[i+s]'(by omega)).term:=by
  intro h2 hh
  have:=hstop (by omega)
  rw[hrget s hlt,show ((i:Int)+(s:Nat)+1)=((i+s:Nat):Int)+1 by omega,Ac0 h2] at this
  exact this hh
 have cut:∀j,i+s≤j→j≤l.length→MI G r.id r.hard (l.take j):=by
  intro j hj hjl
  refine⟨gl.take j,fun x hx=>?_,hm.C_,hm.ackle,fun t0 k hka=>?_⟩
  ·have:=hg.lterm r.hard.term x (by rw[eL];exact List.mem_of_mem_take hx)
   exact this.2
  ·rcases hm.has t0 k hka with a | a
   case inr=>exact .inr a
   by_cases ck:k≤i+s
   ·refine .inl ⟨a.1,?_⟩
    rw[List.take_take,Nat.min_eq_left (by omega),←vW claimB ck]
    exact a.2
   ·have ka:=a.len
    have hle:=hm.ackle t0 (by omega)
    by_cases e:t0=r.hard.term
    ·exfalso
     rw[e] at a
     refine hcf (by omega) ?_
     have:=zc0 (show r.log.take k=l.take k by rw[←eL];exact a.2) (i:=i+s) (by omega) (by omega) (by have:=a.1;rw[eL] at this;omega)
     rw[this]
    ·refine .inr ⟨r.hard.term,by omega,Int.le_refl _,hsome,fun hh=>?_⟩
     refine hcf (by omega) ?_
     have hk2:=hh.len
     rw[eL] at hh hk2
     have:=zc0 (a.2.trans hh.2.symm) (i:=i+s) (by omega) (by omega) (by omega)
     rw[this]
 have hfrom:(m.index+(s:Nat)+1-1).toNat=i+s:=by omega
 refine⟨⟨G.TU r.hard.term r.id (i+m.recs.length),hb,hg',?_,⟨fun k=>?_,fun k=>?_,?_⟩,hyes _ hack,fun _ h=>h,hm,fun _=>⟨?_,?_⟩⟩,.inr ⟨?_,?_,?_,?_⟩⟩
 ·show MI _ r.id r.hard (r.log.take (i+s)++m.recs.drop s)
  rw[hnew]
  exact(cut _ (by omega) (by omega)).TU ⟨by rw[eL];omega,by rw[eL,List.take_take,Nat.min_self]⟩ (Int.le_refl _)
 ·have k:r.role=1:=k
  omega
 ·have k:r.role=2:=k
  omega
 ·have hold:r.commit≤0∨∃t0,t0≤r.hard.term∧Com G t0 r.commit.toNat∧Has G (r.log.take (i+s)++m.recs.drop s) t0 r.commit.toNat:=by
   rcases hr.com with h | ⟨t0,a,b,c⟩
   ·exact .inl h
   ·refine .inr ⟨t0,a,b,c.1,?_⟩
    rw[List.take_append_of_le_length (by rw[List.length_take];omega),List.take_take,Nat.min_eq_left (by omega)]
    exact c.2
  have:=sw0 hg (r:=r) (nl:=r.log.take (i+s)++m.recs.drop s) ht.symm hld hcom' h0 hold (by rw[ein,hnew,List.take_take,Nat.min_self])
  exact this.imp (fun h=>h) fun⟨t0,a,b,c⟩=>⟨t0,a,hb.ext.com b,hb.ext.has c⟩
 ·show MI G r.id r.hard (r.log.take (m.index+(s:Nat)+1-1).toNat)
  rw[hfrom,claimB]
  exact cut _ (Nat.le_refl _) (by omega)
 ·show MI G r.id r.hard (r.log.take (i+s)++m.recs.drop s)
  rw[hnew]
  exact cut _ (by omega) (by omega)
 ·show 0<m.index+(s:Nat)+1
  omega
 ·show r.log.take (i+s)++m.recs.drop s=r.log.take (m.index+(s:Nat)+1-1).toNat++m.recs.drop s
  rw[hfrom]
 ·show (m.index+(s:Nat)+1-1).toNat≤r.log.length
  omega
 ·intro hh
  have:=congrArg List.length hh
  rw[show ({ o0 with from_:=m.index+(s:Nat)+1,recs:=m.recs.drop s,send:=[YO r m true (m.index+m.recs.length)] }:LC).recs=m.recs.drop s from rfl,List.length_drop,List.length_nil] at this
  omega
theorem Ay0{G:Gh}(hg:GI G){r:H7}(hk:H8 r)(hm:MI G r.id r.hard r.log)(hr:RI G r){m:U8}(hR:gI r m)(hM:MS G m)(k2:m.kind=2)(hle:m.term≤r.hard.term):FK G r (AR r m):=by
 unfold AR
 split
 ·exact FK.plain (By.refl _ _) hg hm hm hr (fun x hx=>by rw[List.mem_singleton.1 hx];exact ct0 (.inr rfl)) rfl rfl
 rename_i h1
 split
 ·exact FK.plain (By.refl _ _) hg hm hm hr (fun x hx=>by cases hx) rfl rfl
 have hk0:H8 { r with role:=0 }:=⟨hk.id,hk.term,hk.C_,hk.len,hk.sound,.inl rfl,hk.commit,(fun h=>by cases h),(fun h=>by cases h)⟩
 have hR0:gI { r with role:=0 } m:=⟨hR.kind,hR.to_,hR.from_,hR.from3,hR.term,hR.index,hR.prev,hR.zero,hR.commit,hR.few,hR.room,hR.sound⟩
 have h:=JJ0 (r:={ r with role:=0 }) hg hk0 hm (RI.calm (Ext.refl G) hr rfl rfl rfl (Int.le_refl _)) rfl hR0 hM k2 (show m.term=r.hard.term by omega)
 exact⟨h.go,h.log⟩
theorem Kw0{f:Int→Int}:∀(l:List Int) (a:Int),l.foldl (fun a i=>max a (f i)) a=a∨∃i∈l,l.foldl (fun a i=>max a (f i)) a=f i
 | [],a => .inl rfl
 | i :: l,a=>by
  rcases Kw0 (f:=f) l (max a (f i)) with h | ⟨j,hj,h⟩
  ·by_cases c:a≤f i
   ·exact .inr ⟨i,List.mem_cons_self ..,by show l.foldl _ (max a (f i))=_;rw[h];omega⟩
   ·exact .inl (by show l.foldl _ (max a (f i))=_;rw[h];omega)
  ·exact .inr ⟨j,List.mem_cons_of_mem _ hj,h⟩
theorem GA0{id i:Int}(h:i∈Q7 id):i≠id:=by
 have:=(List.mem_filter.1 h).2
 simpa using this
theorem UK0{G:Gh}(hg:GI G){r:H7}(hk:H8 r)(hl:r.role=2)(hr:RI G r):RI G (KF r):=by
 unfold KF
 split
 case isFalse=>exact hr
 rename_i h
 obtain⟨h1,h2⟩:=h
 obtain⟨a,b,c⟩:=hr.lead hl
 have hc:=hk.commit
 have hmr:=JZ hk hl
 refine⟨fun k=>(by have k:r.role=1:=k;omega),fun _=>⟨a,b,c⟩,?_⟩
 show dU r≤0∨∃t,t≤r.hard.term∧Com G t (dU r).toNat∧Has G r.log t (dU r).toNat
 right
 have hex:∃i,I3 i∧i≠r.id∧dU r=r.mtch.get i:=by
  rcases Kw0 (f:=fun i=>r.mtch.get i) (Q7 r.id) 0 with e | ⟨i,hi,e⟩
  ·have e:dU r=0:=e
   omega
  ·exact⟨i,zP hi,GA0 hi,e⟩
 obtain⟨i,i3,ine,ei⟩:=hex
 have hack:=c i i3 ine
 rw[←ei] at hack
 have eL:=Gh.UQ a
 obtain⟨n,en⟩:∃n:Nat,dU r=(n:Int)+1:=⟨(dU r-1).toNat,by omega⟩
 have enn:(dU r).toNat=n+1:=by omega
 rw[enn] at hack ⊢
 rw[en,Ac0 (by omega)] at h2
 refine⟨r.hard.term,Int.le_refl _,⟨n+1,Nat.le_refl _,⟨by rw[a];rfl,⟨r.id,i,hk.id,i3,fun e=>ine e.symm,by omega,hack⟩,by omega,by rw[eL];omega,?_⟩⟩,by rw[eL];omega,by rw[eL]⟩
 simp only[eL,Nat.add_sub_cancel]
 exact h2
theorem rp0{G:Gh}(hg:GI G){r:H7}(hk:H8 r)(hm:MI G r.id r.hard r.log)(hr:RI G r){m:U8}(hR:gI r m)(hM:MS G m)(k3:m.kind=3)(hle:m.term≤r.hard.term)(ht1:r.role=2→1≤r.hard.term):FK G r (FJ r m):=by
 have ic:I3 m.from_:=by have:=hR.from3;unfold I3;omega
 have hok:H8 (FJ r m).1:=by
  have:=(jb0 hk hR hle ht1).1
  unfold yQ at this
  rwa [if_neg (by omega),if_neg (by omega),if_neg (by omega)] at this
 unfold FJ at hok ⊢
 split
 ·exact FK.plain (By.refl _ _) hg hm hm hr (fun x hx=>by cases hx) rfl rfl
 rename_i h0
 rw[if_neg h0] at hok
 have hro:r.role=2:=Classical.byContradiction fun h=>h0 (.inl h)
 have ht:m.term=r.hard.term:=Classical.byContradiction fun h=>h0 (.inr (.inl h))
 obtain⟨c1,c2,c3⟩:=hr.lead hro
 split
 ·rename_i hy
  rw[if_pos hy] at hok
  have hr2:RI G (af0 r m):=⟨fun k=>(by have k:r.role=1:=k;omega),fun _=>⟨c1,c2,c3⟩,hr.com⟩
  exact FK.plain (q:=(af0 r m,_)) (By.refl _ _) hg hm hm hr2 (fun x hx=>by rw[List.mem_singleton.1 hx];exact aX hr2 hok hro ic) rfl rfl
 rename_i hy
 rw[if_neg hy] at hok
 have hyes:m.yes=true:=by cases e:m.yes;exact absurd e hy;rfl
 have hack:=hM.ackd k3 hyes
 rw[ht] at hack
 have hlen:m.index≤r.log.length:=by by_cases c:(r.log.length:Int)<m.index;exact absurd (.inr (.inr ⟨hyes,c⟩)) h0;omega
 have hix:=hR.index
 have hn:=hk.next hro _ ic
 have hmt:=hk.mtch hro _ ic
 have hk2:H8 { r with mtch:=r.mtch.set m.from_ (max (r.mtch.get m.from_) m.index),next:=r.next.set m.from_ (max (r.mtch.get m.from_) m.index+1) }:=wb0 (r:={ r with mtch:=r.mtch.set m.from_ (max (r.mtch.get m.from_) m.index) }) (co0 hk ic (by omega)) ic (by show _∧_≤(r.log.length:Int)+1;omega)
 have hr2:RI G { r with mtch:=r.mtch.set m.from_ (max (r.mtch.get m.from_) m.index),next:=r.next.set m.from_ (max (r.mtch.get m.from_) m.index+1) }:=by
  refine⟨fun k=>(by have k:r.role=1:=k;omega),fun _=>⟨c1,c2,fun x ix hne=>?_⟩,hr.com⟩
  show ((r.mtch.set m.from_ (max (r.mtch.get m.from_) m.index)).get x).toNat≤_
  by_cases e:x=m.from_
  ·rw[e,T3.Z9 _ ic]
   have:=c3 m.from_ ic hR.from_
   show _≤G.ack r.hard.term m.from_
   omega
  ·rw[T3.LB _ ic ix _ e]
   exact c3 x ix hne
 have hr3:RI G (TN r m):=UK0 hg hk2 hro hr2
 have e2:(TN r m).id=r.id∧(TN r m).hard=r.hard∧(TN r m).log=r.log∧(TN r m).role=r.role:=by unfold TN KF;split<;>exact⟨rfl,rfl,rfl,rfl⟩
 split
 ·rename_i h3
  rw[if_pos h3] at hok
  exact FK.plain (q:=(TN r m,_)) (By.refl _ _) hg (by show MI G r.id (TN r m).hard r.log;rw[e2.2.1];exact hm) (by show MI G r.id (TN r m).hard r.log;rw[e2.2.1];exact hm) hr3 (fun x hx=>by rw[List.mem_singleton.1 hx];exact aX hr3 hok (e2.2.2.2.trans hro) ic) e2.2.2.1 rfl
 ·exact FK.plain (q:=(TN r m,o0)) (By.refl _ _) hg (by show MI G r.id (TN r m).hard r.log;rw[e2.2.1];exact hm) (by show MI G r.id (TN r m).hard r.log;rw[e2.2.1];exact hm) hr3 (fun x hx=>by cases hx) e2.2.2.1 rfl
theorem lI0{G:Gh}(hg:GI G){r:H7}(hk:H8 r)(hm:MI G r.id r.hard r.log)(hr:RI G r){m:U8}(hR:gI r m)(hM:MS G m)(hle:m.term≤r.hard.term)(ht1:r.role=2→1≤r.hard.term):FK G r (yQ r m):=by
 unfold yQ
 split
 ·rename_i k;exact SJ0 hg hk hm hr hR hM k
 split
 ·rename_i k;exact vG0 hg hk hm hr hR hM k
 split
 ·rename_i k;exact Ay0 hg hk hm hr hR hM k hle
 ·rename_i a b c
  exact rp0 hg hk hm hr hR hM (by have:=hR.kind;omega) hle ht1
theorem UA0(hd:EB)(q:H7×LC):(rV hd q).2.from_=q.2.from_∧(rV hd q).2.recs=q.2.recs∧(rV hd q).2.send=q.2.send:=by
 unfold rV
 split<;>exact⟨rfl,rfl,rfl⟩
theorem cI0{G:Gh}(hg:GI G){r:H7}(hk:H8 r)(hm:MI G r.id r.hard r.log)(hr:RI G r)(ht1:r.role=2→1≤r.hard.term){m:U8}(hM:MS G m):RU 0 G r (MF r m):=by
 unfold MF
 split
 case isFalse=>exact RU.plain hg (By.refl _ _) hg hm hm hm hr (fun x hx=>by cases hx) rfl rfl
 rename_i hR
 obtain⟨hk1,hR1⟩:=ah0 hk hR
 have e1:(NF r m).id=r.id∧(NF r m).log=r.log:=by unfold NF;split<;>exact⟨rfl,rfl⟩
 have hm1:MI G (NF r m).id (NF r m).hard (NF r m).log:=by
  rw[e1.1,e1.2]
  unfold NF
  split
  ·rename_i c
   exact hm.rise c
  ·exact hm
 have hr1:RI G (NF r m):=by
  unfold NF
  split
  ·rename_i c
   exact RI.calm (Ext.refl G) hr rfl rfl rfl (Int.le_of_lt c)
  ·exact hr
 have ht2:(NF r m).role=2→1≤(NF r m).hard.term:=by
  unfold NF
  split
  ·intro h;cases h
  ·exact ht1
 obtain⟨⟨G',b1,b2,b3,b4,b5,b0,b6,b7⟩,b8⟩:=lI0 hg hk1 hm1 hr1 hR1 hM (rY r m) ht2
 rw[e1.1] at b1 b3 b6 b7
 rw[e1.2] at b6 b7 b8
 obtain⟨s1,s2,s3⟩:=UA0 r.hard (yQ (NF r m) m)
 refine⟨⟨G,G',By.refl _ _,hg,b1,b2,?_,?_,?_,fun n h=>⟨h,b0 n h⟩,hm,?_,?_⟩,?_⟩
 ·rw[sV];exact b3
 ·rw[sV];exact b4
 ·rw[s3];exact b5
 ·rw[sV];exact b6
 ·rw[sV,s1];exact b7
 ·rw[sV,s1,s2];exact b8
theorem MI0{G:Gh}(hg:GI G){r:H7}(hk:H8 r)(hm:MI G r.id r.hard r.log)(hr:RI G r)(ht1:r.role=2→1≤r.hard.term)(data:ByteArray):RU 1 G r ((G7 r data).r,(G7 r data).o):=by
 have hok:=(CP hk ht1 data).1
 unfold G7 at hok ⊢
 split
 ·exact RU.plain hg (By.refl _ _) hg hm hm hm hr (fun x hx=>by cases hx) rfl rfl
 rename_i h1
 have hro:r.role=2:=Classical.byContradiction h1
 split
 ·exact RU.plain hg (By.refl _ _) hg hm hm hm hr (fun x hx=>by cases hx) rfl rfl
 rename_i h2
 split
 ·exact RU.plain hg (By.refl _ _) hg hm hm hm hr (fun x hx=>by cases hx) rfl rfl
 rename_i h3
 rw[if_neg h1,if_neg h2,if_neg h3] at hok
 have hok:H8 (uT r data):=hok
 obtain⟨c1,c2,c3⟩:=hr.lead hro
 have hterm:=ht1 hro
 obtain⟨nl,hnl⟩:∃nl,nl=r.log++[(⟨r.hard.term,data⟩:J7)]:=⟨_,rfl⟩
 have hlen:nl.length=r.log.length+1:=by rw[hnl,List.length_append];rfl
 have hpre:r.log <+: nl:=⟨_,hnl.symm⟩
 have hmemt:∀x∈nl,1≤x.term∧x.term≤r.hard.term:=by
  intro x hx
  rw[hnl] at hx
  rcases List.mem_append.1 hx with hx | hx
  ·obtain⟨i,hi,rfl⟩:=List.getElem_of_mem hx
   exact⟨hm.good.pos hg hi,hm.le _ (List.getElem_mem hi)⟩
  ·rw[List.mem_singleton.1 hx]
   exact⟨hterm,Int.le_refl _⟩
 have hlast:∀i (h:i<nl.length),r.log.length≤i→(nl[i]).term=r.hard.term:=by
  intro i h hle
  have e:i=r.log.length:=by omega
  subst e
  simp only[hnl,List.getElem_append_right (Nat.le_refl _),Nat.sub_self,List.getElem_cons_zero]
 have hb1:By r.id G (G.lead r.hard.term r.id nl):=Rw0 (.inr ⟨r.log,c1,hpre,hlast⟩)
 have eL:(G.lead r.hard.term r.id nl).L r.hard.term=nl:=Gh.UQ GJ
 have hgood:Good (G.lead r.hard.term r.id nl) nl:=by
  intro i hi
  by_cases c:i<r.log.length
  ·rw[AP hpre c]
   obtain⟨a,b⟩:=hb1.ext.good hm.good i c
   exact⟨a,b.1,by rw[JI hpre (by omega)];exact b.2⟩
  ·rw[hlast i hi (by omega)]
   exact⟨by rw[GJ];rfl,by rw[eL];omega,by rw[eL]⟩
 have hsort:Sorted nl:=by
  intro i j hi hj hij
  by_cases c:j<r.log.length
  ·rw[AP hpre c,AP hpre (show i<r.log.length by omega)]
   exact hm.good.sort hg i j _ _ hij
  ·rw[hlast j hj (by omega)]
   exact(hmemt _ (List.getElem_mem hi)).2
 have hg1:GI (G.lead r.hard.term r.id nl):=by
  refine Sw0 hg hb1.ext hgood hsort hmemt ?_
  obtain⟨a,x,b,c,d,l0,e,f⟩:=hg.quorum _ _ _ c1
  exact⟨a,x,b,c,d,l0,e,f.trans hpre⟩
 have hm1:MI (G.lead r.hard.term r.id nl) r.id r.hard r.log:=hm.ext hb1.ext hg (fun _=>rfl) fun _=>rfl
 have hmn:MI (G.lead r.hard.term r.id nl) r.id r.hard nl:=by
  refine⟨hgood,fun x hx=>(hmemt x hx).2,hm1.C_,hm1.ackle,fun t k hka=>?_⟩
  rcases hm1.has t k hka with a | a
  ·exact .inl ⟨a.1,by rw[JI hpre a.len];exact a.2⟩
  ·exact .inr a
 have hb2:=Km0 (G.lead r.hard.term r.id nl) r.hard.term r.id nl.length
 have hg2:=Lm0 (m:=r.id) (k:=nl.length) hg1 (by rw[eL];exact Nat.le_refl _) fun t' c hc=>(hm1.C_ t' c hc).1
 have hm2:=hmn.TU (t:=r.hard.term) (k:=nl.length) ⟨by rw[eL];exact Nat.le_refl _,by rw[eL]⟩ (Int.le_refl _)
 have hr2:RI ((G.lead r.hard.term r.id nl).TU r.hard.term r.id nl.length) (uT r data):=by
  refine⟨fun k=>(by have k:r.role=1:=k;omega),fun _=>⟨?_,?_,fun x ix hne=>?_⟩,?_⟩
  ·show (G.lead r.hard.term r.id nl).ld r.hard.term=some (r.id,r.log++[⟨r.hard.term,data⟩])
   rw[GJ,hnl]
  ·show (r.log++[(⟨r.hard.term,data⟩:J7)]).length≤if r.hard.term=r.hard.term∧r.id=r.id then max _ nl.length else _
   rw[if_pos ⟨rfl,rfl⟩,←hnl]
   omega
  ·exact Nat.le_trans (c3 x ix hne) ((hb1.trans hb2).ext.ack _ _)
  ·refine hr.com.imp (fun h=>h) fun⟨t,x,y,z⟩=>⟨t,x,(hb1.trans hb2).ext.com y,?_⟩
   have:=(hb1.trans hb2).ext.has z
   refine⟨this.1,?_⟩
   show (r.log++[(⟨r.hard.term,data⟩:J7)]).take _=_
   rw[←hnl,show (uT r data).commit=r.commit from rfl,JI hpre z.len]
   exact this.2
 have hbd:∀n,Bd n G→Bd (n+1) (G.lead r.hard.term r.id nl):=by
  intro n hn t
  by_cases e:t=r.hard.term
  ·rw[e,eL]
   have h1:=(hn r.hard.term).1
   rw[Gh.UQ c1] at h1
   refine⟨by omega,fun x hx=>?_⟩
   rw[hnl] at hx
   rcases List.mem_append.1 hx with hx | hx
   ·exact(uV hk.sound x hx).2.2
   ·rw[List.mem_singleton.1 hx]
    show data.size≤2000
    omega
  ·rw[zX e]
   exact(hn.up (Nat.le_succ n)) t
 have hfr:((r.log.length:Int)+1-1).toNat=r.log.length:=by omega
 refine⟨⟨G.lead r.hard.term r.id nl,(G.lead r.hard.term r.id nl).TU r.hard.term r.id nl.length,hb1,hg1,hb2,hg2,?_,hr2,Rm0 hr2 hok hro,fun n hn=>⟨hbd n hn,hbd n hn⟩,hm1,hm1,fun _=>⟨?_,?_⟩⟩,.inr ⟨?_,?_,?_,?_⟩⟩
 ·show MI _ r.id r.hard (r.log++[(⟨r.hard.term,data⟩:J7)])
  rw[←hnl]
  exact hm2
 ·show MI _ r.id r.hard (r.log.take ((r.log.length:Int)+1-1).toNat)
  rw[hfr,List.take_length]
  exact hm1
 ·show MI _ r.id r.hard (r.log++[(⟨r.hard.term,data⟩:J7)])
  rw[←hnl]
  exact hmn
 ·show 0<(r.log.length:Int)+1
  omega
 ·show r.log++[(⟨r.hard.term,data⟩:J7)]=r.log.take ((r.log.length:Int)+1-1).toNat++[(⟨r.hard.term,data⟩:J7)]
  rw[hfr,List.take_length]
 ·show ((r.log.length:Int)+1-1).toNat≤r.log.length
  omega
 ·show ([(⟨r.hard.term,data⟩:J7)]:List J7)≠[]
  exact List.cons_ne_nil _ _
theorem HE0(G:Gh)(id:Int)(hd:EB)(l:List J7):RI G (newR id hd l):=⟨fun k=>(by cases k),fun k=>(by cases k),.inl (Int.le_refl _)⟩
def gh0:Gh:=⟨fun _ _=>none,fun _ _=>none,fun _=>none,fun _ _=>0⟩
theorem NL0:GI gh0:=by
 have e:∀t,gh0.L t=[]:=fun t=>rfl
 refine⟨fun t i h=>(by rw[e] at h;cases h),fun t i j h=>(by rw[e] at h;cases h),fun t x h=>(by rw[e] at h;cases h),fun t c l h=>(by cases h),fun t m=>Nat.zero_le _,fun t m c lv h=>(by cases h),fun t m c lv h=>(by cases h),fun t m c lv h=>(by cases h),fun t m c h=>(by cases h),fun t m c h=>(by cases h),fun t c l h=>(by cases h),fun t m c lv h=>(by cases h)⟩
theorem KD0(id:Int){hd:EB}:MI gh0 id hd [] :=
 ⟨fun i h=>(by cases h),fun x h=>(by cases h),fun t c h=>(by cases h),fun t h=>absurd rfl h,fun t k hk=>by
  have:k=0:=by have hk:k≤0:=hk;omega
  subst this
  exact .inl (Has.zero _ _ _)⟩
section
variable {P:Program} {B:Base} {w:World} {s:Sem Next} {K:PtK} {d1 d2:Dat} {post:Value→Dat→Dat→Prop}
def Both(P:Program)(B:Base)(d1 d2:Dat)(s:Sem Next)(post:Value→Dat→Dat→Prop):Prop:=Does P B (yT [d1,d2]) s fun v e' τ=>∃d1' d2',post v d1' d2'∧e'=yT [d1',d2']∧τ=[]
theorem Both.intro(h:∀(B':Base) (w:World) (K:PtK),(∀{d:Dat},d B→d B')→Rel B' w [d1,d2]→(∀v d1' d2' w',post v d1' d2'→Rel B' w' [d1',d2']→K v w')→upK P s w K):Both P B d1 d2 s post:=by
 refine Does.intro fun B' w K base h0 k=>?_
 have h0:=Rel.dS (σ:=[]) (L:=[d1,d2]) h0
 refine h B' w K base h0 fun v d1' d2' w' hp h2=>?_
 have h2:=Rel.VM (σ:=[]) (L:=[d1',d2']) h2
 exact k v _ [] w' ⟨d1',d2',hp,rfl,rfl⟩ h2
theorem Rel.uh0{τ:List Dat}(h:Rel B w (τ++[d1,d2]))(G:∀B':Base,(∀{j:Nat} {d:Dat},τ[j]? = some d→d B')→(∀{d:Dat},d B→d B')→Both P B' d1 d2 s post)
  (k:∀v d1' d2' w',post v d1' d2'→Rel B w' (τ++[d1',d2'])→K v w'):upK P s w K:=by
 have h:=Rel.VM (L:=[d1,d2]) h
 refine h.act τ.length AO (fun B' own base=>G B' (fun {j d} hj=>?_) base) fun v e' τ' w' hp h=>?_
 ·have hlt:j<τ.length:=by
   rcases Nat.lt_or_ge j τ.length with hl | hl
   ·exact hl
   ·rw[List.getElem?_eq_none hl] at hj;cases hj
  exact own (j:=j) (by omega) (by rw[List.getElem?_append_left hlt];exact hj)
 ·obtain⟨d1',d2',hp,rfl,rfl⟩:=hp
  rw[List.set_append_right _ _ (Nat.le_refl _),Nat.sub_self,List.set_cons_zero,List.append_nil] at h
  exact k v d1' d2' w' hp (Rel.dS h)
end
section
variable {B:Base} {w:World} {p:Nat} {s:DS} {kv:Value}
theorem MD0{k:Int}(hk:k=1∨k=2){t:ByteArray}(hs:t.size≤1000000):Gives prog B (Z0 MP #[.int .i64 k,.string t]) (.string (ofL (xQ k.toNat t.size))):=by
 rcases hk with rfl | rfl
 ·exact Bq0 (k:=1) hs
 ·exact Bq0 (k:=2) hs
set_option maxRecDepth 10000 in
theorem zK0(hT:bR B)(r:Q4 kv s.keep B)(hkl:s.keep.length≤1000000){c:Nat}{f:Int}{st:CS}{v:ByteArray} :
  Both prog B (Y5 p s kv) (O1 c M4 (ccs p f st)) (Z0 yM #[ptr c,.string v]) fun u d1 d2=>u = .int .i64 (vM s st f v).2∧d1=Y5 p (vM s st f v).1.1 kv∧d2=O1 c M4 (ccs p f (vM s st f v).1.2):=by
 refine Both.intro fun B' w K base h k=>?_
 replace hT:=base hT
 replace r:=base r
 refine RP.up ?_
 unfold RP.pt
 have hb:=y8 v
 have fin:∀(x:(DS×CS)×Int) w',vM s st f v=x→Rel B' w' [Y5 p x.1.1 kv,O1 c M4 (ccs p f x.1.2)]→K (.int .i64 x.2) w':=fun x w' e h=>k _ _ _ w' ⟨by rw[e],by rw[e],by rw[e]⟩ h
 clear k
 simp -zeta only[oK C8,A_,K3]
 refine⟨fun e0=>fin ((s,st),6) _ (by unfold vM;rw[if_pos (by omega)]) h,fun e0=>?_⟩
 have hv:v.size≤65536:=by omega
 refine Q6 fun J hJ=>?_
 replace hJ:(XE s st f).2=0→∀w',Rel B' w' [Y5 p (XE s st f).1 kv,O1 c M4 (ccs p f (qD st))]→J () w':=by
  intro z w1 h
  refine hJ _ _ ?_
  clear hJ
  have fin:∀(x:(DS×CS)×Int) w',set1 (XE s st f).1 (qD st) f v=x→Rel B' w' [Y5 p x.1.1 kv,O1 c M4 (ccs p f x.1.2)]→K (.int .i64 x.2) w':=fun x w' e h=>fin x w' (by unfold vM;rw[if_neg (by omega),if_neg (by rw[z];decide)];exact e) h
  rw[←EZ s st f] at r hkl
  generalize (XE s st f).1=s1 at r hkl h fin
  generalize qD st=qD at h fin
  refine Q6 fun J2 hJ2=>?_
  replace hJ2:J2 (.int .i64 (u_ qD),()) w1:=by
   refine hJ2 _ _ ?_
   clear hJ2
   have h:=h.tick
   simp -zeta only[y5,U0 XY,U0 YY,U0 qM,U0 DU,U0 ZY,Nat.add_zero,Nat.zero_add,h.ld 1 rfl o9 (o:=0) rfl,h.ld 1 rfl F3 (o:=1) rfl]
   rw[RE0 hT h (II qD)]
   refine h.act 0 rfl (fun B2 own base2=>Jm0 (base2 r) hkl f (NE (u_ qD)) (by omega)) fun u e' τ w2 hp h=>?_
   obtain⟨rfl,rfl,rfl⟩:=hp
   have h:Rel B' w2 [Y5 p (F8 s1 f (NE (u_ qD)) v).1 kv,O1 c M4 (ccs p f qD)]:=h
   simp -zeta only[X7,K5,K3]
   refine⟨fun z=>?_,fun z=>fin _ _ (by unfold set1;rw[if_pos z]) h⟩
   have fin:∀(x:(DS×CS)×Int) w',set2 (F8 s1 f (NE (u_ qD)) v).1 qD f v=x→Rel B' w' [Y5 p x.1.1 kv,O1 c M4 (ccs p f x.1.2)]→K (.int .i64 x.2) w':=fun x w' e h=>fin x w' (by unfold set1;rw[if_neg (fun hh=>hh z)];exact e) h
   rw[←NG s1 f (NE (u_ qD)) v] at r hkl
   clear z
   generalize (F8 s1 f (NE (u_ qD)) v).1=s2 at r hkl h fin
   have h:=h.tick
   simp -zeta only[h.ld 1 rfl o9 (o:=0) rfl,h.ld 1 rfl F3 (o:=1) rfl]
   refine h.act 0 rfl (fun B2 own base2=>Tc0 (base2 r) hkl f) fun u e' τ w3 hp h=>?_
   obtain⟨rfl,rfl,rfl⟩:=hp
   have h:Rel B' w3 [Y5 p (y7 s2 f).1 kv,O1 c M4 (ccs p f qD)]:=h
   simp -zeta only[X7,K5,K3]
   refine⟨fun z=>?_,fun z=>fin _ _ (by unfold set2;rw[if_pos z]) h⟩
   have fin:∀(x:(DS×CS)×Int) w',Bo0 (y7 s2 f).1 qD f v=x→Rel B' w' [Y5 p x.1.1 kv,O1 c M4 (ccs p f x.1.2)]→K (.int .i64 x.2) w':=fun x w' e h=>fin x w' (by unfold set2;rw[if_neg (fun hh=>hh z)];exact e) h
   rw[←WA s2 f] at r hkl
   clear z
   generalize (y7 s2 f).1=s3 at r hkl h fin
   have h:=h.tick
   simp -zeta only[h.ld 1 rfl o9 (o:=0) rfl,h.ld 1 rfl F3 (o:=1) rfl]
   refine h.ask (fun B2 own base2=>MD0 (II qD) (by omega)) fun w4 h=>?_
   rw[show ofL (xQ (u_ qD).toNat v.size)=kC qD v from rfl]
   refine⟨h.is 1 rfl F3 (o:=1) rfl,h.is 1 rfl o9 (o:=0) rfl,?_⟩
   refine h.act 0 rfl (fun B2 own base2=>Jm0 (base2 r) hkl f 0 (t:=kC qD v) (by have:(kC qD v).size=5:=rfl;omega)) fun u e' τ w5 hp h=>?_
   obtain⟨rfl,rfl,rfl⟩:=hp
   have h:Rel B' w5 [Y5 p (F8 s3 f 0 (kC qD v)).1 kv,O1 c M4 (ccs p f qD)]:=h
   simp -zeta only[X7,K5,K3]
   refine⟨fun z=>?_,fun z=>fin _ _ (by unfold Bo0;rw[if_pos z]) h⟩
   have fin:∀w',Rel B' w' [Y5 p (y7 (F8 s3 f 0 (kC qD v)).1 f).1 kv,O1 c M4 (ccs p f ⟨u_ qD,v,decide ((y7 (F8 s3 f 0 (kC qD v)).1 f).2=0)⟩)]→K (.int .i64 (y7 (F8 s3 f 0 (kC qD v)).1 f).2) w':=fun w' h=>fin (((y7 (F8 s3 f 0 (kC qD v)).1 f).1,⟨u_ qD,v,decide ((y7 (F8 s3 f 0 (kC qD v)).1 f).2=0)⟩),(y7 (F8 s3 f 0 (kC qD v)).1 f).2) w' (by unfold Bo0;rw[if_neg (fun hh=>hh z)]) h
   rw[←NG s3 f 0 (kC qD v)] at r hkl
   clear z
   generalize (F8 s3 f 0 (kC qD v)).1=s4 at r hkl h fin
   refine h.st 1 rfl F3 (show 2<5 by omega) rfl fun w6 h=>?_
   refine h.st 1 rfl V6 (show 3<5 by omega) rfl fun w7 h=>?_
   refine h.st 1 rfl RB (show 4<5 by omega) rfl fun w8 h=>?_
   have h:Rel B' w8 [Y5 p s4 kv,O1 c M4 (ccs p f ⟨u_ qD,v,false⟩)]:=h
   have h:=h.tick
   simp -zeta only[h.ld 1 rfl o9 (o:=0) rfl,h.ld 1 rfl F3 (o:=1) rfl]
   refine h.act 0 rfl (fun B2 own base2=>Tc0 (base2 r) hkl f) fun u e' τ w9 hp h=>?_
   obtain⟨rfl,rfl,rfl⟩:=hp
   rw[O6]
   refine h.st 1 rfl RB (show 4<5 by omega) rfl fun w10 h=>?_
   exact fin _ h
  simp -zeta only[y5,U0 qM,Nat.zero_add,h.ld 1 rfl F3 (o:=2) rfl,O6,K3]
  unfold u_ at hJ2
  exact⟨fun e=>by rw[if_pos e] at hJ2;exact hJ2,fun e=>by rw[if_neg e] at hJ2;exact hJ2⟩
 simp -zeta only[y5,U0 XY,U0 YY,U0 qM,U0 ZY,Nat.add_zero,Nat.zero_add,h.ld 1 rfl RB (o:=4) rfl,h.ld 1 rfl F3 (o:=2) rfl]
 rw[V8,K5,Q5]
 have idl:qD st={ st with sure:=st.sure||decide (0<st.slot) }:=rfl
 refine⟨fun e=>?_,fun e=>?_⟩
 ·have e1:XE s st f=(s,0):=by unfold XE;rw[if_neg (by rw[e];simp)]
  have e2:qD st=st:=by rw[idl,e];obtain⟨a,b,d⟩:=st;subst e;rfl
  refine hJ (by rw[e1]) _ ?_
  rw[e1,e2]
  exact h
 ·simp -zeta only[A_,K3]
  refine⟨fun e3=>?_,fun e3=>?_⟩
  ·have e1:XE s st f=y7 s f:=by unfold XE;rw[if_pos ⟨e,e3⟩]
   have e2:qD st={ st with sure:=true }:=by rw[idl,decide_eq_true e3,Bool.or_true]
   rw[e1,e2] at hJ
   have h:=h.tick
   simp -zeta only[h.ld 1 rfl o9 (o:=0) rfl,h.ld 1 rfl F3 (o:=1) rfl]
   refine h.act 0 rfl (fun B2 own base2=>Tc0 (base2 r) hkl f) fun u e' τ w2 hp h=>?_
   obtain⟨rfl,rfl,rfl⟩:=hp
   simp -zeta only[X7,K5,K3]
   refine⟨fun z=>?_,fun z=>fin (((y7 s f).1,st),(y7 s f).2) _ (by unfold vM;rw[if_neg (by omega),e1,if_pos z]) h⟩
   refine h.st 1 rfl RB (show 4<5 by omega) rfl fun w3 h=>?_
   exact hJ z _ h
  ·have e1:XE s st f=(s,0):=by unfold XE;rw[if_neg (fun hh=>e3 hh.2)]
   have e2:qD st=st:=by rw[idl,e,decide_eq_false e3];obtain⟨a,b,d⟩:=st;simp only at e;subst e;rfl
   refine hJ (by rw[e1]) _ ?_
   rw[e1,e2]
   exact h
end
theorem jq0{l m:List UInt8}(h:l.length=m.length)(hi:∀i,i<l.length→l.getD i 0=m.getD i 0):l=m:=by
 refine List.ext_getElem h fun i h1 h2=>?_
 have:=hi i h1
 simp only[List.getD_eq_getElem?_getD,List.getElem?_eq_getElem h1,List.getElem?_eq_getElem h2] at this
 exact this
theorem JD0{l:List UInt8}{i:Nat}(h:l.length≤i):l.getD i 0=0:=by
 rw[List.getD_eq_getElem?_getD,List.getElem?_eq_none h];rfl
def Sv(keep:List Int)(qs:List Sec)(f:Int)(N:Nat)(k n:Nat):Prop:=∃j,j<k∧qs.getD j ⟨0,0⟩=⟨f,(n:Int)⟩∧keep≠[]∧keep.getD (j % keep.length) 0 % 2≠0∧64 * n<N
structure SvI (last now R:ByteArray) (Q:Nat→Prop):Prop where
 ge:last.size≤R.size
 le:R.size≤now.size
 new:∀n,Q n→(∀i,64 * n≤i→i<64 * n+64→i<now.size→(bl R).getD i 0=(bl now).getD i 0)∧min (64 * n+64) now.size≤R.size
 old:∀n,¬Q n→∀i,64 * n≤i→i<64 * n+64→(bl R).getD i 0=(bl last).getD i 0
theorem ZE0{now:ByteArray}{n j:Nat}(hj:j<(tT now n).size):(bl (tT now n)).getD j 0=(bl now).getD (n+j) 0:=by
 have hs:=gW (now:=now) (n:=n)
 have hb:=y8 now
 unfold tT
 show (((bl now).take (min (n+64) now.size)).drop n).getD j 0=_
 simp only[List.getD_eq_getElem?_getD]
 rw[List.getElem?_drop,List.getElem?_take,if_pos (by omega)]
theorem tm0{keep:List Int}{qs:List Sec}{fs:Int→JA}{f:Int}(h1:∀f,(fs f).now.size≤16777216)(h2:∀f,(fs f).last.size≤16777216)(hle:(fs f).last.size≤(fs f).now.size)(hq:∀q∈qs,0≤q.number) :
  ∀k,k≤qs.length→SvI (fs f).last (fs f).now (ZC keep qs fs k f).last (Sv keep qs f (fs f).now.size k):=by
 intro k
 induction k with
 | zero =>
  intro _
  exact⟨Nat.le_refl _,hle,fun n ⟨j,hj,_⟩=>absurd hj (Nat.not_lt_zero j),fun n _ i _ _=>rfl⟩
 | succ k ih =>
  intro hk
  have ih:=ih (by omega)
  have hnow:=(YZ (keep:=keep) (qs:=qs) h1 h2 k).1 f
  have hgd:qs.getD k ⟨0,0⟩=qs[k]'(by omega):=by rw[List.getD_eq_getElem?_getD,List.getElem?_eq_getElem (by omega)];rfl
  have rX:0≤(qs.getD k ⟨0,0⟩).number:=by rw[hgd];exact hq _ (List.getElem_mem _)
  have keepIt:(ZC keep qs fs (k+1) f).last=(ZC keep qs fs k f).last→(∀n:Nat,qs.getD k ⟨0,0⟩=⟨f,(n:Int)⟩→keep≠[]→keep.getD (k % keep.length) 0 % 2≠0→64 * n<(fs f).now.size→False)→SvI (fs f).last (fs f).now (ZC keep qs fs (k+1) f).last (Sv keep qs f (fs f).now.size (k+1)):=by
   intro e hno
   rw[e]
   have hiff:∀n,Sv keep qs f (fs f).now.size (k+1) n↔Sv keep qs f (fs f).now.size k n:=by
    intro n
    constructor
    ·rintro⟨j,hj,a1,a2,a3,a4⟩
     by_cases ejk:j=k
     ·subst ejk;exact(hno n a1 a2 a3 a4).elim
     ·exact⟨j,by omega,a1,a2,a3,a4⟩
    ·rintro⟨j,hj,a⟩
     exact⟨j,by omega,a⟩
   exact⟨ih.ge,ih.le,fun n hn=>ih.new n ((hiff n).1 hn),fun n hn=>ih.old n fun h=>hn ((hiff n).2 h)⟩
  have hstep:ZC keep qs fs (k+1)=kU keep k (qs.getD k ⟨0,0⟩) (ZC keep qs fs k):=rfl
  generalize hqk:qs.getD k ⟨0,0⟩=q at rX keepIt hstep
  rw[hstep] at keepIt ⊢
  unfold kU at keepIt ⊢
  by_cases c1:keep=[]
  ·rw[if_pos c1] at keepIt ⊢
   exact keepIt rfl fun n _ h=>absurd c1 h
  rw[if_neg c1] at keepIt ⊢
  by_cases c2:keep.getD (k % keep.length) 0 % 2=0
  ·rw[if_pos c2] at keepIt ⊢
   exact keepIt rfl fun n _ _ h=>absurd c2 h
  rw[if_neg c2] at keepIt ⊢
  by_cases c3:((ZC keep qs fs k) q.file).now.size≤64 * q.number.toNat
  ·rw[if_pos c3] at keepIt ⊢
   refine keepIt rfl fun n e _ _ h=>?_
   rw[e] at c3
   have c3:((ZC keep qs fs k) f).now.size≤64 * (n:Int).toNat:=c3
   rw[hnow] at c3
   omega
  rw[if_neg c3] at keepIt ⊢
  by_cases c4:q.file=f
  ·obtain⟨n0,hn0⟩:∃n0:Nat,q.number=n0:=⟨q.number.toNat,by omega⟩
   have hq0:q=⟨f,(n0:Int)⟩:=by rw[←c4,←hn0]
   clear keepIt
   subst hq0
   show SvI _ _ (upd _ f _ f).last _
   rw[upd_same]
   show SvI _ _ (zF ((ZC keep qs fs k) f).last (64 * (n0:Int).toNat) (tT ((ZC keep qs fs k) f).now (64 * (n0:Int).toNat))) _
   have c3:¬((ZC keep qs fs k) f).now.size≤64 * (n0:Int).toNat:=c3
   rw[hnow,Int.toNat_natCast] at c3
   rw[hnow,Int.toNat_natCast]
   generalize hN:(fs f).now=N at *
   generalize hR:((ZC keep qs fs k) f).last=R at *
   have hps:=gW (now:=N) (n:=64 * n0)
   have hne:¬tT N (64 * n0)=⟨#[]⟩:=fun e=>by
    have e2:(tT N (64 * n0)).size=0:=by rw[e];rfl
    omega
   have hsz:=MN (s:=R) (t:=tT N (64 * n0)) (at_:=64 * n0)
   rw[if_neg hne] at hsz
   have hget:∀i,(bl (zF R (64 * n0) (tT N (64 * n0)))).getD i 0=if 64 * n0≤i∧i<64 * n0+(tT N (64 * n0)).size then(bl N).getD i 0 else(bl R).getD i 0:=by
    intro i
    unfold zF
    rw[if_neg hne,BD,kj0,y8]
    split
    ·rename_i hc
     rw[ZE0 (by omega)]
     congr 1
     omega
    ·rfl
   have hself:Sv keep qs f N.size (k+1) n0:=⟨k,by omega,hqk,c1,c2,by omega⟩
   have hge:=ih.ge
   have hle':=ih.le
   refine⟨by omega,by omega,fun n hn=>?_,fun n hn i hi1 hi2=>?_⟩
   ·by_cases e:n=n0
    ·subst e
     refine⟨fun i hi1 hi2 hi3=>?_,by omega⟩
     rw[hget,if_pos (by omega)]
    ·obtain⟨j,hj,a1,a2,a3,a4⟩:=hn
     have hjk:j≠k:=by
      rintro rfl
      rw[hqk] at a1
      injection a1 with _ a1
      omega
     obtain⟨b1,b2⟩:=ih.new n ⟨j,by omega,a1,a2,a3,a4⟩
     refine⟨fun i hi1 hi2 hi3=>?_,by omega⟩
     rw[hget,if_neg (by omega)]
     exact b1 i hi1 hi2 hi3
   ·have e:n≠n0:=fun e=>hn (e ▸ hself)
    rw[hget,if_neg (by omega)]
    exact ih.old n (fun⟨j,hj,a⟩=>hn ⟨j,by omega,a⟩) i hi1 hi2
  ·have e1:∀x,(upd (ZC keep qs fs k) q.file x f)=ZC keep qs fs k f:=fun x=>upd_ne fun e=>c4 e.symm
   rw[e1] at keepIt ⊢
   refine keepIt rfl fun n e _ _ _=>?_
   rw[e] at c4
   exact c4 rfl
structure PI (fs:Int→JA) (qs:List Sec):Prop where
 le:∀f,(fs f).last.size≤(fs f).now.size
 eq:∀f (i:Nat),(⟨f,((i / 64:Nat):Int)⟩:Sec)∈qs∨(bl (fs f).last).getD i 0=(bl (fs f).now).getD i 0
 len:∀f,(fs f).now.size=(fs f).last.size∨(0<(fs f).now.size∧(⟨f,((((fs f).now.size-1) / 64:Nat):Int)⟩:Sec)∈qs)
abbrev PIs(s:DS):Prop:=PI s.fs s.queue
theorem PI.new:PIs wB:=⟨fun _=>Nat.le_refl _,fun _ _ => .inr rfl,fun _ => .inl rfl⟩
theorem PI.flat(g:Int→ByteArray):PI (fun f=>⟨g f,g f⟩) []:=⟨fun _=>Nat.le_refl _,fun _ _ => .inr rfl,fun _ => .inl rfl⟩
theorem PI.add{s:DS}(h:PIs s)(f:Int)(a:Nat)(t:ByteArray):PIs (vC s f a t):=by
 unfold vC
 split
 ·exact h
 ·rename_i ht
  have hpos:=size_pos ht
  have hsz:=MN (s:=(s.fs f).now) (t:=t) (at_:=a)
  rw[if_neg ht] at hsz
  refine⟨fun g=>?_,fun g i=>?_,fun g=>?_⟩
  ·show (upd s.fs f _ g).last.size≤(upd s.fs f _ g).now.size
   unfold upd
   split
   ·show (s.fs f).last.size≤(zF _ _ _).size
    have:=h.le f
    omega
   ·exact h.le g
  ·show _∈HV f s.queue (secs a t.size)∨(bl (upd s.fs f _ g).last).getD i 0=(bl (upd s.fs f _ g).now).getD i 0
   by_cases e:g=f
   ·subst e
    by_cases hin:a / 64≤i / 64∧i / 64≤(a+t.size-1) / 64
    ·exact .inl (zJ.2 (.inr ⟨i / 64,(ic0 hpos).2 hin,rfl⟩))
    ·rcases h.eq g i with h1 | h1
     ·exact .inl (zJ.2 (.inl h1))
     ·right
      rw[upd_same]
      show (bl (s.fs g).last).getD i 0=(bl (zF _ _ _)).getD i 0
      unfold zF
      rw[if_neg ht,BD,kj0,y8,if_neg (by omega)]
      exact h1
   ·rw[upd_ne e]
    rcases h.eq g i with h1 | h1
    ·exact .inl (zJ.2 (.inl h1))
    ·exact .inr h1
  ·show (upd s.fs f _ g).now.size=(upd s.fs f _ g).last.size∨(0<(upd s.fs f _ g).now.size∧(⟨g,((((upd s.fs f _ g).now.size-1) / 64:Nat):Int)⟩:Sec)∈HV f s.queue (secs a t.size))
   by_cases e:g=f
   ·subst e
    rw[upd_same]
    show (zF _ _ _).size=(s.fs g).last.size∨(0<(zF _ _ _).size∧_)
    by_cases hgrow:(s.fs g).now.size<a+t.size
    ·right
     refine⟨by omega,zJ.2 (.inr ⟨(a+t.size-1) / 64,(ic0 hpos).2 ⟨by omega,Nat.le_refl _⟩,?_⟩)⟩
     congr 3
     show (zF _ _ _).size-1=_
     omega
    ·have e2:(zF (s.fs g).now a t).size=(s.fs g).now.size:=by omega
     rcases h.len g with h1 | ⟨h1,h2⟩
     ·left;omega
     ·right
      refine⟨by omega,zJ.2 (.inl ?_)⟩
      show (⟨g,((((zF (s.fs g).now a t).size-1) / 64:Nat):Int)⟩:Sec)∈s.queue
      rw[e2]
      exact h2
   ·rw[upd_ne e]
    exact(h.len g).imp id fun⟨h1,h2⟩=>⟨h1,zJ.2 (.inl h2)⟩
theorem PI.write{s:DS}(h:PIs s)(f a:Int)(t:ByteArray):PIs (ZB s f a t):=by unfold ZB;split;exact PI.add h _ _ _;exact h
theorem PI.IK{s:DS}(h:PIs s)(keep:List Int):PIs (rA s keep):=by
 unfold rA
 split
 ·exact h
 ·exact PI.flat _
theorem PI.ends{s:DS}(h:PIs s):PIs (d_ s):=by unfold d_;split<;>exact h
theorem PI.come{s:DS}(h:PIs s):PIs (FB s):=by unfold FB;split;exact PI.IK (PI.ends h) _;exact PI.ends h
theorem PI.settle{s:DS}(h:PIs s)(f:Int)(x:ByteArray):PIs (UH s f x):=by
 refine⟨fun g=>?_,fun g i=>?_,fun g=>?_⟩
 ·show (upd s.fs f _ g).last.size≤(upd s.fs f _ g).now.size
  unfold upd
  split
  ·exact Nat.le_refl _
  ·exact h.le g
 ·show _∈s.queue.filter _∨(bl (upd s.fs f _ g).last).getD i 0=(bl (upd s.fs f _ g).now).getD i 0
  by_cases e:g=f
  ·subst e;right;rw[upd_same]
  ·rw[upd_ne e]
   exact(h.eq g i).imp (fun h=>List.mem_filter.2 ⟨h,by simp [e]⟩) id
 ·show (upd s.fs f _ g).now.size=(upd s.fs f _ g).last.size∨(0<(upd s.fs f _ g).now.size∧(⟨g,((((upd s.fs f _ g).now.size-1) / 64:Nat):Int)⟩:Sec)∈s.queue.filter _)
  by_cases e:g=f
  ·subst e;left;rw[upd_same]
  ·rw[upd_ne e]
   exact(h.len g).imp id fun⟨h1,h2⟩=>⟨h1,List.mem_filter.2 ⟨h2,by simp [e]⟩⟩
structure Calm (s:DS):Prop where
 down:s.down=false
 armed:s.armed=0
 lost:s.lost=0
structure Sim (f:Int) (s s':DS):Prop where
 fs:∀g,g≠f→s'.fs g=s.fs g
 q:∀x:Sec,x.file≠f→(x∈s'.queue↔x∈s.queue)
 down:s'.down=s.down
 armed:s'.armed=s.armed
 lost:s'.lost=s.lost
 keep:s'.keep=s.keep
theorem Sim.refl(f:Int)(s:DS):Sim f s s:=⟨fun _ _=>rfl,fun _ _=>Iff.rfl,rfl,rfl,rfl,rfl⟩
theorem Sim.trans{f:Int}{a b c:DS}(h:Sim f a b)(h':Sim f b c):Sim f a c :=
 ⟨fun g hg=>(h'.fs g hg).trans (h.fs g hg),fun x hx=>(h'.q x hx).trans (h.q x hx),h'.down.trans h.down,h'.armed.trans h.armed,h'.lost.trans h.lost,h'.keep.trans h.keep⟩
theorem Sim.calm{f:Int}{a b:DS}(h:Sim f a b)(hc:Calm a):Calm b:=⟨h.down.trans hc.down,h.armed.trans hc.armed,h.lost.trans hc.lost⟩
theorem Sim.add(s:DS)(f:Int)(a:Nat)(t:ByteArray):Sim f s (vC s f a t):=by
 unfold vC
 split
 ·exact Sim.refl f s
 ·refine⟨fun g hg=>upd_ne hg,fun x hx=>⟨fun h=>?_,fun h=>zJ.2 (.inl h)⟩,rfl,rfl,rfl,rfl⟩
  rcases zJ.1 h with h | ⟨n,_,rfl⟩
  ·exact h
  ·exact absurd rfl hx
theorem Sim.settle(s:DS)(f:Int)(x:ByteArray):Sim f s (UH s f x):=by
 refine⟨fun g hg=>upd_ne hg,fun y hy=>⟨fun h=>(List.mem_filter.1 h).1,fun h=>List.mem_filter.2 ⟨h,by simpa using hy⟩⟩,rfl,rfl,rfl,rfl⟩
theorem vh0(s:DS)(f:Int)(a:Nat)(t:ByteArray):(vC s f a t).fs f=⟨zF (s.fs f).now a t,(s.fs f).last⟩:=by
 unfold vC
 split
 ·rename_i e
  unfold zF
  rw[if_pos e]
 ·exact upd_same
theorem PN(s:DS)(f:Int)(x:ByteArray):(UH s f x).fs f=⟨x,x⟩:=upd_same
theorem SX{s:DS}(h:Calm s){f:Int}(hf:0≤f∧f<16){a:Int}{t:ByteArray}(ha:0≤a)(hfit:a+t.size≤16777216):F8 s f a t=(vC s f a.toNat t,0):=by
 have hE:vJ s f a t=0:=(Oc0 h.down).2 ⟨hf,ha,hfit⟩
 rw[Sk0 h.armed,hE]
 unfold ZB
 rw[if_pos hE]
theorem zT{s:DS}(h:Calm s){f:Int}(hf:0≤f∧f<16):y7 s f=(UH s f (s.fs f).now,0):=by
 unfold y7
 rw[jn0 h.armed,if_neg (by rw[BL.2 ⟨h.down,hf⟩];decide),if_neg (by rw[h.lost];decide)]
def ON0(st:CS)(N v:ByteArray):ByteArray:=zF (zF N (NE (u_ st)).toNat v) 0 (kC st v)
theorem fj0(st:CS):0≤NE (u_ st)∧NE (u_ st)≤131072:=by
 rcases II st with e | e<;>rw[e]<;>decide
theorem oN(st:CS)(v:ByteArray):(kC st v).size=5:=rfl
theorem nm0{s:DS}(h:Calm s){f:Int}(hf:0≤f∧f<16){st:CS}{v:ByteArray}(hv:v.size≤65536) :
  ∃s',vM s st f v=((s',⟨u_ st,v,true⟩),0)∧Sim f s s'∧s'.fs f=⟨ON0 st (s.fs f).now v,ON0 st (s.fs f).now v⟩∧∀x∈s'.queue,x.file≠f:=by
 have hs1:∃s1,XE s st f=(s1,0)∧Sim f s s1∧(s1.fs f).now=(s.fs f).now:=by
  unfold XE
  split
  ·rw[zT h hf]
   exact⟨_,rfl,Sim.settle s f _,by rw[PN]⟩
  ·exact⟨s,rfl,Sim.refl f s,rfl⟩
 obtain⟨s1,e1,m1,n1⟩:=hs1
 have c1:=m1.calm h
 have ho:=fj0 st
 have hk:u_ (qD st)=u_ st:=rfl
 unfold vM
 rw[if_neg (by omega),e1]
 dsimp only
 rw[if_neg (fun hh=>hh rfl)]
 unfold set1
 rw[hk,SX c1 hf ho.1 (by omega)]
 dsimp only
 rw[if_neg (fun hh=>hh rfl)]
 have m2:=Sim.add s1 f (NE (u_ st)).toNat v
 have n2:=vh0 s1 f (NE (u_ st)).toNat v
 generalize vC s1 f (NE (u_ st)).toNat v=s2 at m2 n2 ⊢
 have c2:=m2.calm c1
 unfold set2
 rw[zT c2 hf]
 dsimp only
 rw[if_neg (fun hh=>hh rfl)]
 have m3:=Sim.settle s2 f (s2.fs f).now
 have n3:=PN s2 f (s2.fs f).now
 generalize UH s2 f (s2.fs f).now=s3 at m3 n3 ⊢
 have c3:=m3.calm c2
 unfold Bo0
 rw[hk,show kC (qD st) v=kC st v from rfl,SX c3 hf (Int.le_refl 0) (by rw[oN];decide)]
 dsimp only
 rw[if_neg (fun hh=>hh rfl)]
 have m4:=Sim.add s3 f (0:Int).toNat (kC st v)
 have n4:=vh0 s3 f (0:Int).toNat (kC st v)
 generalize vC s3 f (0:Int).toNat (kC st v)=s4 at m4 n4 ⊢
 have c4:=m4.calm c3
 rw[zT c4 hf]
 refine⟨UH s4 f (s4.fs f).now,rfl,(((m1.trans m2).trans m3).trans m4).trans (Sim.settle s4 f _),?_,fun x hx=>by simpa using (List.mem_filter.1 hx).2⟩
 rw[PN,n4,n3,n2,n1]
 rfl
theorem sr0{l r:List UInt8}{a n:Nat}(hl:r.length=min n (l.length-a))(h:∀i,i<r.length→l.getD (a+i) 0=r.getD i 0):(l.drop a).take n=r:=by
 have hlen:((l.drop a).take n).length=r.length:=by rw[List.length_take,List.length_drop,hl]
 refine jq0 hlen fun i hi=>?_
 rw[←h i (by omega)]
 simp only[List.getD_eq_getElem?_getD]
 rw[List.getElem?_take,if_pos (by omega),List.getElem?_drop]
theorem vT{s t:ByteArray}{a i:Nat}:(bl (zF s a t)).getD i 0=if a≤i∧i<a+t.size then(bl t).getD (i-a) 0 else(bl s).getD i 0:=by
 unfold zF
 split
 ·rename_i e
  rw[if_neg]
  rw[e]
  show ¬(a≤i∧i<a+0)
  omega
 ·rw[BD,kj0,y8]
def Hd(X:ByteArray)(k:Int)(n:Nat):Prop:=(k=0→(bl X).getD 0 0=0)∧(k≠0→5≤X.size∧∀i,i<5→(bl X).getD i 0=(xQ k.toNat n).getD i 0)
def Dt(X:ByteArray)(k:Int)(v:ByteArray):Prop:=k≠0→(v.size=0∨(NE k).toNat+v.size≤X.size)∧∀i,i<v.size→(bl X).getD ((NE k).toNat+i) 0=(bl v).getD i 0
structure Cv (k:Int) (v:ByteArray):Prop where
 kr:k=0∨k=1∨k=2
 z:k=0→v=⟨#[]⟩
 n:v.size≤65536
structure Ke0 (X:ByteArray) (k:Int) (v:ByteArray):Prop where
 cv:Cv k v
 hd:Hd X k v.size
 dt:Dt X k v
def Rg(k:Int)(n:Nat):Prop:=(k=1∧1≤n∧n≤1024)∨(k=2∧2048≤n∧n≤3071)
theorem nT{k:Int}(hk:k=1∨k=2):(k=1∧(NE k).toNat=64)∨(k=2∧(NE k).toNat=131072):=by
 rcases hk with rfl | rfl
 ·exact .inl ⟨rfl,rfl⟩
 ·exact .inr ⟨rfl,rfl⟩
theorem rg_of{k:Int}(hk:k=1∨k=2){i m:Nat}(hi:i<m)(hm:m≤65536):Rg k (((NE k).toNat+i) / 64):=by
 unfold Rg
 rcases nT hk with⟨h1,h2⟩ | ⟨h1,h2⟩<;>rw[h2]<;>omega
theorem Az0(k n:Nat)(hn:n≤65536):rX (xQ k n)=n:=by
 show (UInt8.ofNat n).toNat+256 * (UInt8.ofNat (n / 256)).toNat+65536 * (UInt8.ofNat (n / 65536)).toNat+16777216 * (UInt8.ofNat (n / 16777216)).toNat=n
 have e:∀m:Nat,(UInt8.ofNat m).toNat=m % 256:=fun m=>by simp
 rw[e,e,e,e]
 omega
theorem EI0{s:DS}{f:Int}(hm:wP s f=0){k:Int}{v:ByteArray}(h:Ke0 (s.fs f).now k v):KN s f=(some ⟨k,v,false⟩,0):=by
 have hr:=ac0 (a:=0) (n:=5) hm (by decide) (by decide)
 generalize hX:(s.fs f).now=X at h hr
 have hbl:=y8 X
 by_cases hk:k=0
 ·have h0:=h.hd.1 hk
  have hv:=h.cv.z hk
  subst hk hv
  unfold KN
  rw[hr]
  dsimp only
  rw[if_neg (fun hh=>hh rfl)]
  by_cases e:(ofL (((bl X).drop (0:Int).toNat).take (5:Int).toNat))=⟨#[]⟩
  ·rw[if_pos e];rfl
  ·rw[if_neg e,if_pos]
   ·rfl
   ·rw[BD]
    show (((bl X).drop 0).take 5).getD 0 0=0
    rw[List.drop_zero,List.getD_eq_getElem?_getD,List.getElem?_take,if_pos (by decide),←List.getD_eq_getElem?_getD]
    exact h0
 ·have hk2:k=1∨k=2:=by rcases h.cv.kr with e | e | e;exact absurd e hk;exact .inl e;exact .inr e
  obtain⟨hs,hb⟩:=h.hd.2 hk
  obtain⟨hd1,hd2⟩:=h.dt hk
  have hn:=h.cv.n
  have e1:((bl X).drop (0:Int).toNat).take (5:Int).toNat=xQ k.toNat v.size:=sr0 (by show 5=min 5 ((bl X).length-0);omega) fun i hi=>by
   show (bl X).getD (0+i) 0=_
   rw[Nat.zero_add]
   exact hb i hi
  rw[e1] at hr
  have hx0:(xQ k.toNat v.size).getD 0 0=UInt8.ofNat k.toNat:=rfl
  have hoff:0≤NE k:=by unfold NE;split<;>decide
  have hr2:=ac0 (a:=NE k) (n:=(v.size:Int)) hm hoff (by omega)
  rw[hX] at hr2
  have e2:((bl X).drop (NE k).toNat).take (v.size:Int).toNat=bl v:=by
   rw[Int.toNat_natCast]
   refine sr0 (by rw[y8];omega) fun i hi=>hd2 i (by rw[y8] at hi;exact hi)
  rw[e2,bW] at hr2
  unfold KN
  rw[hr]
  dsimp only
  have hne:¬ofL (xQ k.toNat v.size)=⟨#[]⟩:=fun e=>by
   have:(ofL (xQ k.toNat v.size)).size=0:=by rw[e];rfl
   cases this
  rw[if_neg (fun hh=>hh rfl),if_neg hne,BD,hx0]
  have hkk:(UInt8.ofNat k.toNat=1∨UInt8.ofNat k.toNat=2)∧((UInt8.ofNat k.toNat).toNat:Int)=k:=by
   rcases hk2 with rfl | rfl
   ·exact⟨.inl rfl,rfl⟩
   ·exact⟨.inr rfl,rfl⟩
  rw[if_neg (by rcases hkk.1 with e | e<;>rw[e]<;>decide)]
  unfold lr0
  rw[hx0,Az0 _ _ hn,hkk.2,hr2]
  dsimp only
  rw[if_neg (by show ¬(5:Nat)<5;omega),if_neg (by rintro⟨a,b⟩;rcases hkk.1 with e | e;exact a e;exact b e),if_neg (by omega),if_neg (fun hh=>hh rfl),if_neg (by omega)]
structure UpC (N L:ByteArray) (pd:Nat→Prop) (st:CS) (k0:Int) (v0:ByteArray):Prop where
 now:Ke0 N st.slot st.value
 last:Ke0 L k0 v0
 lastD:Dt L st.slot st.value
 pend:∀n,pd n→¬Rg k0 n∧¬Rg st.slot n
 sure:st.sure=true∨st.slot=0→(∀n,pd n→n≠0)∧k0=st.slot∧v0=st.value
theorem UpC.mono{N L:ByteArray}{pd pd':Nat→Prop}{st:CS}{k0:Int}{v0:ByteArray}(h:UpC N L pd st k0 v0)(hp:∀n,pd' n→pd n):UpC N L pd' st k0 v0 :=
 ⟨h.now,h.last,h.lastD,fun n hn=>h.pend n (hp n hn),fun hs=>⟨fun n hn=>(h.sure hs).1 n (hp n hn),(h.sure hs).2⟩⟩
theorem Dt.SN0{L N R:ByteArray}{Q:Nat→Prop}(hs:SvI L N R Q){k:Int}{v:ByteArray}(hc:Cv k v)(h:Dt L k v)(hq:∀n,Q n→¬Rg k n):Dt R k v:=by
 intro hk
 have hk2:k=1∨k=2:=by rcases hc.kr with e | e | e;exact absurd e hk;exact .inl e;exact .inr e
 obtain⟨h1,h2⟩:=h hk
 have:=hs.ge
 refine⟨by omega,fun i hi=>?_⟩
 have hrg:=rg_of hk2 hi hc.n
 rw[hs.old (((NE k).toNat+i) / 64) (fun hh=>hq _ hh hrg) _ (by omega) (by omega)]
 exact h2 i hi
theorem UpC.IK{N L R:ByteArray}{pd Q:Nat→Prop}{st:CS}{k0:Int}{v0:ByteArray}(h:UpC N L pd st k0 v0)(hs:SvI L N R Q)(hq:∀n,Q n→pd n):Ke0 R st.slot st.value∨Ke0 R k0 v0:=by
 have hbN:=y8 N
 have hbR:=y8 R
 have hle:=hs.le
 have hge:=hs.ge
 by_cases q0:Q 0
 ·left
  obtain⟨n1,n2⟩:=hs.new 0 q0
  refine⟨h.now.cv,⟨fun e=>?_,fun e=>?_⟩,Dt.SN0 hs h.now.cv h.lastD fun n hn=>(h.pend n (hq n hn)).2⟩
  ·have h0:=h.now.hd.1 e
   by_cases c:0<N.size
   ·rw[n1 0 (by omega) (by omega) c];exact h0
   ·rw[JD0 (by omega)]
  ·obtain⟨h1,h2⟩:=h.now.hd.2 e
   exact⟨by omega,fun i hi=>by rw[n1 i (by omega) (by omega) (by omega)];exact h2 i hi⟩
 ·right
  have o:=hs.old 0 q0
  refine⟨h.last.cv,⟨fun e=>?_,fun e=>?_⟩,Dt.SN0 hs h.last.cv h.last.dt fun n hn=>(h.pend n (hq n hn)).1⟩
  ·rw[o 0 (by omega) (by omega)];exact h.last.hd.1 e
  ·obtain⟨h1,h2⟩:=h.last.hd.2 e
   exact⟨by omega,fun i hi=>by rw[o i (by omega) (by omega)];exact h2 i hi⟩
theorem UpC.settle{N L:ByteArray}{pd:Nat→Prop}{st:CS}{k0:Int}{v0:ByteArray}(h:UpC N L pd st k0 v0)(b:Bool){pd':Nat→Prop}(hp:∀n,¬pd' n):UpC N N pd' { st with sure:=b } st.slot st.value :=
 ⟨h.now,h.now,h.now.dt,fun n hn=>absurd hn (hp n),fun _=>⟨fun n hn=>absurd hn (hp n),rfl,rfl⟩⟩
theorem IE0(st:CS)(h:bM st):u_ st≠st.slot:=by
 unfold u_
 unfold bM at h
 split<;>omega
theorem eJ0{st:CS}{n:Nat}{t:ByteArray}(ht:t.size≤65536)(h0:t.size≠0)(h1:(NE (u_ st)).toNat / 64≤n)(h2:n≤((NE (u_ st)).toNat+t.size-1) / 64):Rg (u_ st) n:=by
 unfold Rg
 rcases nT (II st) with⟨e1,e2⟩ | ⟨e1,e2⟩<;>rw[e2] at h1 h2<;>omega
theorem dJ0{a b:Int}{n:Nat}(h:Rg a n)(hne:a≠b):¬Rg b n:=by
 unfold Rg at *
 omega
theorem jo0(s t:ByteArray)(a:Nat):s.size≤(zF s a t).size:=by
 rw[MN]
 split<;>omega
theorem UpC.data{N L:ByteArray}{pd pd':Nat→Prop}{st:CS}(h:UpC N L pd st st.slot st.value)(hA:∀n,pd n→n≠0){t:ByteArray}(ht:t.size≤65536)
  (hp:∀n,pd' n→pd n∨(t.size≠0∧(NE (u_ st)).toNat / 64≤n∧n≤((NE (u_ st)).toNat+t.size-1) / 64)) :
  UpC (zF N (NE (u_ st)).toNat t) L pd' st st.slot st.value∧(∀n,pd' n→n≠0)∧Dt (zF N (NE (u_ st)).toNat t) (u_ st) t:=by
 have hok:bM st:=h.now.cv.kr
 have hne:=IE0 st hok
 have ho:=nT (II st)
 have hge:=jo0 N t (NE (u_ st)).toNat
 have hlow:∀i,i<64→(bl (zF N (NE (u_ st)).toNat t)).getD i 0=(bl N).getD i 0:=fun i hi=>by rw[vT,if_neg (by omega)]
 have hn0:∀n,pd' n→n≠0:=fun n hn=>by
  rcases hp n hn with h1 | ⟨h1,h2,h3⟩
  ·exact hA n h1
  ·omega
 refine⟨⟨⟨h.now.cv,⟨fun e=>?_,fun e=>?_⟩,fun e=>?_⟩,h.last,h.lastD,fun n hn=>?_,fun _=>⟨hn0,rfl,rfl⟩⟩,hn0,fun e=>⟨?_,fun i hi=>?_⟩⟩
 ·rw[hlow 0 (by omega)];exact h.now.hd.1 e
 ·obtain⟨h1,h2⟩:=h.now.hd.2 e
  exact⟨by omega,fun i hi=>by rw[hlow i (by omega)];exact h2 i hi⟩
 ·obtain⟨h1,h2⟩:=h.now.dt e
  have hk2:st.slot=1∨st.slot=2:=by rcases hok with e' | e' | e';exact absurd e' e;exact .inl e';exact .inr e'
  have ho2:=nT hk2
  have hv:=h.now.cv.n
  refine⟨by omega,fun i hi=>?_⟩
  rw[vT,if_neg (by omega)]
  exact h2 i hi
 ·rcases hp n hn with h1 | ⟨h1,h2,h3⟩
  ·exact h.pend n h1
  ·have:=dJ0 (eJ0 ht h1 h2 h3) hne
   exact⟨this,this⟩
 ·by_cases c:t.size=0
  ·exact .inl c
  ·right
   rw[MN,if_neg (fun e=>c (by rw[e];rfl))]
   omega
 ·rw[vT,if_pos (by omega),Nat.add_sub_cancel_left]
theorem UpC.head{N L:ByteArray}{pd pd':Nat→Prop}{st:CS}(h:UpC N L pd st st.slot st.value)(hN:L=N){t:ByteArray}(ht:t.size≤65536)(hD:Dt N (u_ st) t)(hp:∀n,pd' n→n=0) :
  UpC (zF N 0 (kC st t)) L pd' ⟨u_ st,t,false⟩ st.slot st.value:=by
 subst hN
 have hk:=II st
 have hk0:u_ st≠0:=by omega
 have hge:=jo0 L (kC st t) 0
 have hsz:(zF L 0 (kC st t)).size=max L.size 5:=by
  have hne:¬kC st t=⟨#[]⟩:=fun e=>by
   have:(kC st t).size=0:=by rw[e];rfl
   rw[oN] at this
   omega
  rw[MN,if_neg hne,oN,Nat.zero_add]
 refine⟨⟨⟨?_,fun e=>absurd e hk0,ht⟩,⟨fun e=>absurd e hk0,fun _=>⟨by omega,fun i hi=>?_⟩⟩,fun _=>?_⟩,h.now,hD,fun n hn=>?_,fun hs=>?_⟩
 ·rcases hk with e | e
  ·exact .inr (.inl e)
  ·exact .inr (.inr e)
 ·rw[vT,oN,if_pos (by omega)]
  rfl
 ·obtain⟨h1,h2⟩:=hD hk0
  have ho:=nT hk
  refine⟨by show t.size=0∨(NE (u_ st)).toNat+t.size≤_;omega,fun i hi=>?_⟩
  show (bl (zF L 0 (kC st t))).getD ((NE (u_ st)).toNat+i) 0=_
  rw[vT,oN,if_neg (by omega)]
  exact h2 i hi
 ·have:=hp n hn
  subst this
  unfold Rg
  omega
 ·rcases hs with hs | hs
  ·cases hs
  ·exact absurd hs hk0
def Pd(s:DS)(f:Int)(n:Nat):Prop:=(⟨f,(n:Int)⟩:Sec)∈s.queue
structure DnC (s:DS) (f:Int) (k:Int) (v:ByteArray):Prop where
 now:Ke0 (s.fs f).now k v
 last:(s.fs f).last=(s.fs f).now
 pd:∀n,¬Pd s f n
theorem uO(s:DS):(d_ s).fs=s.fs:=by unfold d_;split<;>rfl
theorem Zt0(s:DS):(d_ s).queue=s.queue:=by unfold d_;split<;>rfl
theorem Rp0{s:DS}(hP:PIs s)(hO:DOk s)(hd:s.down=false){f:Int}{st:CS}{k0:Int}{v0:ByteArray}(hU:UpC (s.fs f).now (s.fs f).last (Pd s f) st k0 v0)(keep:List Int) :
  DnC (rA s keep) f st.slot st.value∨DnC (rA s keep) f k0 v0:=by
 have hc:=tm0 (keep:=keep) hO.now hO.last (hP.le f) (fun q hq=>(hO.q q hq).2.1) s.queue.length (Nat.le_refl _)
 have hfs:=Rh0 hd keep f
 have hq:(rA s keep).queue=[]:=by unfold rA;rw[if_neg (by rw[hd];decide)]
 have hpd:∀n,¬Pd (rA s keep) f n:=fun n hn=>by
  unfold Pd at hn
  rw[hq] at hn
  cases hn
 have:=hU.IK hc fun n hn=>by
  obtain⟨j,hj,e,_⟩:=hn
  unfold Pd
  rw[←e,List.getD_eq_getElem?_getD,List.getElem?_eq_getElem hj]
  exact List.getElem_mem hj
 rcases this with h | h
 ·exact .inl ⟨by rw[hfs];exact h,by rw[hfs],hpd⟩
 ·exact .inr ⟨by rw[hfs];exact h,by rw[hfs],hpd⟩
theorem CJ0{s:DS}(hd:s.down=false){f:Int}(hf:0≤f∧f<16) :
  y7 s f=(rA (d_ s) (d_ s).keep,9)∨(∃l,y7 s f=({ d_ s with lost:=l },10))∨y7 s f=(UH (d_ s) f (s.fs f).now,0):=by
 unfold y7 FB
 by_cases e:bP s=true
 ·left
  simp only[if_pos e]
  have hm:wP (rA (d_ s) (d_ s).keep) f=9:=by unfold wP;rw[if_pos (Aa0 _ _)]
  rw[hm,if_pos (by decide)]
 ·right
  simp only[if_neg e]
  have hm:wP (d_ s) f=0:=BL.2 ⟨by rw[VT];exact hd,hf⟩
  rw[if_neg (by rw[hm];decide)]
  by_cases l:0<(d_ s).lost
  ·rw[if_pos l];exact .inl ⟨_,rfl⟩
  ·rw[if_neg l,uO];exact .inr rfl
theorem EG0{s:DS}(hd:s.down=false){f a:Int}{t:ByteArray}(hf:0≤f∧f<16)(ha:0≤a)(hfit:a+t.size≤16777216) :
  (∃k,F8 s f a t=(rA (vC (d_ s) f a.toNat t) k,9))∨F8 s f a t=(vC (d_ s) f a.toNat t,0):=by
 have hE:vJ (d_ s) f a t=0:=(Oc0 (by rw[VT];exact hd)).2 ⟨hf,ha,hfit⟩
 have hW:ZB (d_ s) f a t=vC (d_ s) f a.toNat t:=by unfold ZB;rw[if_pos hE]
 unfold F8
 rw[hE,hW]
 split
 ·exact .inl ⟨_,rfl⟩
 ·exact .inr rfl
theorem Aw0{s:DS}(hd:s.down=true):bP s=false∧d_ s=s∧FB s=s:=by
 have h1:bP s=false:=by unfold bP;rw[hd];rfl
 have h2:d_ s=s:=by unfold d_;rw[if_pos (.inl hd)]
 exact⟨h1,h2,by unfold FB;rw[if_neg (by rw[h1];decide),h2]⟩
theorem Wx0{s:DS}(hd:s.down=true)(f:Int):y7 s f=(s,9):=by
 obtain⟨_,_,h⟩:=Aw0 hd
 have hm:wP s f=9:=by unfold wP;rw[if_pos hd]
 unfold y7
 rw[h,hm,if_pos (by decide)]
theorem uB0{s:DS}(hd:s.down=true)(f a:Int)(t:ByteArray):F8 s f a t=(s,9):=by
 obtain⟨h1,h2,_⟩:=Aw0 hd
 have hm:wP s f=9:=by unfold wP;rw[if_pos hd]
 have hE:vJ s f a t=9:=by unfold vJ;rw[hm,if_pos (by decide)]
 unfold F8
 rw[h1,h2,hE,if_neg (by decide)]
 unfold ZB
 rw[hE,if_neg (by decide)]
theorem TK0{s:DS}{f:Int}{a:Nat}{t:ByteArray}{n:Nat}(h:Pd (vC s f a t) f n):Pd s f n∨(t.size≠0∧a / 64≤n∧n≤(a+t.size-1) / 64):=by
 unfold Pd vC at h
 split at h
 ·exact .inl h
 ·rename_i ht
  have hpos:=size_pos ht
  rcases zJ.1 h with h | ⟨m,hm,e⟩
  ·exact .inl h
  ·injection e with _ e
   have:n=m:=by omega
   subst this
   exact .inr ⟨by omega,(ic0 hpos).1 hm⟩
theorem fB0{s:DS}{f:Int}{x:ByteArray}(n:Nat):¬Pd (UH s f x) f n:=fun h=>by
 have:=(List.mem_filter.1 h).2
 simp at this
structure Up (s:DS) (f:Int):Prop where
 P:PIs s
 O:DOk s
 d:s.down=false
 r:0≤f∧f<16
def Res(s:DS)(f:Int)(st:CS)(Ok:Int→ByteArray→Prop):Prop:=PIs s∧DOk s∧bM st ∧
 ((s.down=false∧∃k0 v0,UpC (s.fs f).now (s.fs f).last (Pd s f) st k0 v0∧Ok st.slot st.value∧Ok k0 v0)∨(s.down=true∧∃k v,DnC s f k v∧Ok k v))
theorem Res.mono{s:DS}{f:Int}{st:CS}{Ok Ok':Int→ByteArray→Prop}(h:Res s f st Ok)(hm:∀k v,Ok k v→Ok' k v):Res s f st Ok':=by
 obtain⟨h1,h2,h3,h4⟩:=h
 refine⟨h1,h2,h3,h4.imp (fun⟨a,k0,v0,b,c,d⟩=>⟨a,k0,v0,b,hm _ _ c,hm _ _ d⟩) fun⟨a,k,v,b,c⟩=>⟨a,k,v,b,hm _ _ c⟩⟩
theorem dl0{s:DS}{f:Int}(hu:Up s f){st st':CS}{k0:Int}{v0:ByteArray}(hU:UpC (s.fs f).now (s.fs f).last (Pd s f) st k0 v0)(keep:List Int)(hst:bM st'){Ok:Int→ByteArray→Prop}(h1:Ok st.slot st.value)(h2:Ok k0 v0) :
  Res (rA s keep) f st' Ok:=by
 refine⟨PI.IK hu.P keep,hu.O.IK keep,hst,.inr ⟨Aa0 _ _,?_⟩⟩
 rcases Rp0 hu.P hu.O hu.d hU keep with h | h
 ·exact⟨_,_,h,h1⟩
 ·exact⟨_,_,h,h2⟩
theorem vY{s:DS}{f:Int}(hu:Up s f){st:CS}{k0:Int}{v0:ByteArray}(hU:UpC (s.fs f).now (s.fs f).last (Pd s f) st k0 v0) :
  ((y7 s f).2=0∧Up (y7 s f).1 f∧(y7 s f).1.fs f=⟨(s.fs f).now,(s.fs f).now⟩∧∀n,¬Pd (y7 s f).1 f n) ∨
  ((y7 s f).2≠0∧∀Ok:Int→ByteArray→Prop,Ok st.slot st.value→Ok k0 v0→Res (y7 s f).1 f st Ok):=by
 have hue:Up (d_ s) f:=⟨PI.ends hu.P,hu.O.ends,by rw[VT];exact hu.d,hu.r⟩
 have hpd:Pd (d_ s) f=Pd s f:=by funext n;unfold Pd;rw[Zt0]
 have hUe:UpC ((d_ s).fs f).now ((d_ s).fs f).last (Pd (d_ s) f) st k0 v0:=by rw[uO,hpd];exact hU
 rcases CJ0 hu.d hu.r with e | ⟨l,e⟩ | e
 ·right
  rw[e]
  exact⟨by show (9:Int)≠0;decide,fun Ok h1 h2=>dl0 hue hUe _ hU.now.cv.kr h1 h2⟩
 ·right
  have hO:=hu.O.y7 f
  rw[e] at hO ⊢
  exact⟨by show (10:Int)≠0;decide,fun Ok h1 h2=>⟨hue.P,hO,hU.now.cv.kr,.inl ⟨hue.d,k0,v0,hUe,h1,h2⟩⟩⟩
 ·left
  have hO:=hu.O.y7 f
  rw[e] at hO ⊢
  exact⟨rfl,⟨PI.settle hue.P f _,hO,hue.d,hu.r⟩,PN _ _ _,fun n=>fB0 n⟩
theorem ck0{s:DS}{f a:Int}{t:ByteArray}(hu:Up s f)(ha:0≤a)(hfit:a+t.size≤16777216){st:CS}{k0:Int}{v0:ByteArray}
  (hU:UpC (zF (s.fs f).now a.toNat t) (s.fs f).last (fun n=>Pd s f n∨(t.size≠0∧a.toNat / 64≤n∧n≤(a.toNat+t.size-1) / 64)) st k0 v0) :
  ((F8 s f a t).2=0∧Up (F8 s f a t).1 f∧(F8 s f a t).1.fs f=⟨zF (s.fs f).now a.toNat t,(s.fs f).last⟩∧∀n,Pd (F8 s f a t).1 f n→Pd s f n∨(t.size≠0∧a.toNat / 64≤n∧n≤(a.toNat+t.size-1) / 64)) ∨
  ((F8 s f a t).2≠0∧∀(Ok:Int→ByteArray→Prop) (st':CS),bM st'→Ok st.slot st.value→Ok k0 v0→Res (F8 s f a t).1 f st' Ok):=by
 have hua:Up (vC (d_ s) f a.toNat t) f:=⟨PI.add (PI.ends hu.P) f _ t,hu.O.ends.add hu.r (by omega),by rw[op0,VT];exact hu.d,hu.r⟩
 have hfs:(vC (d_ s) f a.toNat t).fs f=⟨zF (s.fs f).now a.toNat t,(s.fs f).last⟩:=by rw[vh0,uO]
 have hpd:∀n,Pd (vC (d_ s) f a.toNat t) f n→Pd s f n∨(t.size≠0∧a.toNat / 64≤n∧n≤(a.toNat+t.size-1) / 64):=fun n hn=>by
  have:=TK0 hn
  unfold Pd at this ⊢
  rw[Zt0] at this
  exact this
 rcases EG0 hu.d hu.r ha hfit with⟨k,e⟩ | e
 ·right
  rw[e]
  refine⟨by show (9:Int)≠0;decide,fun Ok st' hst h1 h2=>dl0 (st:=st) hua ?_ k hst h1 h2⟩
  rw[hfs]
  exact hU.mono hpd
 ·left
  rw[e]
  exact⟨rfl,hua,hfs,hpd⟩
theorem Mx0{s:DS}{f:Int}{st:CS}{Ok:Int→ByteArray→Prop}(hf:0≤f∧f<16)(h:Res s f st Ok)(v:ByteArray)(hv:v.size≤65536) :
  Res (vM s st f v).1.1 f (vM s st f v).1.2 (fun k w=>Ok k w∨(k≠0∧w=v)) ∧
  ((vM s st f v).2=0→(vM s st f v).1.2=⟨u_ st,v,true⟩∧(vM s st f v).1.1.down=false∧Res (vM s st f v).1.1 f (vM s st f v).1.2 (fun k w=>k≠0∧w=v)):=by
 obtain⟨hP,hO,hst,hcase⟩:=h
 rcases hcase with⟨hd,k0,v0,hU,o1,o2⟩ | ⟨hd,k,w,hD,o1⟩
 case inr =>
  have hdn:∀st,Res s f st (fun k w=>Ok k w∨(k≠0∧w=v))∨¬bM st:=fun st=>by
   by_cases c:bM st
   ·exact .inl ⟨hP,hO,c,.inr ⟨hd,k,w,hD,.inl o1⟩⟩
   ·exact .inr c
  have hs1:bM (qD st):=hst
  unfold vM
  rw[if_neg (by omega)]
  unfold XE
  by_cases c:st.sure=false∧0<st.slot
  ·rw[if_pos c,Wx0 hd]
   dsimp only
   rw[if_pos (by decide)]
   exact⟨(hdn st).resolve_right (fun hh=>hh hst),fun e=>by cases e⟩
  ·rw[if_neg c]
   dsimp only
   rw[if_neg (fun hh=>hh rfl)]
   unfold set1
   rw[uB0 hd]
   dsimp only
   rw[if_pos (by decide)]
   exact⟨(hdn (qD st)).resolve_right (fun hh=>hh hs1),fun e=>by cases e⟩
 have hu:Up s f:=⟨hP,hO,hd,hf⟩
 unfold vM
 rw[if_neg (by omega)]
 have first:((XE s st f).2=0∧Up (XE s st f).1 f∧UpC ((XE s st f).1.fs f).now ((XE s st f).1.fs f).last (Pd (XE s st f).1 f) (qD st) st.slot st.value∧(∀n,Pd (XE s st f).1 f n→n≠0))∨((XE s st f).2≠0∧Res (XE s st f).1 f st Ok):=by
  unfold XE
  by_cases c:st.sure=false∧0<st.slot
  ·rw[if_pos c]
   rcases vY hu hU with⟨e,u,hfs,hpd⟩ | ⟨e,hr⟩
   ·left
    refine⟨e,u,?_,fun n hn=>absurd hn (hpd n)⟩
    rw[hfs]
    exact hU.settle _ hpd
   ·exact .inr ⟨e,hr Ok o1 o2⟩
  ·rw[if_neg c]
   left
   have hsure:st.sure=true∨st.slot=0:=by
    by_cases e:st.sure=true
    ·exact .inl e
    ·right
     have e':st.sure=false:=by simpa using e
     unfold bM at hst
     by_cases e0:st.slot=0
     ·exact e0
     ·exact absurd ⟨e',by omega⟩ c
   obtain⟨a1,a2,a3⟩:=hU.sure hsure
   subst a2 a3
   have est:qD st=st:=by
    unfold qD
    obtain⟨sl,vl,su⟩:=st
    simp only at hsure ⊢
    rcases hsure with rfl | rfl
    ·rfl
    ·simp
   refine⟨rfl,hu,?_,a1⟩
   rw[est]
   exact hU
 rcases first with⟨e1,hu1,hU1,hA1⟩ | ⟨e1,hr⟩
 case inr =>
  rw[if_pos e1]
  exact⟨hr.mono fun _ _ h => .inl h,fun e=>absurd e e1⟩
 rw[if_neg (fun hh=>hh e1)]
 clear e1 hU hu
 generalize (XE s st f).1=s1 at hu1 hU1 hA1
 have hst1:bM (qD st):=hst
 have hk:u_ (qD st)=u_ st:=rfl
 have hb:∀t,kC (qD st) t=kC st t:=fun _=>rfl
 have ho1:Ok (qD st).slot (qD st).value:=o1
 generalize hst1e:qD st=t1 at hU1 hst1 hk hb ho1
 have hsl:st.slot=t1.slot:=by rw[←hst1e];rfl
 have hvl:st.value=t1.value:=by rw[←hst1e];rfl
 rw[hsl,hvl] at hU1
 rw[←hk]
 have hro:=fj0 t1
 obtain⟨hU2,hA2,hD2⟩:=hU1.data hA1 hv (pd':=fun n=>Pd s1 f n∨(v.size≠0∧(NE (u_ t1)).toNat / 64≤n∧n≤((NE (u_ t1)).toNat+v.size-1) / 64)) fun n hn=>hn
 unfold set1
 rcases ck0 hu1 hro.1 (by omega) hU2 with⟨e2,hu2,hfs2,hpd2⟩ | ⟨e2,hr⟩
 case inr =>
  rw[if_pos e2]
  exact⟨hr _ t1 hst1 (.inl ho1) (.inl ho1),fun e=>absurd e e2⟩
 rw[if_neg (fun hh=>hh e2)]
 clear e2
 generalize (F8 s1 f (NE (u_ t1)) v).1=s2 at hu2 hfs2 hpd2
 have hU2:=hU2.mono hpd2
 have hA2:∀n,Pd s2 f n→n≠0:=fun n hn=>hA2 n (hpd2 n hn)
 have hN2:(s2.fs f).now=zF (s1.fs f).now (NE (u_ t1)).toNat v:=by rw[hfs2]
 have hL2:(s2.fs f).last=(s1.fs f).last:=by rw[hfs2]
 rw[←hN2,←hL2] at hU2
 rw[←hN2] at hD2
 unfold set2
 rcases vY hu2 hU2 with⟨e3,hu3,hfs3,hpd3⟩ | ⟨e3,hr⟩
 case inr =>
  rw[if_pos e3]
  exact⟨hr _ (.inl ho1) (.inl ho1),fun e=>absurd e e3⟩
 rw[if_neg (fun hh=>hh e3)]
 clear e3
 have hU3:=hU2.settle t1.sure hpd3
 generalize (y7 s2 f).1=s3 at hu3 hfs3 hpd3 hU3
 have hN3:(s3.fs f).now=(s2.fs f).now:=by rw[hfs3]
 have hL3:(s3.fs f).last=(s2.fs f).now:=by rw[hfs3]
 have hU4:=UpC.head (st:=t1) (pd':=fun n=>Pd s3 f n∨((kC t1 v).size≠0∧(0:Int).toNat / 64≤n∧n≤((0:Int).toNat+(kC t1 v).size-1) / 64)) hU3 rfl hv hD2 fun n hn=>by
  rcases hn with hn | ⟨_,_,hn⟩
  ·exact absurd hn (hpd3 n)
  ·rw[oN] at hn
   simpa using hn
 have hU4':UpC (zF (s3.fs f).now (0:Int).toNat (kC t1 v)) (s3.fs f).last (fun n=>Pd s3 f n∨((kC t1 v).size≠0∧(0:Int).toNat / 64≤n∧n≤((0:Int).toNat+(kC t1 v).size-1) / 64)) ⟨u_ t1,v,false⟩ t1.slot t1.value:=by
  rw[hN3,hL3];exact hU4
 have hnk:u_ t1≠0:=by have:=II t1;omega
 unfold Bo0
 rcases ck0 hu3 (Int.le_refl 0) (by rw[oN];decide) hU4' with⟨e4,hu4,hfs4,hpd4⟩ | ⟨e4,hr⟩
 case inr =>
  rw[if_pos e4]
  exact⟨hr _ t1 hst1 (.inr ⟨hnk,rfl⟩) (.inl ho1),fun e=>absurd e e4⟩
 rw[if_neg (fun hh=>hh e4)]
 clear e4
 have hU5:=hU4'.mono hpd4
 generalize (F8 s3 f 0 (kC t1 v)).1=s4 at hu4 hfs4 hpd4 hU5
 have hN4:(s4.fs f).now=zF (s3.fs f).now (0:Int).toNat (kC t1 v):=by rw[hfs4]
 have hL4:(s4.fs f).last=(s3.fs f).last:=by rw[hfs4]
 rw[←hN4,←hL4] at hU5
 rcases vY hu4 hU5 with⟨e5,hu5,hfs5,hpd5⟩ | ⟨e5,hr⟩
 ·rw[e5]
  have hU6:=hU5.settle true hpd5
  have hU6:UpC ((y7 s4 f).1.fs f).now ((y7 s4 f).1.fs f).last (Pd (y7 s4 f).1 f) ⟨u_ t1,v,true⟩ (u_ t1) v:=by rw[hfs5];exact hU6
  have hsl5:bM ⟨u_ t1,v,true⟩:=by
   rcases II t1 with e | e
   ·exact .inr (.inl e)
   ·exact .inr (.inr e)
  refine⟨⟨hu5.P,hu5.O,hsl5,.inl ⟨hu5.d,_,_,hU6,.inr ⟨hnk,rfl⟩,.inr ⟨hnk,rfl⟩⟩⟩,fun _=>⟨rfl,hu5.d,hu5.P,hu5.O,hsl5,.inl ⟨hu5.d,_,_,hU6,⟨hnk,rfl⟩,⟨hnk,rfl⟩⟩⟩⟩
 ·have hdf:decide ((y7 s4 f).2=0)=false:=decide_eq_false e5
  rw[hdf]
  exact⟨hr _ (.inr ⟨hnk,rfl⟩) (.inl ho1),fun e=>absurd e e5⟩
theorem wx0(f:Int):Res wB f c0S (fun k v=>k=0∧v=⟨#[]⟩):=by
 have ho:Ke0 (⟨#[]⟩:ByteArray) 0 ⟨#[]⟩:=⟨⟨.inl rfl,fun _=>rfl,by decide⟩,⟨fun _=>rfl,fun e=>absurd rfl e⟩,fun e=>absurd rfl e⟩
 exact⟨PI.new,dx0,.inl rfl,.inl ⟨rfl,0,⟨#[]⟩,⟨ho,ho,ho.dt,fun n hn=>(by cases hn),fun _=>⟨fun n hn=>(by cases hn),rfl,rfl⟩⟩,⟨rfl,rfl⟩,⟨rfl,rfl⟩⟩⟩
theorem dc0{s:DS}{f:Int}{st:CS}{Ok:Int→ByteArray→Prop}(h:Res s f st Ok){n:Int}(hn:n≤9223372036854775807):Res { s with lost:=max n 0 } f st Ok:=by
 obtain⟨hP,hO,hst,hcase⟩:=h
 exact⟨hP,⟨hO.now,hO.last,hO.q,hO.nd,by show 0≤max n 0∧max n 0≤_;omega,hO.armed⟩,hst,hcase.imp (fun⟨a,k0,v0,b,c⟩=>⟨a,k0,v0,b,c⟩) fun⟨a,k,v,b,c⟩=>⟨a,k,v,⟨b.now,b.last,b.pd⟩,c⟩⟩
theorem Zg0{s:DS}{f:Int}{st:CS}{Ok:Int→ByteArray→Prop}(h:Res s f st Ok){n:Int}(hn:n≤9223372036854775807)(k:List Int):Res { s with armed:=max n 0,keep:=k } f st Ok:=by
 obtain⟨hP,hO,hst,hcase⟩:=h
 exact⟨hP,⟨hO.now,hO.last,hO.q,hO.nd,hO.lost,by show 0≤max n 0∧max n 0≤_;omega⟩,hst,hcase.imp (fun⟨a,k0,v0,b,c⟩=>⟨a,k0,v0,b,c⟩) fun⟨a,k,v,b,c⟩=>⟨a,k,v,⟨b.now,b.last,b.pd⟩,c⟩⟩
abbrev O7(l:List Bs):Bs:=l.flatMap bB
noncomputable def LU(n:Int):Nat→List Bs→RS→List Bs×RS
 | 0,acc,s=>(acc,s)
 | k+1,acc,s=>if(acc.length:Int)<n then(if s.rest.length≤(SA s).2.rest.length∨s.rest.length=0 then(acc,(SA s).2) else LU n k (acc++[(SA s).1]) (SA s).2) else(acc,s)
noncomputable def kZ(s:Bs)(n:Int):List Bs×RS:=LU n (s.length+1) [] ⟨s,false⟩
noncomputable def wT(s:Bs)(n:Int):List Bs×Bool:=((kZ s n).1,UT (kZ s n).2&&(decide (((kZ s n).1.length:Int)=n)&&decide (O7 (kZ s n).1=s)))
noncomputable def wK0(s:RS):(Int×Int)×Bool:=(((KR s).1,(KR (KR s).2).1),UT (KR (KR s).2).2)
noncomputable def tF(st:CS):(Int×Int)×Bool:=if 0<st.slot then wK0 ⟨bl st.value,false⟩ else((0,0),true)
section
variable {B:Base} {w:World} {σ τ:List Dat} {p:Nat}
theorem lu0(hB:kH B){v:Value}{l:List ByteArray}(r:Q4 v l B)(hb:(O7 (l.map bl)).length≤70368744177664):Gives prog B (Z0 DK #[v]) (.string (ofL (O7 (l.map bl)))):=by
 refine Gives.zi0 fun B' w K base h start k=>?_
 replace r:=base r
 replace hB:=base hB
 refine GR.up ?_
 unfold GR.pt
 have hb2:((l.map bl).flatMap bB).length≤70368744177664:=hb
 have hgood:∀x∈l,(bB (bl x)).length≤70368744177664:=fun x hx=>by
  have:(bB (bl x)).length≤(O7 (l.map bl)).length:=by
   obtain⟨a,b,rfl⟩:=List.append_of_mem hx
   unfold O7
   rw[List.map_append,List.map_cons,List.flatMap_append,List.flatMap_cons,List.length_append,List.length_append]
   omega
  omega
 have hll:l.length≤70368744177664:=by
  have h1:l.length≤((l.map bl).flatMap bB).length:=by
   clear hb hb2 hgood k r start h
   induction l with
   | nil=>simp
   | cons x l ih =>
    rw[List.map_cons,List.flatMap_cons,List.length_append,List.length_cons]
    have:1≤(bB (bl x)).length:=by simp [bB]<;>omega
    omega
  exact Nat.le_trans h1 hb
 refine h.alloc WG fun b w1 h=>?_
 have h:=start w1 b h
 rw[Q4.len r U6]
 have hmap:(l.map bl).length=l.length:=List.length_map ..
 refine M6 (fun x w'=>∃i:Nat,i≤l.length∧x=(.int .i64 i,())∧Rel B' w' [qP B'.W.heap.size b (((l.map bl).take i).flatMap bB)]) (fun x _=>l.length-(match x.1 with | .int _ n=>n.toNat | _=>0))
  ⟨0,Nat.zero_le _,rfl,by simpa using h⟩ ?_
 clear h
 rintro x w4 ⟨i,hi,rfl,h⟩ next hnext
 simp -zeta only[D6,K3]
 refine⟨fun hlt=>?_,fun hge=>?_⟩
 ·have hil:i<l.length:=by omega
  obtain⟨q,q1,q2⟩:=Q4.Fh0 r h U6 hil V6 (x := .string l[i]) rfl
  rw[q1,q2]
  have hg:=hgood l[i] (List.getElem_mem hil)
  refine h.ask (fun B2 own base2=>by have:=nU (base2 hB) (s:=bl l[i]) (by unfold bB at hg;simp only[List.length_append,List.length_cons] at hg;omega);rw[bW] at this;exact this) fun w5 h=>?_
  have hstep:=qI bB (l:=l.map bl) (i:=i) (by omega)
  rw[List.getElem_map] at hstep
  have hle:=fF bB (l.map bl) (i+1)
  rw[hstep,List.length_append] at hle
  refine h.mO (Nat.le_refl _) (by rw[J_];omega) fun _ w6 h=>?_
  rw[V5,D5 (by omega) (by omega)]
  refine hnext _ _ ⟨i+1,hil,rfl,?_⟩ (by simp only;omega)
  rw[hstep]
  exact h
 ·refine h.WU (Nat.le_refl _) fun w7 h=>?_
  have hie:i=l.length:=by omega
  subst hie
  have e:(l.map bl).take l.length=l.map bl:=List.take_of_length_le (by omega)
  rw[e] at *
  exact k _ _ h
theorem zA0(hB:lC B){c dp:Nat}{f:Int}{st:CS}(hv:st.value.size≤100000)(hc:O1 c M4 (ccs dp f st) B):Gives prog B (Z0 ZN #[ptr c]) (.tuple #[.int .i64 (tF st).1.1,.int .i64 (tF st).1.2,.bool (tF st).2]):=by
 refine Gives.intro fun B' w K base h k=>?_
 replace hB:=base hB
 replace hc:=base hc
 refine OM.up ?_
 unfold OM.pt
 refine h.ask (fun B2 own base2=>bK0 (base2 hc)) fun w1 h=>?_
 rw[h_,Y9,V8,K5,K3]
 unfold tF at k
 refine⟨fun c1=>?_,fun c1=>?_⟩
 case refine_2=>rw[if_neg c1] at k;exact k _ _ h
 rw[if_pos c1] at k
 have e:Z0 iB #[.string st.value]=Z0 iB #[.string (ofL (bl st.value))]:=by rw[QM]
 rw[e]
 refine h.make (fun B2 own base2=>KZ (t:=bl st.value)) fun u τ w2 hp h=>?_
 obtain⟨p,rfl,rfl⟩:=hp
 have hl:(bl st.value).length≤100000:=by rw[jO];exact hv
 have h1:=sI0 ⟨bl st.value,false⟩
 have h1:(KR ⟨bl st.value,false⟩).2.rest.length≤(bl st.value).length:=h1
 refine h.rd_ 0 rfl (fun B2 own base2=>lo0 (base2 hB) (show (bl st.value).length≤_ by omega)) fun w3 h=>?_
 refine h.rd_ 0 rfl (fun B2 own base2=>lo0 (base2 hB) (by omega)) fun w4 h=>?_
 refine h.ask (fun B2 own base2=>nY (own (i:=0) rfl)) fun w5 h=>?_
 exact k _ _ h.nil
theorem YI0(hB:lC B)(hP:kH B){s:ByteArray}(hs:s.size≤16777216)(n:Int):Makes prog B (Z0 xS #[.string s,.int .i64 n]) fun u τ=>∃v,u = .tuple #[v,.bool (wT (bl s) n).2]∧τ=[V3 U2 v ((wT (bl s) n).1.map ofL)]:=by
 refine Makes.intro fun B' w K base h k=>?_
 replace hB:=base hB
 replace hP:=base hP
 refine IR.up ?_
 unfold IR.pt
 have e:Z0 iB #[.string s]=Z0 iB #[.string (ofL (bl s))]:=by rw[QM]
 rw[e]
 have hl:(bl s).length≤16777216:=by rw[jO];exact hs
 refine h.make (fun B2 own base2=>KZ (t:=bl s)) fun u τ w2 hp h=>?_
 obtain⟨p,rfl,rfl⟩:=hp
 unfold wT at k
 refine Q6 fun J hJ=>?_
 replace hJ:∀v acc s' w',kZ (bl s) n=(acc,s')→(s'.bad=false→bl s=O7 acc++s'.rest)→Rel B' w' [rdD p s',V3 U2 v (acc.map ofL)]→J (v,()) w':=by
  intro v acc s' w' he hf h
  refine hJ _ _ ?_
  clear hJ
  rw[he] at k
  simp only at k
  refine h.ask (fun B2 own base2=>nY (own (i:=0) rfl)) fun w3 h=>?_
  rw[Q5]
  refine⟨fun c1=>?_,fun c1=>?_⟩
  case refine_2=>rw[c1,Bool.false_and] at k;exact k _ _ _ ⟨v,rfl,rfl⟩ (h.pick [1] (by decide))
  rw[c1,Bool.true_and] at k
  have hbad:s'.bad=false:=by
   unfold UT at c1
   rw[Bool.and_eq_true] at c1
   simpa using c1.1
  have hf:=hf hbad
  rw[Q4.len (V3.read (h.here (i:=1) rfl)) U6,List.length_map,O6,K3]
  refine⟨fun c2=>?_,fun c2=>?_⟩
  case refine_2=>rw[decide_eq_false c2,Bool.false_and] at k;exact k _ _ _ ⟨v,rfl,rfl⟩ (h.pick [1] (by decide))
  rw[decide_eq_true c2,Bool.true_and] at k
  have em:(acc.map ofL).map bl=acc:=by
   rw[List.map_map]
   conv=>rhs;rw[←List.map_id acc]
   exact List.map_congr_left fun x _=>BD x
  have hfl:(O7 acc).length≤16777216:=by
   have:=congrArg List.length hf
   rw[List.length_append] at this
   omega
  refine h.ask (v := .string (ofL (O7 acc))) (fun B2 own base2=>by
   have:=lu0 (base2 hP) (V3.read (own (i:=1) rfl)) (by rw[em];omega)
   rw[em] at this
   exact this) fun w4 h=>?_
  rw[WT]
  have ed:decide (ofL (O7 acc)=s)=decide (O7 acc=bl s):=decide_eq_decide.2 ⟨fun hh=>by rw[←hh,BD],fun hh=>by rw[hh,QM]⟩
  rw[ed]
  exact k _ _ _ ⟨v,rfl,rfl⟩ (h.pick [1] (by decide))
 clear k
 have h:=h.oG ByteArray U2
 refine cp0 (fun j x w'=>∃(acc:List Bs) (v:Value) (s':RS),x=(v,())∧kZ (bl s) n=LU n j acc s'∧s'.rest.length<j∧s'.rest.length≤(bl s).length∧acc.length+s'.rest.length≤(bl s).length∧(s'.bad=false→bl s=O7 acc++s'.rest) ∧
   Rel B' w' [rdD p s',V3 U2 v (acc.map ofL)]) ((bl s).length+1) ⟨[],.slice none 0 0,⟨bl s,false⟩,rfl,rfl,Nat.lt_succ_self _,Nat.le_refl _,by simp,fun _=>rfl,h⟩ ?_
 clear h
 rintro j x w3 ⟨acc,v,s',rfl,hq,hj,hsl,hal,hf,h⟩ next hnext
 obtain⟨j,rfl⟩:∃i,j=i+1:=⟨j-1,by omega⟩
 rw[LU] at hq
 rw[Q4.len (V3.read (h.here (i:=1) rfl)) U6,List.length_map,D6,K3]
 refine⟨fun c1=>?_,fun c1=>?_⟩
 case refine_2=>rw[if_neg c1] at hq;exact hJ v acc s' _ hq hf h
 rw[if_pos c1] at hq
 have hf2:(SA s').2.bad=false→s'.bad=false∧s'.rest=bB (SA s').1++(SA s').2.rest:=fun hb=>by
  obtain⟨a,b,_⟩:=um0.back hb
  exact⟨a,b⟩
 have htl:=OX s'
 refine h.ask (fun B2 own base2=>Vg0 (own (i:=0) rfl)) fun w4 h=>?_
 refine h.rd_ 0 rfl (fun B2 own base2=>qY (base2 hB) (by omega)) fun w5 h=>?_
 have h:Rel B' w5 [rdD p (SA s').2,V3 U2 v (acc.map ofL)]:=h
 refine h.ask (fun B2 own base2=>Vg0 (own (i:=0) rfl)) fun w6 h=>?_
 have hstop:(s'.rest.length≤(SA s').2.rest.length∨s'.rest.length=0)→((SA s').2.bad=false→bl s=O7 acc++(SA s').2.rest):=fun c hb=>by
  obtain⟨h1,h2⟩:=hf2 hb
  have h3:=congrArg List.length h2
  rw[List.length_append] at h3
  have h4:0<(bB (SA s').1).length:=by unfold bB;simp only[List.length_append,List.length_cons];omega
  omega
 rw[LD,K3]
 refine⟨fun c2=>?_,fun c2=>?_⟩
 ·have c:s'.rest.length≤(SA s').2.rest.length∨s'.rest.length=0 := .inl (by omega)
  rw[if_pos c] at hq
  exact hJ v acc _ _ hq (hstop c) h
 rw[O6,K3]
 refine⟨fun c3=>?_,fun c3=>?_⟩
 ·have c:s'.rest.length≤(SA s').2.rest.length∨s'.rest.length=0 := .inr (by omega)
  rw[if_pos c] at hq
  exact hJ v acc _ _ hq (hstop c) h
 rw[if_neg (by omega)] at hq
 refine h.Df0 (α:=ByteArray) 1 rfl (ofL (SA s').1) U6 (by decide) (by rw[List.length_map];omega) (by rw[List.length_map];omega) fun v2 w7 h=>?_
 have e2:((acc++[(SA s').1]).map ofL)=(acc.map ofL)++[(ofL (SA s').1)]:=by rw[List.map_append];rfl
 refine hnext _ _ _ (Nat.lt_succ_self _) ⟨acc++[(SA s').1],v2,(SA s').2,rfl,hq,by omega,by omega,by rw[List.length_append,List.length_singleton];omega,fun hb=>?_,?_⟩
 ·obtain⟨h1,h2⟩:=hf2 hb
  have e3:O7 (acc++[(SA s').1])=O7 acc++bB (SA s').1:=by
   unfold O7
   rw[List.flatMap_append]
   simp
  rw[e3,List.append_assoc,←h2]
  exact hf h1
 ·rw[e2]
  exact h
end
section
variable {α:Type} [Enc α] {P:Program} {B:Base} {w:World} {σ:List Dat} {E T:TypeId} {v:Value} {l:List α} {by_:Nat} {K:PtK}
def aK0(v:Value)(l:List α)(v0:Value)(l0:List α):Prop:=(v=v0∧l=l0)∨∃a n0 c0 n,v0 = .slice a n0 c0∧v = .slice a n n∧n≤l0.length∧l=l0.take n
def kI(E:TypeId)(v:Value)(l:List α):Dat:=Dat.ex fun q:Value×List α=>Dat.and (Dat.pure (aK0 v l q.1 q.2)) (V3 E q.1 q.2)
theorem kI.of(h:V3 E v l B):kI E v l B:=⟨(v,l),.inl ⟨rfl,rfl⟩,h⟩
theorem kI.read(h:kI E v l B):Q4 v l B:=by
 obtain⟨⟨v0,l0⟩,hc,h⟩:=h
 rcases hc with⟨rfl,rfl⟩ | ⟨a,n0,c0,n,e1,rfl,hn,rfl⟩
 ·exact V3.read h
 ·obtain⟨a',cap,e2,hcap,h⟩:=V3.read h
  have e1:v0 = .slice a n0 c0:=e1
  have e2:v0 = .slice a' l0.length cap:=e2
  rw[e1] at e2
  cases e2
  have hlen:(l0.take n).length=n:=by rw[List.length_take];exact Nat.min_eq_left hn
  refine⟨a,n,by rw[hlen],by rw[hlen];exact Nat.le_refl _,?_⟩
  rcases h with rfl | ⟨g,o,rfl,h⟩
  ·left;simp
  ·right
   refine⟨g,o,rfl,h.1,h.2.1,fun j u hj=>?_⟩
   refine h.2.2 _ _ ?_
   rw[←wF,List.getElem?_take] at hj
   split at hj
   ·exact hj
   ·cases hj
theorem kI.shape(h:kI E v l B):∃a c,v = .slice a l.length c:=by
 obtain⟨a,c,e,_⟩:=kI.read h
 exact⟨a,c,e⟩
theorem Rel.Ky0(h:Rel B w σ)(i:Nat)(hi:σ[i]? = some (kI E v l))(hT:sliceB P T E (Enc.sz α) by_=true){v2:Value}{l2:List α}(r:Q4 v2 l2 B)(hne:l2≠[])
  (hb:(l.length+l2.length) * by_≤140737488355328) (h63:l.length+l2.length≤140737488355328) {U:TypeId} {bs:Array Bool} (k:∀v' w',Rel B w' (σ.set i (kI E v' (l++l2)))→K v' w'):upK P (J5 .append #[T,T] U bs #[v,v2]) w K:=by
 have hlt:i<σ.length:=(List.getElem?_eq_some_iff.1 hi).1
 obtain⟨⟨v0,l0⟩,h1⟩:=h.ex hi
 obtain⟨hp,h1⟩:=h1.iW (List.getElem?_set_self hlt)
 rw[List.set_set] at h1
 have h1:Rel B w (σ.set i (V3 E v0 l0)):=h1
 have hp:aK0 v l v0 l0:=hp
 rcases hp with⟨rfl,rfl⟩ | ⟨a,n0,c0,n,e1,rfl,hn,rfl⟩
 ·refine h1.append i (List.getElem?_set_self hlt) hT (Rd.base r) hb h63 fun v' w' h2=>k v' w' ?_
  rw[List.set_set] at h2
  have:=h2.imp (i:=i) (d:=V3 E v' (l++l2)) (e:=kI E v' (l++l2)) (List.getElem?_set_self hlt) fun B hB=>kI.of hB
  rw[List.set_set] at this
  exact this
 ·obtain⟨B',h',back,own,base⟩:=h.frz
  have hlen:(l0.take n).length=n:=by rw[List.length_take];exact Nat.min_eq_left hn
  have hpos:0<l2.length:=List.length_pos_iff.2 hne
  refine Rel.grow (σ:=[]) h' hT (a:=a) (cap:=n) (by rw[hlen]) (Rd.base (kI.read (own hi))) (Rd.base (base r)) (by rw[hlen];omega) hb h63 fun v' w' h2=>k v' w' ?_
  have h3:=(back w' _ h2).yN0 i hi
  have:=h3.imp (i:=i) (e:=kI E v' (l0.take n++l2)) (List.getElem?_set_self hlt) fun B hB=>kI.of (Dat.star.right hB)
  rw[List.set_set] at this
  exact this
theorem uJ0{a:Option Addr}{len cap hi mx:Nat}(hT:sliceB P T E (Enc.sz α) by_=true)(h2:hi≤mx)(h3:mx≤cap){Kp:Value→Prop} :
  M0 P (d9 T (.slice a len cap) none (some (.int .i64 hi)) (some (.int .i64 mx))) Kp=Kp (.slice a hi mx):=V4 fun w=>by
 obtain⟨hu,i,z,hinfo,hz,hs,hby,hzs⟩:=v_ hT
 refine V9 ?_
 simp [Instr.sliceAt,Instr.slice,run_underlying hu,Instr.sliceBounds,Instr.sliceBound,asIntOf,h2,h3,sizeOf,typeInfo,hinfo,hs]
 intro _
 cases a with
 | none=>rfl
 | some x =>
  have:x.add 0=x:=by unfold Addr.add;split<;>simp_all
  exact congrArg some this
theorem kI.cut(h:kI E v l B){n:Nat}(hn:n≤l.length):∃a c,v = .slice a l.length c∧l.length≤c∧kI E (.slice a n n) (l.take n) B:=by
 obtain⟨⟨v0,l0⟩,hc,h⟩:=h
 rcases hc with⟨rfl,rfl⟩ | ⟨a,n0,c0,m,e1,rfl,hm,rfl⟩
 ·obtain⟨a',cap,e2,hcap,_⟩:=V3.read h
  exact⟨a',cap,e2,hcap,⟨(v,l),.inr ⟨a',l.length,cap,n,e2,rfl,hn,rfl⟩,h⟩⟩
 ·have hlen:(l0.take m).length=m:=by rw[List.length_take];exact Nat.min_eq_left hm
  have hm:m≤l0.length:=hm
  have hn2:n≤m:=by
   have h1:n≤(l0.take m).length:=hn
   omega
  show ∃a' c,Value.slice a m m = .slice a' (l0.take m).length c∧(l0.take m).length≤c∧kI E (.slice a' n n) ((l0.take m).take n) B
  rw[hlen]
  refine⟨a,m,rfl,Nat.le_refl _,⟨(v0,l0),.inr ⟨a,n0,c0,n,e1,rfl,by show n≤l0.length;omega,?_⟩,h⟩⟩
  rw[List.take_take,Nat.min_eq_left hn2]
end
structure JP where
 list:List Bs
 bytes:Int
 broken:Bool
 c:CS
structure JOk (j:JP):Prop where
 bytes:0≤j.bytes∧j.bytes≤16777216
 form:((O7 j.list).length:Int)=j.bytes
def jF(b n:Int):ByteArray:=ofL (encI b++encI n)
def wE(s:DS)(j:JP)(b n:Int):(DS×JP)×Int:=(((vM s j.c 1 (jF b n)).1.1,{ j with c:=(vM s j.c 1 (jF b n)).1.2,broken:=!decide ((vM s j.c 1 (jF b n)).2=0) }),(vM s j.c 1 (jF b n)).2)
def wsJ(s:DS)(j:JP)(t:ByteArray):DS×Int:=if(F8 s 0 j.bytes t).2=0 then y7 (F8 s 0 j.bytes t).1 0 else F8 s 0 j.bytes t
def VX(s:DS)(j:JP)(l:List Bs):(DS×JP)×Int :=
 if(wE s j (j.bytes+(O7 l).length) (j.list.length+l.length)).2=0 then(((wE s j (j.bytes+(O7 l).length) (j.list.length+l.length)).1.1,{ (wE s j (j.bytes+(O7 l).length) (j.list.length+l.length)).1.2 with list:=j.list++l,bytes:=j.bytes+(O7 l).length }),0)
 else wE s j (j.bytes+(O7 l).length) (j.list.length+l.length)
def uE(s:DS)(j:JP)(l:List Bs):(DS×JP)×Int :=
 if j.broken=true then((s,j),7)
 else if l=[] then((s,j),0)
 else if 1048576<j.bytes+(O7 l).length then((s,j),6)
 else if(wsJ s j (ofL (O7 l))).2=0 then VX (wsJ s j (ofL (O7 l))).1 j l
 else(((wsJ s j (ofL (O7 l))).1,{ j with broken:=true }),(wsJ s j (ofL (O7 l))).2)
def aT(s:DS)(j:JP)(n:Int):(DS×JP)×Int :=
 if j.broken=true then((s,j),7)
 else if n<0∨(j.list.length:Int)<n then((s,j),1)
 else if n=j.list.length then((s,j),0)
 else if(wE s j (O7 (j.list.take n.toNat)).length n).2=0 then(((wE s j (O7 (j.list.take n.toNat)).length n).1.1,{ (wE s j (O7 (j.list.take n.toNat)).length n).1.2 with list:=j.list.take n.toNat,bytes:=(O7 (j.list.take n.toNat)).length }),0)
 else wE s j (O7 (j.list.take n.toNat)).length n
noncomputable def gj0(s:DS)(c:CS):Option JP×Int :=
 if(tF c).2=false then(none,2)
 else if(GD s 0 0 (tF c).1.1).2≠0 then(none,(GD s 0 0 (tF c).1.1).2)
 else if(wT (bl (GD s 0 0 (tF c).1.1).1) (tF c).1.2).2=false then(none,2)
 else if((GD s 0 0 (tF c).1.1).1.size:Int)≠(tF c).1.1 then(none,2)
 else(some ⟨(wT (bl (GD s 0 0 (tF c).1.1).1) (tF c).1.2).1,(tF c).1.1,false,c⟩,0)
noncomputable def oV(s:DS):Option JP×Int:=match KN s 1 with
 | (none,e)=>(none,e)
 | (some c,_)=>gj0 s c
noncomputable def OL(s:DS):DS×(Option JP×Int) :=
 if(y7 s 0).2≠0 then((y7 s 0).1,(none,(y7 s 0).2))
 else if(y7 (y7 s 0).1 1).2≠0 then((y7 (y7 s 0).1 1).1,(none,(y7 (y7 s 0).1 1).2))
 else((y7 (y7 s 0).1 1).1,oV (y7 (y7 s 0).1 1).1)
theorem bm0{s:DS}{f:Int}{st:CS}{e:Int}(h:KN s f=(some st,e)):st.value.size≤65536:=by
 unfold KN at h
 split at h
 ·cases h
 split at h
 ·cases h;exact Nat.zero_le _
 split at h
 ·cases h;exact Nat.zero_le _
 unfold lr0 at h
 split at h
 ·cases h
 split at h
 ·cases h
 split at h
 ·cases h
 split at h
 ·cases h
 split at h
 ·cases h
 rename_i h3 _ _
 cases h
 have:=PZ s f (NE ((bl (GD s f 0 5).1).getD 0 0).toNat) (rX (bl (GD s f 0 5).1))
 show (GD s f _ _).1.size≤_
 omega
theorem tj0{s:DS}(h:DOk s)(f a n:Int):(GD s f a n).1.size≤16777216:=by
 unfold GD
 split
 ·exact Nat.zero_le _
 ·split
  ·exact Nat.zero_le _
  ·split
   ·exact Nat.zero_le _
   ·show (ofL _).size≤_
    rw[J_,List.length_take,List.length_drop,jO]
    have:=h.now f
    omega
theorem aW{b n:Int}(hb:inI b)(hn:inI n):(jF b n).size≤42:=by
 unfold jF
 rw[J_,List.length_append]
 have:=X6 hb
 have:=X6 hn
 omega
abbrev jcs(dp cp:Nat)(v:Value)(j:JP):Array Value:=#[ptr dp,.int .i64 0,ptr cp,v,.int .i64 j.bytes,.bool j.broken]
def aE0(dp cp jp:Nat)(j:JP)(v:SV):List Dat:=[O1 cp M4 (ccs dp 1 j.c),O1 jp R4 (jcs dp cp v.1 j),kI U2 v.1 (j.list.map ofL)]
def vB(dp cp jp:Nat)(j:JP):Dat:=Dat.ex fun v:SV=>eD (aE0 dp cp jp j v)
section
variable {B:Base} {w:World} {σ τ:List Dat} {dp cp jp:Nat} {s:DS} {kv:Value} {j:JP} {K:PtK}
theorem vB.open(h:Rel B w (vB dp cp jp j :: τ)):∃v,Rel B w (aE0 dp cp jp j v++τ):=by
 obtain⟨v,h⟩:=h.ex (i:=0) rfl
 exact⟨v,Rel.BQ h⟩
theorem vB.close(v:SV)(h:Rel B w (aE0 dp cp jp j v++τ)):Rel B w (vB dp cp jp j :: τ) :=
 (Rel.QJ h).imp (i:=0) (e:=vB dp cp jp j) rfl fun B hB=>⟨v,hB⟩
theorem vB.FO(h:vB dp cp jp j B):∃v:SV,O1 cp M4 (ccs dp 1 j.c) B∧O1 jp R4 (jcs dp cp v.1 j) B∧Q4 v.1 (j.list.map ofL) B:=by
 obtain⟨v,h⟩:=h
 exact⟨v,eD.get (j:=0) h rfl,eD.get (j:=1) h rfl,kI.read (eD.get (j:=2) h rfl)⟩
theorem ZV(l:List Bs):(l.map ofL).map bl=l:=by
 rw[List.map_map]
 conv=>rhs;rw[←List.map_id l]
 exact List.map_congr_left fun x _=>BD x
theorem WL0(h0:vB dp cp jp j B):Gives prog B (Z0 NJ #[ptr jp]) (.int .i64 j.list.length):=by
 refine Gives.intro fun B' w K base h k=>?_
 obtain⟨v,c0,c1,c2⟩:=vB.FO (base h0)
 refine QH.up ?_
 unfold QH.pt
 simp -zeta only[y5,U0 uH,Nat.zero_add]
 rw[O1.ld (h.K6 c1) J9 (o:=3) (v:=v.1) rfl,Q4.len c2 U6,List.length_map]
 exact k _ _ h
theorem VL0(h0:vB dp cp jp j B)(hl:j.list.length≤1000000000):Makes prog B (Z0 LJ #[ptr jp]) fun u τ=>τ=[V3 U2 u (j.list.map ofL)]:=by
 refine Makes.intro fun B' w K base h k=>?_
 obtain⟨v,c0,c1,c2⟩:=vB.FO (base h0)
 refine OH.up ?_
 unfold OH.pt
 simp -zeta only[y5,U0 uH,Nat.zero_add]
 rw[O1.ld (h.K6 c1) J9 (o:=3) (v:=v.1) rfl,Q4.len c2 U6,List.length_map]
 refine h.mkSlice (α:=ByteArray) (n:=j.list.length) ⟨#[]⟩ U6 rfl (by omega) (by omega) fun u w1 h hu=>?_
 have e:(List.replicate j.list.length (⟨#[]⟩:ByteArray)).length=j.list.length:=List.length_replicate ..
 obtain⟨g,cap,hu⟩:=h.ox0 (i:=0) rfl hu
 rw[e] at hu
 subst hu
 rw[O1.ld (h.K6 c1) J9 (o:=3) (v:=v.1) rfl]
 refine h.za0 0 (l2:=j.list.map ofL) (n:=j.list.length) (lo:=0) rfl U6 (Rd.base c2) (Nat.zero_le _) (.inl (by rw[Nat.zero_mul])) fun w2 h=>?_
 refine k _ _ _ rfl ?_
 have e2:(j.list.map ofL).length=j.list.length:=List.length_map ..
 rw[List.take_zero,List.nil_append,e,Nat.sub_zero,List.take_of_length_le (l:=j.list.map ofL) (by omega),List.drop_of_length_le (by omega),List.append_nil] at h
 exact h
theorem ME0(hT:bR B)(hB:kH B)(r:Q4 kv s.keep B)(hkl:s.keep.length≤1000000)(b n:Int)(hb:inI b)(hn:inI n) :
  Both prog B (Y5 dp s kv) (vB dp cp jp j) (Z0 aF #[ptr jp,.int .i64 b,.int .i64 n]) fun u d1 d2=>u = .int .i64 (wE s j b n).2∧d1=Y5 dp (wE s j b n).1.1 kv∧d2=vB dp cp jp (wE s j b n).1.2:=by
 refine Both.intro fun B' w K base h k=>?_
 replace hT:=base hT
 replace hB:=base hB
 replace r:=base r
 refine MG.up ?_
 unfold MG.pt
 have h:=h.pick [1,0] (by decide)
 obtain⟨v,h⟩:=vB.open h
 have h:Rel B' w [O1 cp M4 (ccs dp 1 j.c),O1 jp R4 (jcs dp cp v.1 j),kI U2 v.1 (j.list.map ofL),Y5 dp s kv]:=h
 have h:=h.tick
 generalize tick w=w at *
 simp -zeta only[y5,U0 JY,U0 YL,Nat.zero_add]
 rw[h.ld 1 rfl R8 (o:=2) (v:=ptr cp) rfl]
 refine h.ask (fun B2 own base2=>KC (base2 hB) hb) fun w2 h=>?_
 refine⟨h.is 1 rfl R8 (o:=2) rfl,?_⟩
 refine h.ask (fun B2 own base2=>KC (base2 hB) hn) fun w3 h=>?_
 refine⟨h.is 1 rfl R8 (o:=2) rfl,?_⟩
 have l1:=X6 hb
 have l2:=X6 hn
 rw[q9 (by omega)]
 have h:Rel B' w3 ([O1 jp R4 (jcs dp cp v.1 j),kI U2 v.1 (j.list.map ofL)]++[Y5 dp s kv,O1 cp M4 (ccs dp 1 j.c)]):=h.pick [1,2,3,0] (by decide)
 refine h.uh0 (fun B2 own base2=>zK0 (base2 hT) (base2 r) hkl) fun u d1 d2 w4 hp h=>?_
 obtain⟨rfl,rfl,rfl⟩:=hp
 rw[X7]
 refine h.st 0 rfl RB (o:=5) (show 5<6 by omega) rfl fun w5 h=>?_
 refine k _ _ _ _ ⟨rfl,rfl,rfl⟩ ?_
 have h:Rel B' w5 (aE0 dp cp jp (wE s j b n).1.2 v++[Y5 dp (wE s j b n).1.1 kv]):=h.pick [3,0,1,2] (by decide)
 exact(vB.close v h).pick [1,0] (by decide)
theorem gC0(hT:bR B)(hB:kH B)(r:Q4 kv s.keep B)(hkl:s.keep.length≤1000000)(hj:JOk j){u:Value}{l:List Bs}(q:Q4 u (l.map ofL) B)(hl:(O7 l).length≤16777216)(hjl:j.list.length≤1000000000)(hll:l.length≤1000000) :
  Both prog B (Y5 dp s kv) (vB dp cp jp j) (Z0 YG #[ptr jp,u]) fun u d1 d2=>u = .int .i64 (uE s j l).2∧d1=Y5 dp (uE s j l).1.1 kv∧d2=vB dp cp jp (uE s j l).1.2:=by
 refine Both.intro fun B' w K base h k=>?_
 replace hT:=base hT
 replace hB:=base hB
 replace r:=base r
 replace q:=base q
 refine gF.up ?_
 unfold gF.pt
 have fin:∀(x:(DS×JP)×Int) w',uE s j l=x→Rel B' w' [vB dp cp jp x.1.2,Y5 dp x.1.1 kv]→K (.int .i64 x.2) w':=fun x w' e h=>k _ (Y5 dp x.1.1 kv) (vB dp cp jp x.1.2) w' ⟨by rw[e],by rw[e],by rw[e]⟩ (h.pick [1,0] (by decide))
 clear k
 have hjb:=hj.bytes
 have h:=h.pick [1,0] (by decide)
 obtain⟨v,h⟩:=vB.open h
 have h:Rel B' w [O1 cp M4 (ccs dp 1 j.c),O1 jp R4 (jcs dp cp v.1 j),kI U2 v.1 (j.list.map ofL),Y5 dp s kv]:=h
 refine h.ask (v := .string (ofL (O7 l))) (fun B2 own base2=>by
  have:=lu0 (base2 hB) (base2 q) (by rw[ZV];omega)
  rw[ZV] at this
  exact this) fun w1 h=>?_
 have hfs:(ofL (O7 l)).size=(O7 l).length:=J_ _
 have hql:(l.map ofL).length=l.length:=List.length_map ..
 simp -zeta only[y5,U0 HY,U0 IY,U0 uH,U0 pR,U0 YL,Nat.zero_add,Nat.add_zero]
 rw[h.ld 1 rfl RB (o:=5) (v := .bool j.broken) rfl,Q5]
 unfold uE at fin
 refine⟨fun c1=>fin ((s,j),7) _ (by rw[if_pos c1]) (vB.close v h),fun c1=>?_⟩
 rw[if_neg (by rw[c1];decide)] at fin
 rw[Q4.len q U6,hql,O6,K3]
 refine⟨fun c2=>fin ((s,j),0) _ (by rw[if_pos (List.eq_nil_of_length_eq_zero (by omega))]) (vB.close v h),fun c2=>?_⟩
 have hne:l≠[]:=fun hh=>c2 (by rw[hh];rfl)
 rw[if_neg hne] at fin
 rw[h.ld 1 rfl F3 (o:=4) (v := .int .i64 j.bytes) rfl,WC C8,hfs,V5,D5 (by omega) (by omega),A_,K3]
 refine⟨fun c3=>fin ((s,j),6) _ (by rw[if_pos c3]) (vB.close v h),fun c3=>?_⟩
 rw[if_neg c3] at fin
 have h:=h.tick
 generalize tick w1=w1 at *
 rw[h.ld 1 rfl o9 (o:=0) (v:=ptr dp) rfl,h.ld 1 rfl F3 (o:=1) (v := .int .i64 0) rfl,h.ld 1 rfl F3 (o:=4) (v := .int .i64 j.bytes) rfl]
 refine h.act 3 rfl (fun B2 own base2=>Jm0 (base2 r) hkl 0 j.bytes (t:=ofL (O7 l)) (by rw[hfs];omega)) fun u2 e' τ w2 hp h=>?_
 obtain⟨rfl,rfl,rfl⟩:=hp
 have hkw:=NG s 0 j.bytes (ofL (O7 l))
 refine Q6 fun J hJ=>?_
 replace hJ:∀w',Rel B' w' [O1 cp M4 (ccs dp 1 j.c),O1 jp R4 (jcs dp cp v.1 j),kI U2 v.1 (j.list.map ofL),Y5 dp (wsJ s j (ofL (O7 l))).1 kv]→(wsJ s j (ofL (O7 l))).1.keep=s.keep→J (.int .i64 (wsJ s j (ofL (O7 l))).2,()) w':=by
  intro w' h hkeep
  refine hJ _ _ ?_
  clear hJ
  generalize wsJ s j (ofL (O7 l))=x at *
  obtain⟨s2,e2⟩:=x
  simp only at h hkeep fin ⊢
  rw[←hkeep] at r hkl
  rw[X7,K5,K3]
  refine⟨fun c4=>?_,fun c4=>?_⟩
  case refine_2 =>
   rw[if_neg c4] at fin
   refine h.st 1 rfl RB (o:=5) (show 5<6 by omega) rfl fun w5 h=>?_
   exact fin ((s2,{ j with broken:=true }),e2) _ rfl (vB.close (j:={ j with broken:=true }) v h)
  rw[if_pos c4] at fin
  clear c4
  have h:=h.tick
  generalize tick w'=w' at *
  have c2r:=kI.read (h.here (i:=2) rfl:(kI U2 v.1 (j.list.map ofL)).here w')
  rw[h.ld 1 rfl F3 (o:=4) (v := .int .i64 j.bytes) rfl,WC C8,hfs,V5,D5 (by omega) (by omega),h.ld 1 rfl J9 (o:=3) (v:=v.1) rfl,Q4.len c2r U6,List.length_map,Q4.len q U6,hql,V5,D5 (by omega) (by omega)]
  clear c2r
  have h:Rel B' w' ([]++[Y5 dp s2 kv,vB dp cp jp j]):=(vB.close v h).pick [1,0] (by decide)
  refine h.uh0 (fun B2 own base2=>ME0 (base2 hT) (base2 hB) (base2 r) hkl (j.bytes+(O7 l).length) (j.list.length+l.length) (by unfold inI;omega) (by unfold inI;omega)) fun u d1 d2 w4 hp h=>?_
  obtain⟨rfl,rfl,rfl⟩:=hp
  rw[X7,K5,K3]
  unfold VX at fin
  have hjl2:(wE s2 j (j.bytes+(O7 l).length) (j.list.length+l.length)).1.2.list=j.list∧(wE s2 j (j.bytes+(O7 l).length) (j.list.length+l.length)).1.2.bytes=j.bytes:=⟨rfl,rfl⟩
  generalize wE s2 j (j.bytes+(O7 l).length) (j.list.length+l.length)=y at *
  obtain⟨⟨s3,j3⟩,e3⟩:=y
  simp only at h fin hjl2 ⊢
  obtain⟨hj3,hj4⟩:=hjl2
  refine⟨fun c4=>?_,fun c4=>?_⟩
  case refine_2 =>
   rw[if_neg c4] at fin
   exact fin ((s3,j3),e3) _ rfl (h.pick [1,0] (by decide))
  rw[if_pos c4] at fin
  have h:Rel B' w4 [vB dp cp jp j3,Y5 dp s3 kv]:=h.pick [1,0] (by decide)
  obtain⟨v3,h⟩:=vB.open h
  have h:Rel B' w4 [O1 cp M4 (ccs dp 1 j3.c),O1 jp R4 (jcs dp cp v3.1 j3),kI U2 v3.1 (j3.list.map ofL),Y5 dp s3 kv]:=h
  have h:=h.tick
  generalize tick w4=w4 at *
  rw[h.ld 1 rfl J9 (o:=3) (v:=v3.1) rfl,h.ld 1 rfl F3 (o:=4) (v := .int .i64 j3.bytes) rfl,WC C8,hfs,hj4,V5,D5 (by omega) (by omega)]
  refine h.Ky0 (α:=ByteArray) 2 rfl U6 q (fun hh=>hne (List.map_eq_nil_iff.1 hh)) (by rw[List.length_map,List.length_map,hj3];omega) (by rw[List.length_map,List.length_map,hj3];omega) fun v4 w5 h=>?_
  have hv4:v4.oneCell'=true:=by
   obtain⟨a,c,rfl⟩:=kI.shape (h.here (i:=2) rfl)
   rfl
  have hls:∀{w':World},Is prog (J5 .len #[U2] Q0 #[false] #[.string (ofL (O7 l))]) (.int .i64 (O7 l).length) w':=fun {w'}=>by
   have:=WC (P:=prog) (w:=w') (K:=fun x=>x = .int .i64 (O7 l).length) (U:=Q0) (bs:=#[false]) (s:=ofL (O7 l)) C8
   rw[hfs] at this
   obtain⟨x,h1,rfl⟩:=this.mpr rfl
   exact h1
  refine⟨hls,h.is 1 rfl F3 (o:=4) (by rw[←hj4];rfl),?_⟩
  refine h.st 1 rfl J9 (o:=3) (show 3<6 by omega) hv4 fun w6 h=>?_
  refine⟨hls,?_⟩
  refine h.st 1 rfl F3 (o:=4) (show 4<6 by omega) rfl fun w7 h=>?_
  rw[←List.map_append,hj3] at h
  exact fin ((s3,{ j3 with list:=j.list++l,bytes:=j.bytes+(O7 l).length }),0) _ rfl (vB.close (j:={ j3 with list:=j.list++l,bytes:=j.bytes+(O7 l).length }) ⟨v4,hv4⟩ h)
 unfold wsJ at hJ
 rw[O6,K3]
 refine⟨fun c4=>?_,fun c4=>?_⟩
 ·rw[if_pos c4] at hJ
  have h:Rel B' w2 [O1 cp M4 (ccs dp 1 j.c),O1 jp R4 (jcs dp cp v.1 j),kI U2 v.1 (j.list.map ofL),Y5 dp (F8 s 0 j.bytes (ofL (O7 l))).1 kv]:=h
  have h:=h.tick
  generalize tick w2=w2 at *
  rw[h.ld 1 rfl o9 (o:=0) (v:=ptr dp) rfl,h.ld 1 rfl F3 (o:=1) (v := .int .i64 0) rfl]
  rw[←hkw] at r hkl
  refine h.act 3 rfl (fun B2 own base2=>Tc0 (base2 r) hkl 0) fun u2 e' τ w3 hp h=>?_
  obtain⟨rfl,rfl,rfl⟩:=hp
  exact hJ _ h ((WA _ _).trans hkw)
 ·rw[if_neg c4] at hJ
  exact hJ _ h hkw
end
theorem Va0(l:List Bs)(n:Nat):(O7 (l.take n)).length≤(O7 l).length:=fF bB l n
theorem dJ(l:List Bs):l.length≤(O7 l).length:=by
 induction l with
 | nil=>exact Nat.le_refl _
 | cons x l ih =>
  show l.length+1≤(bB x++O7 l).length
  rw[List.length_append]
  have:1≤(bB x).length:=by unfold bB;simp only[List.length_append,List.length_cons];omega
  omega
noncomputable def Sl0(s:DS):DS×(Option JP×Int):=if(y7 s 1).2≠0 then((y7 s 1).1,(none,(y7 s 1).2)) else((y7 s 1).1,oV (y7 s 1).1)
noncomputable def IN0:Nat→DS→DS×(Option JP×Int)
 | 0,s=>OL s
 | 1,s=>Sl0 s
 | _,s=>(s,oV s)
theorem fe0{s:DS}{f e:Int}(h:KN s f=(none,e)):e≠0:=by
 unfold KN at h
 split at h
 ·cases h;assumption
 split at h
 ·cases h
 split at h
 ·cases h
 unfold lr0 at h
 split at h
 ·cases h;decide
 split at h
 ·cases h;decide
 split at h
 ·cases h;decide
 split at h
 ·cases h;assumption
 split at h
 ·cases h;decide
 cases h
section
variable {B:Base} {w:World} {σ τ:List Dat} {dp cp jp:Nat} {s:DS} {kv:Value} {j:JP} {K:PtK}
theorem jN0(hT:bR B)(hB:kH B)(r:Q4 kv s.keep B)(hkl:s.keep.length≤1000000)(hj:JOk j)(n:Int) :
  Both prog B (Y5 dp s kv) (vB dp cp jp j) (Z0 MJ #[ptr jp,.int .i64 n]) fun u d1 d2=>u = .int .i64 (aT s j n).2∧d1=Y5 dp (aT s j n).1.1 kv∧d2=vB dp cp jp (aT s j n).1.2:=by
 refine Both.intro fun B' w K base h k=>?_
 replace hT:=base hT
 replace hB:=base hB
 replace r:=base r
 refine PH.up ?_
 unfold PH.pt
 have fin:∀(x:(DS×JP)×Int) w',aT s j n=x→Rel B' w' [vB dp cp jp x.1.2,Y5 dp x.1.1 kv]→K (.int .i64 x.2) w':=fun x w' e h=>k _ (Y5 dp x.1.1 kv) (vB dp cp jp x.1.2) w' ⟨by rw[e],by rw[e],by rw[e]⟩ (h.pick [1,0] (by decide))
 clear k
 have hjb:=hj.bytes
 have hjf:=hj.form
 have hjc:=dJ j.list
 have h:=h.pick [1,0] (by decide)
 obtain⟨v,h⟩:=vB.open h
 have h:Rel B' w [O1 cp M4 (ccs dp 1 j.c),O1 jp R4 (jcs dp cp v.1 j),kI U2 v.1 (j.list.map ofL),Y5 dp s kv]:=h
 have hml:(j.list.map ofL).length=j.list.length:=List.length_map ..
 simp -zeta only[y5,U0 uH,U0 pR,U0 YL,Nat.zero_add,Nat.add_zero]
 rw[h.ld 1 rfl RB (o:=5) (v := .bool j.broken) rfl,Q5]
 unfold aT at fin
 refine⟨fun c1=>fin ((s,j),7) _ (by rw[if_pos c1]) (vB.close v h),fun c1=>?_⟩
 rw[if_neg (by rw[c1];decide)] at fin
 rw[D6,K3]
 refine⟨fun c2=>fin ((s,j),1) _ (by rw[if_pos (.inl c2)]) (vB.close v h),fun c2=>?_⟩
 have c2r:=kI.read (h.here (i:=2) rfl:(kI U2 v.1 (j.list.map ofL)).here w)
 rw[h.ld 1 rfl J9 (o:=3) (v:=v.1) rfl,Q4.len c2r U6,hml,A_,K3]
 refine⟨fun c3=>fin ((s,j),1) _ (by rw[if_pos (.inr c3)]) (vB.close v h),fun c3=>?_⟩
 rw[if_neg (fun hh=>hh.elim c2 c3)] at fin
 rw[h.ld 1 rfl J9 (o:=3) (v:=v.1) rfl,Q4.len c2r U6,hml,O6,K3]
 refine⟨fun c4=>fin ((s,j),0) _ (by rw[if_pos c4]) (vB.close v h),fun c4=>?_⟩
 rw[if_neg c4] at fin
 obtain⟨m,rfl⟩:∃m:Nat,n=m:=⟨n.toNat,by omega⟩
 rw[Int.toNat_natCast] at fin
 rw[h.ld 1 rfl J9 (o:=3) (v:=v.1) rfl]
 have hcut:∀Kp:Value→Prop,M0 prog (d9 K4 v.1 none (some (.int .i64 m)) none) Kp=Kp (cutV 1 v.1 0 m):=fun Kp =>
  Q4.Sh0 (α:=ByteArray) (P:=prog) (lo:=0) (hi:=m) c2r U6 Bnd.none Bnd.some (by omega) (by omega)
 rw[hcut]
 clear c2r hcut
 have hft:=Va0 j.list m
 refine h.ask (v := .string (ofL (O7 (j.list.take m)))) (fun B2 own base2=>by
  have h1:=Q4.qn0 (α:=ByteArray) (lo:=0) (hi:=m) (kI.read (own (i:=2) rfl)) (by omega) (by omega)
  rw[List.drop_zero,←List.map_take] at h1
  have:=lu0 (base2 hB) h1 (by rw[ZV];omega)
  rw[ZV] at this
  exact this) fun w1 h=>?_
 have hfs:(ofL (O7 (j.list.take m))).size=(O7 (j.list.take m)).length:=J_ _
 rw[WC C8,hfs]
 have h:Rel B' w1 ([]++[Y5 dp s kv,vB dp cp jp j]):=(vB.close v h).pick [1,0] (by decide)
 refine h.uh0 (fun B2 own base2=>ME0 (base2 hT) (base2 hB) (base2 r) hkl (O7 (j.list.take m)).length m (by unfold inI;omega) (by unfold inI;omega)) fun u d1 d2 w4 hp h=>?_
 obtain⟨rfl,rfl,rfl⟩:=hp
 rw[X7,K5,K3]
 have hjl2:(wE s j (O7 (j.list.take m)).length m).1.2.list=j.list:=rfl
 generalize wE s j (O7 (j.list.take m)).length m=y at *
 obtain⟨⟨s3,j3⟩,e3⟩:=y
 simp only at h fin hjl2 ⊢
 refine⟨fun c5=>?_,fun c5=>?_⟩
 case refine_2 =>
  rw[if_neg c5] at fin
  exact fin ((s3,j3),e3) _ rfl (h.pick [1,0] (by decide))
 rw[if_pos c5] at fin
 have h:Rel B' w4 [vB dp cp jp j3,Y5 dp s3 kv]:=h.pick [1,0] (by decide)
 obtain⟨v3,h⟩:=vB.open h
 have h:Rel B' w4 [O1 cp M4 (ccs dp 1 j3.c),O1 jp R4 (jcs dp cp v3.1 j3),kI U2 v3.1 (j3.list.map ofL),Y5 dp s3 kv]:=h
 rw[hjl2] at h
 rw[h.ld 1 rfl J9 (o:=3) (v:=v3.1) rfl]
 obtain⟨a,c,ev,hc,_⟩:=kI.cut (n:=m) (h.here (i:=2) rfl:(kI U2 v3.1 (j.list.map ofL)).here w4) (by omega)
 rw[ev,uJ0 (α:=ByteArray) U6 (Nat.le_refl _) (by omega)]
 have h:=h.imp (i:=2) (e:=kI U2 (.slice a m m) ((j.list.take m).map ofL)) rfl fun B hB=>by
  have hB:kI U2 v3.1 (j.list.map ofL) B:=hB
  obtain⟨a',c',ev',_,hcut⟩:=kI.cut (n:=m) hB (by omega)
  rw[ev] at ev'
  cases ev'
  rw[List.map_take]
  exact hcut
 refine h.st 1 rfl J9 (o:=3) (show 3<6 by omega) rfl fun w6 h=>?_
 refine h.st 1 rfl F3 (o:=4) (show 4<6 by omega) rfl fun w7 h=>?_
 exact fin ((s3,{ j3 with list:=j.list.take m,bytes:=(O7 (j.list.take m)).length }),0) _ rfl (vB.close (j:={ j3 with list:=j.list.take m,bytes:=(O7 (j.list.take m)).length }) ⟨.slice a m m,rfl⟩ h)
theorem DI0(hT:bR B)(hW:lC B)(hB:kH B)(r:Q4 kv s.keep B)(hkl:s.keep.length≤1000000) :
  Does prog B (Y5 dp s kv) (Z0 wS #[ptr dp,.int .i64 0]) fun u e' τ=>e'=Y5 dp (OL s).1 kv∧match (OL s).2.1 with
   | some j=>∃cp jp,u = .tuple #[ptr jp,.int .i64 0]∧τ=[vB dp cp jp j]
   | none=>u = .tuple #[.pointer none,.int .i64 (OL s).2.2]∧τ=[]:=by
 refine Does.intro fun B' w K base h k=>?_
 replace hT:=base hT
 replace hB:=base hB
 replace hW:=base hW
 replace r:=base r
 refine FR.up ?_
 unfold FR.pt
 have no:∀(s':DS) (e:Int) w',OL s=(s',(none,e))→Rel B' w' [Y5 dp s' kv]→K (.tuple #[.pointer none,.int .i64 e]) w':=fun s' e w' he h=>k _ _ [] w' (by rw[he];exact⟨rfl,rfl,rfl⟩) h
 have yes:∀(s':DS) (j:JP) (cp jp:Nat) (e:Int) w',OL s=(s',(some j,e))→Rel B' w' [Y5 dp s' kv,vB dp cp jp j]→K (.tuple #[ptr jp,.int .i64 0]) w':=fun s' j cp jp e w' he h=>k _ _ _ w' (by rw[he];exact⟨rfl,cp,jp,rfl,rfl⟩) h
 clear k
 rw[D6,K3]
 refine⟨fun c=>absurd c (by omega),fun _=>?_⟩
 rw[A_,K3]
 refine⟨fun c=>absurd c (by omega),fun _=>?_⟩
 rw[V5,D5 (by omega) (by omega)]
 refine h.XW ([0,1]:List Int) C9 fun v w2 h=>?_
 have h:Rel B' w2 [Y5 dp s kv,V3 Q0 v ([0,1]:List Int)]:=h
 rw[Q4.len (V3.read (h.here (i:=1) rfl)) C9]
 refine M6 (fun z w'=>∃(i:Nat) (si:DS),i≤2∧z=(.int .i64 i,())∧OL s=IN0 i si∧si.keep=s.keep∧Rel B' w' [Y5 dp si kv,V3 Q0 v ([0,1]:List Int)])
  (fun z _=>2-(match z.1 with | .int _ n=>n.toNat | _=>0)) ⟨0,s,Nat.zero_le _,rfl,rfl,rfl,h⟩ ?_
 clear h
 rintro z w3 ⟨i,si,hi,rfl,hop,hk,h⟩ next hnext
 rw[←hk] at r hkl
 rw[hop] at no yes
 rw[D6,K3]
 refine⟨fun hlt=>?_,fun hge=>?_⟩
 ·have hlt:i<2:=by
   have:(i:Int)<(([0,1]:List Int).length:Nat):=hlt
   have e:([0,1]:List Int).length=2:=rfl
   omega
  have hil:i<([0,1]:List Int).length:=hlt
  have hel:([0,1]:List Int)[i]=i:=by
   have:i=0∨i=1:=by omega
   rcases this with rfl | rfl<;>rfl
  obtain⟨g,o,hx,hc⟩:=Q4.idx (V3.read (h.here (i:=1) rfl)) C9 (P:=prog) hil
  rw[hx,F6.ld0 hc F3 (v := .int .i64 ([0,1]:List Int)[i]) rfl,hel]
  clear hx hc
  refine h.act 0 rfl (fun B2 own base2=>Tc0 (base2 r) hkl i) fun u2 e' τ w4 hp h=>?_
  obtain⟨rfl,rfl,rfl⟩:=hp
  have hk2:=WA si i
  have hi01:i=0∨i=1:=by omega
  rw[X7,K5,K3]
  refine⟨fun c=>?_,fun c=>?_⟩
  case refine_2 =>
   refine no (y7 si i).1 (y7 si i).2 _ ?_ (h.take 1)
   rcases hi01 with rfl | rfl
   ·show OL si=_
    unfold OL
    exact if_pos c
   ·show Sl0 si=_
    unfold Sl0
    exact if_pos c
  rw[V5,D5 (by omega) (by omega)]
  refine hnext _ _ ⟨i+1,(y7 si i).1,by omega,rfl,?_,hk2.trans hk,h⟩ (by simp only;omega)
  rw[hop]
  rcases hi01 with rfl | rfl
  ·show OL si=Sl0 (y7 si 0).1
   unfold OL
   exact if_neg (fun hh=>hh c)
  ·show Sl0 si=((y7 si 1).1,oV (y7 si 1).1)
   unfold Sl0
   exact if_neg (fun hh=>hh c)
 have:i=2:=by
  have:¬(i:Int)<(([0,1]:List Int).length:Nat):=hge
  have e:([0,1]:List Int).length=2:=rfl
  omega
 subst this
 clear hnext hge
 have hop2:IN0 2 si=(si,oV si):=rfl
 rw[hop2] at no yes
 replace no:∀(e:Int) w',oV si=(none,e)→Rel B' w' [Y5 dp si kv]→K (.tuple #[.pointer none,.int .i64 e]) w':=fun e w' he h=>no si e w' (by rw[he]) h
 replace yes:∀(j:JP) (cp jp:Nat) w',oV si=(some j,0)→Rel B' w' [Y5 dp si kv,vB dp cp jp j]→K (.tuple #[ptr jp,.int .i64 0]) w':=fun j cp jp w' he h=>yes si j cp jp 0 w' (by rw[he]) h
 rw[V5,D5 (by omega) (by omega)]
 have h:Rel B' w3 [Y5 dp si kv]:=h.take 1
 unfold oV at no yes
 refine h.make (fun B2 own base2=>qw0 (base2 hT) (own (i:=0) rfl) 1) fun u τ w4 hp h=>?_
 rcases hp with⟨c,st,ho,rfl,rfl⟩ | ⟨ho,rfl,rfl⟩
 case inr =>
  cases hq:KN si 1 with
  | mk a e =>
   rw[hq] at ho
   simp only at ho
   subst ho
   rw[hq] at no
   simp only at no
   rw[h_,Y9,X7,K5,K3]
   refine⟨fun c=>?_,fun _=>?_⟩
   ·exact absurd c (fe0 hq)
   ·exact no e _ rfl (h.take 1)
 rw[ho] at no yes
 simp only at no yes
 rw[h_,Y9,X7,K5,K3]
 refine⟨fun _=>?_,fun c=>absurd rfl c⟩
 have hsz:=bm0 ho
 have h:Rel B' w4 [Y5 dp si kv,O1 c M4 (ccs dp 1 st)]:=h
 refine h.ask (fun B2 own base2=>zA0 (base2 hW) (st:=st) (by omega) (own (i:=1) rfl)) fun w5 h=>?_
 unfold gj0 at no yes
 have hdk:DOk si:=(Y5.ok (h.here (i:=0) rfl)).1
 generalize tF st=ns at *
 obtain⟨⟨b,n⟩,ok⟩:=ns
 simp only at no yes ⊢
 rw[PV,Kg0,Lg0,V8,K5,Q5]
 refine⟨fun c1=>?_,fun c1=>no 2 _ (by rw[if_pos c1]) (h.take 1)⟩
 rw[if_neg (by rw[c1];decide)] at no yes
 refine h.ask (fun B2 own base2=>Ws0 (own (i:=0) rfl) 0 0 b) fun w6 h=>?_
 have hrf:=tj0 hdk 0 0 b
 generalize GD si 0 0 b=rd at *
 obtain⟨x,e⟩:=rd
 simp only at no yes hrf ⊢
 rw[h_,Y9,X7,K5,K3]
 refine⟨fun c2=>?_,fun c2=>no e _ (by rw[if_pos c2]) (h.take 1)⟩
 rw[if_neg (fun hh=>hh c2)] at no yes
 refine h.make (fun B2 own base2=>YI0 (base2 hW) (base2 hB) hrf n) fun u τ w7 hp h=>?_
 obtain⟨v7,rfl,rfl⟩:=hp
 generalize wT (bl x) n=q at *
 obtain⟨l,okq⟩:=q
 simp only at no yes h ⊢
 rw[h_,Y9,V8,K5,Q5]
 refine⟨fun c3=>?_,fun c3=>no 2 _ (by rw[if_pos c3]) (h.take 1)⟩
 rw[if_neg (by rw[c3];decide)] at no yes
 rw[WC C8,X7,K5,K3]
 refine⟨fun c4=>?_,fun c4=>no 2 _ (by rw[if_pos c4]) (h.take 1)⟩
 rw[if_neg (fun hh=>hh c4)] at yes
 have h:Rel B' w7 [Y5 dp si kv,O1 c M4 (ccs dp 1 st),V3 U2 v7 (l.map ofL)]:=h
 obtain⟨x0,n0,c0,rfl⟩:=FX h 2 rfl
 rw[YQ]
 refine h.box fun jp w8 h=>?_
 have h:Rel B' w8 [Y5 dp si kv,O1 c M4 (ccs dp 1 st),V3 U2 (.slice x0 n0 c0) (l.map ofL),O1 jp R4 (jcs dp c (.slice x0 n0 c0) ⟨l,b,false,st⟩)]:=h
 have h:=h.imp (i:=2) (e:=kI U2 (.slice x0 n0 c0) (l.map ofL)) rfl fun B hB=>kI.of hB
 refine yes ⟨l,b,false,st⟩ c jp _ rfl ?_
 have h:Rel B' w8 (aE0 dp c jp ⟨l,b,false,st⟩ ⟨.slice x0 n0 c0,rfl⟩++[Y5 dp si kv]):=h.pick [1,3,2,0] (by decide)
 exact(vB.close _ h).pick [1,0] (by decide)
end
end Go.Proofs.YtngbebnhegcokaaGreatDoor
