/-
  Part 5 of the proof that TopLogs holds, for the parts that follow; made small by program out of longer texts. No condition.
-/
import Derived.Test.YtngbebnhegcokaaGreatDoorMbD
set_option linter.all false
namespace Go.Proofs.YtngbebnhegcokaaGreatDoor
open Go.Proofs.Tryz (prog)
open Go.RowKit
set_option maxRecDepth 100000
abbrev KT:=aL
structure zI where
 fl:List KT
 sp:Int
 deriving DecidableEq
def ge0:KT:=⟨0,0,⟨#[]⟩⟩
def bV(a:Int):Bool:=decide (0≤a)&&decide (a<16)
def By0(sp a:Int):Int:=IntKind.wrap .i64 (BitVec.ofInt 64 (sp.fdiv (2 ^ min a.toNat 64)) &&& BitVec.ofInt 64 1).toNat
def cb0(s:zI)(a b:Int):Bool:=bV a&&(bV b&&decide (By0 s.sp a=By0 s.sp b))
def jU(s:zI)(p:KT):Int×zI :=
 if bV p.from_=true∧bV p.to_=true∧p.from_≠p.to_ then
  if cb0 s p.from_ p.to_=true then
   if s.fl.length<500 then(0,{ s with fl:=s.fl++[p] }) else(6,s)
  else(10,s)
 else(1,s)
def rmS(s:zI)(i:Nat):zI:={ s with fl:=s.fl.take i++s.fl.drop (i+1) }
def atS(s:zI)(i:Int):Option (Nat×KT):=if 0≤i then(s.fl[i.toNat]?).map fun p=>(i.toNat,p) else none
def M9(s:zI)(i:Int):(KT×Int)×zI :=
 match atS s i with
 | some (n,p)=>if cb0 s p.from_ p.to_=true then((p,0),rmS s n) else((ge0,10),rmS s n)
 | none=>((ge0,4),s)
def Fa0(s:zI)(i:Int):Int×zI:=match atS s i with | some (n,_)=>(0,rmS s n) | none=>(4,s)
def sO(s:zI)(i:Int):Int×zI:=match atS s i with | some (_,p)=>if s.fl.length<500 then(0,{ s with fl:=s.fl++[p] }) else(6,s) | none=>(4,s)
def Yw0(m:Int):Int:=IntKind.wrap .i64 (BitVec.ofInt 64 m &&& BitVec.ofInt 64 65535).toNat
theorem ta0{s:zI}{i:Int}{n:Nat}{p:KT}(h:atS s i=some (n,p)):i=n∧∃hn:n<s.fl.length,s.fl[n]=p:=by
 unfold atS at h
 split at h
 ·rename_i c
  cases hq:s.fl[i.toNat]? with
  | none=>rw[hq] at h;cases h
  | some q =>
   rw[hq] at h
   simp only[Option.map_some,Option.some.injEq,Prod.mk.injEq] at h
   obtain⟨rfl,rfl⟩:=h
   obtain⟨h1,h2⟩:=List.getElem?_eq_some_iff.1 hq
   exact⟨by omega,h1,h2⟩
 ·cases h
theorem qC0{s:zI}{n:Nat}(hn:n<s.fl.length):atS s n=some (n,s.fl[n]):=by
 unfold atS
 rw[if_pos (by omega),Int.toNat_natCast,List.getElem?_eq_getElem hn]
 rfl
theorem bw0{s:zI}{i:Int}(h:i<0):atS s i=none:=by
 unfold atS
 rw[if_neg (by omega)]
theorem cw0{s:zI}{i:Int}(h:(s.fl.length:Int)≤i):atS s i=none:=by
 unfold atS
 rw[if_pos (by omega),List.getElem?_eq_none (by omega)]
 rfl
theorem aB0{s:zI}{p:KT}(h:s.fl.length≤500):(jU s p).2.fl.length≤500:=by
 unfold jU
 split
 ·split
  ·split
   ·show (s.fl++[p]).length≤500
    rw[List.length_append]
    show s.fl.length+1≤500
    omega
   ·exact h
  ·exact h
 ·exact h
theorem iJ0{s:zI}{n:Nat}(h:s.fl.length≤500):(rmS s n).fl.length≤500:=by
 unfold rmS
 rw[List.length_append,List.length_take,List.length_drop]
 omega
theorem Zp0{s:zI}{i:Int}(h:s.fl.length≤500):(sO s i).2.fl.length≤500:=by
 unfold sO
 split
 ·split
  ·rename_i p _ _
   show (s.fl++[p]).length≤500
   rw[List.length_append]
   show s.fl.length+1≤500
   omega
  ·exact h
 ·exact h
abbrev ncs(v:Value)(sp:Int):Array Value:=#[v,.int .i64 sp]
def eM0(p:Nat)(s:zI)(v:SV):List Dat:=[O1 p y9 (ncs v.1 s.sp),V3 U4 v.1 s.fl]
def XA(p:Nat)(s:zI):Dat:=Dat.ex fun v:SV=>eD (eM0 p s v)
section
variable {B:Base} {w:World} {σ τ:List Dat} {p:Nat} {s:zI} {K:PtK}
theorem XA.open(h:Rel B w (XA p s :: τ)):∃v,Rel B w (eM0 p s v++τ):=by
 obtain⟨v,h⟩:=h.ex (i:=0) rfl
 exact⟨v,Rel.BQ h⟩
theorem XA.close(v:SV)(h:Rel B w (eM0 p s v++τ)):Rel B w (XA p s :: τ) :=
 (Rel.QJ h).imp (i:=0) (e:=XA p s) rfl fun B hB=>⟨v,hB⟩
theorem XA.FO(h:XA p s B):∃v:SV,O1 p y9 (ncs v.1 s.sp) B∧Q4 v.1 s.fl B:=by
 obtain⟨v,h⟩:=h
 exact⟨v,eD.get (j:=0) h rfl,V3.read (eD.get (j:=1) h rfl)⟩
theorem bF0{v:Value}{l:List KT}(hl:l.length≤1000000){i:Nat}(hi:i<l.length):Does prog B (V3 U4 v l) (Z0 ZA #[v,.int .i64 i,.int .i64 ((i:Int)+1)]) fun u e' τ=>e'=V3 U4 u (l.take i++l.drop (i+1))∧τ=[]:=by
 refine Does.intro fun B' w K base h k=>?_
 obtain⟨c,h⟩:=h
 have hr:nC c 1 w U4 v l:=V3.own (h.own 0 _ rfl)
 replace k:∀c' v' w',Step (only 1) c w c' w'→nC c' 1 w' U4 v' (l.take i++l.drop (i+1))→K v' w':=fun c' v' w' st hr=>k _ _ [] w' ⟨rfl,rfl⟩ ⟨c',h.step (i:=0) rfl st hr.V3⟩
 clear h base
 rw[show ((i:Int)+1)=((i+1:Nat):Int) from rfl]
 generalize hj:i+1=j at k
 replace hj:i<j∧j≤l.length:=by omega
 obtain⟨hij,hj⟩:=hj
 refine R_.up ?_
 unfold R_.pt
 have hne:¬((i:Int)=(j:Int)):=by omega
 have szP:Enc.sz KT=3:=rfl
 rcases hr.cases with⟨rfl,rfl⟩ | ⟨g,cap,cur,rfl,hb,hc,hm,hs,htk⟩
 ·simp at hj;omega
 ·simp only[Od0 UW,slice3 (α:=KT) E9 (show i≤j by omega) hj hc,O6,hne,decide_false,t_]
  obtain⟨v2,hv2,hr2⟩:=hr.read.cut E9 (lov:=some (.int .i64 j)) (hiv:=none) Bnd.some Bnd.none hj (Nat.le_refl _)
  rw[List.take_length] at hr2
  have e1:∀{Kp:Value→Prop},M0 prog (d9 I5 (.slice (some ⟨g,0,none⟩) l.length cap) none (some (.int .i64 i)) none) Kp=Kp (.slice (some ⟨g,0,none⟩) i cap):=fun {Kp} =>
   V4 fun w=>by
    have:=QN (α:=KT) (P:=prog) (a:=some ⟨g,0,none⟩) (len:=l.length) (cap:=cap) (lo:=0) (hi:=i) (lov:=none) (hiv:=some (.int .i64 i)) E9 Bnd.none Bnd.some (Nat.zero_le _) (by omega) w
    rw[this]
    simp [addr_add]
  simp only[e1,hv2]
  have hld:(l.drop j).length=l.length-j:=by simp
  refine Te0 E9 hb.tick hr2.tick (n:=i) (by omega) hs fun w1 st1 hb1=>?_
  have e2:∀{Kp:Value→Prop},M0 prog (d9 I5 (.slice (some ⟨g,0,none⟩) (i+(l.drop j).length) cap) (some (.int .i64 ((i+(l.drop j).length:Nat):Int))) (some (.int .i64 (l.length:Int))) none) Kp=Kp (.slice (some ⟨g,(i+(l.drop j).length) * 3,none⟩) (l.length-(i+(l.drop j).length)) (cap-(i+(l.drop j).length))):=fun {Kp} =>
   V4 fun w=>by
    have:=QN (α:=KT) (P:=prog) (a:=some ⟨g,0,none⟩) (len:=i+(l.drop j).length) (cap:=cap) (lo:=i+(l.drop j).length) (hi:=l.length) E9 Bnd.some Bnd.some (by omega) hc w
    rw[this,if_neg (by omega)]
    simp [addr_add]
    rfl
  simp only[Od0 UW,e2]
  have hlen:((cur.toList.take (i * Enc.sz KT)++flat (l.drop j)++cur.toList.drop ((i+(l.drop j).length) * Enc.sz KT)).toArray).size=cap * 3:=by
   simp only[List.size_toArray,List.length_append,List.length_take,List.length_drop,Array.length_toList,M7,hs,szP]
   omega
  refine cl0 E9 hb1 (by rw[hlen];show _≤cap * 3;try rw[szP];omega) fun w2 cur2 st2 hb2 hs2 ht2=>?_
  refine k c _ w2 ((Step.tick _ c w).trans (st1.trans st2)) (nC.mk_ hb2 (by simp;omega) (by omega) hm (by rw[hs2,hlen];rfl) ?_)
  rw[show (i+(l.drop j).length) * Enc.sz KT=(i+(l.drop j).length) * 3 from rfl,ht2,sF,←wF,←htk,List.take_take]
  rw[Nat.min_eq_left (Nat.mul_le_mul_right _ (by omega))]
  exact List.take_left' (by simp only[List.length_append,List.length_take,Array.length_toList,M7,hs,szP];omega)
theorem CE0:Makes prog B (Z0 Qc0 #[]) fun u τ=>∃p,u=ptr p∧τ=[XA p ⟨[],0⟩]:=by
 refine Makes.intro fun B' w K base h k=>?_
 refine Sg0.up ?_
 unfold Sg0.pt
 rw[wp0]
 refine h.box fun b w1 h=>?_
 have h:=h.oG KT U4
 exact k _ _ _ ⟨b,rfl,rfl⟩ (XA.close (s:=⟨[],0⟩) (τ:=[]) ⟨.slice none 0 0,rfl⟩ h)
theorem Dw0(a:Int):Gives prog B (Z0 kS #[.int .i64 a]) (.bool (bV a)):=by
 refine Gives.intro fun B' w K base h k=>?_
 refine Ug0.up ?_
 unfold Ug0.pt bV at *
 rw[LD,K3]
 refine⟨fun c=>?_,fun c=>?_⟩
 ·rw[D6]
  rw[decide_eq_true (p:=0≤a) (by omega),Bool.true_and] at k
  exact k _ _ h
 ·rw[decide_eq_false (p:=0≤a) (by omega),Bool.false_and] at k
  exact k _ _ h
theorem OD0(hs:XA p s B)(x y:Int):Gives prog B (Z0 bO #[ptr p,.int .i64 x,.int .i64 y]) (.bool (cb0 s x y)):=by
 refine Gives.intro fun B' w K base h k=>?_
 replace hs:=base hs
 obtain⟨v,c0,c1⟩:=XA.FO hs
 refine PR.up ?_
 unfold PR.pt
 have h:=h.tick
 generalize tick w=w at *
 refine h.ask (fun B2 own base2=>Dw0 x) fun w1 h=>?_
 unfold cb0 at k
 rw[Q5]
 refine⟨fun hx=>?_,fun hx=>?_⟩
 case refine_2=>rw[hx,Bool.false_and] at k;exact k _ _ h
 refine h.ask (fun B2 own base2=>Dw0 y) fun w2 h=>?_
 rw[Q5]
 refine⟨fun hy=>?_,fun hy=>?_⟩
 case refine_2=>rw[hy,Bool.false_and,Bool.and_false] at k;exact k _ _ h
 rw[hx,hy,Bool.true_and,Bool.true_and] at k
 have hx0:0≤x:=by simp [bV] at hx;exact hx.1
 have hy0:0≤y:=by simp [bV] at hy;exact hy.1
 simp -zeta only[y5,U0 nX,Nat.zero_add]
 rw[O1.ld (h.K6 c0) F3 (o:=1) (v := .int .i64 s.sp) rfl,wg0 hx0,wa0,O1.ld (h.K6 c0) F3 (o:=1) (v := .int .i64 s.sp) rfl,wg0 hy0,wa0,O6]
 exact k _ _ h
theorem wM0(hl:s.fl.length≤500)(f t:Int)(b:ByteArray):Does prog B (XA p s) (Z0 BS #[ptr p,.int .i64 f,.int .i64 t,.string b]) fun u e' τ=>u = .int .i64 (jU s ⟨f,t,b⟩).1∧e'=XA p (jU s ⟨f,t,b⟩).2∧τ=[]:=by
 refine Does.intro fun B' w K base h k=>?_
 refine QR.up ?_
 unfold QR.pt
 unfold jU at k
 simp only at k
 have no:¬(bV f=true∧bV t=true∧f≠t)→∀w',Rel B' w' [XA p s]→K (.int .i64 1) w':=fun c w' h=>k _ _ [] _ (by rw[if_neg c];exact⟨rfl,rfl,rfl⟩) h
 refine h.ask (fun B2 own base2=>Dw0 f) fun w1 h=>?_
 rw[V8,K5,Q5]
 refine⟨fun c1=>?_,fun c1=>no (fun hh=>by rw[hh.1] at c1;cases c1) _ h⟩
 refine h.ask (fun B2 own base2=>Dw0 t) fun w2 h=>?_
 rw[V8,K5,Q5]
 refine⟨fun c2=>?_,fun c2=>no (fun hh=>by rw[hh.2.1] at c2;cases c2) _ h⟩
 rw[O6,K3]
 refine⟨fun c3=>no (fun hh=>hh.2.2 c3) _ h,fun c3=>?_⟩
 rw[if_pos ⟨c1,c2,c3⟩] at k
 refine h.ask (fun B2 own base2=>OD0 (own (i:=0) rfl) f t) fun w3 h=>?_
 rw[V8,K5,Q5]
 refine⟨fun c4=>?_,fun c4=>?_⟩
 case refine_2=>rw[if_neg (by rw[c4];decide)] at k;exact k _ _ [] _ ⟨rfl,rfl,rfl⟩ h
 rw[if_pos c4] at k
 obtain⟨v,h⟩:=XA.open h
 have h:Rel B' w3 [O1 p y9 (ncs v.1 s.sp),V3 U4 v.1 s.fl]:=h
 simp -zeta only[y5,U0 aU,Nat.zero_add]
 rw[h.ld 0 rfl j_ (o:=0) (v:=v.1) rfl,Q4.len (V3.read (h.here (i:=1) rfl)) E9,LD,K3]
 refine⟨fun c5=>?_,fun c5=>?_⟩
 ·rw[if_neg (by omega)] at k
  exact k _ _ [] _ ⟨rfl,rfl,rfl⟩ (XA.close v h)
 rw[if_pos (by omega)] at k
 rw[h.ld 0 rfl j_ (o:=0) (v:=v.1) rfl,FY]
 refine h.Df0 (α:=KT) 1 rfl ⟨f,t,b⟩ E9 (by decide) (by omega) (by omega) fun v' w5 h=>?_
 have hv1:v'.oneCell'=true:=h.oneCell (i:=1) rfl
 refine h.st 0 rfl j_ (o:=0) (show 0<2 by omega) hv1 fun w6 h=>?_
 exact k _ _ [] _ ⟨rfl,rfl,rfl⟩ (XA.close (s:={ s with fl:=s.fl++[⟨f,t,b⟩] }) ⟨v',hv1⟩ h)
theorem eH0(hs:XA p s B):Gives prog B (Z0 QQ #[ptr p]) (.int .i64 s.fl.length):=by
 refine Gives.intro fun B' w K base h k=>?_
 replace hs:=base hs
 obtain⟨v,c0,c1⟩:=XA.FO hs
 refine gQ.up ?_
 unfold gQ.pt
 simp -zeta only[y5,U0 aU,Nat.zero_add]
 rw[O1.ld (h.K6 c0) j_ (o:=0) (v:=v.1) rfl,Q4.len c1 E9]
 exact k _ _ h
theorem yJ0(m:Int):Does prog B (XA p s) (Z0 RQ #[ptr p,.int .i64 m]) fun _ e' τ=>e'=XA p { s with sp:=Yw0 m }∧τ=[]:=by
 refine Does.intro fun B' w K base h k=>?_
 refine iQ.up ?_
 unfold iQ.pt
 obtain⟨v,h⟩:=XA.open h
 have h:Rel B' w [O1 p y9 (ncs v.1 s.sp),V3 U4 v.1 s.fl]:=h
 simp -zeta only[y5,U0 nX,Nat.zero_add]
 rw[wa0]
 refine h.st 0 rfl F3 (o:=1) (show 1<2 by omega) rfl fun w6 h=>?_
 exact k _ _ [] _ ⟨rfl,rfl⟩ (XA.close (s:={ s with sp:=Yw0 m }) v h)
theorem RL0:Does prog B (XA p s) (Z0 zS #[ptr p]) fun _ e' τ=>e'=XA p { s with sp:=0 }∧τ=[]:=by
 refine Does.intro fun B' w K base h k=>?_
 refine NR.up ?_
 unfold NR.pt
 obtain⟨v,h⟩:=XA.open h
 have h:Rel B' w [O1 p y9 (ncs v.1 s.sp),V3 U4 v.1 s.fl]:=h
 simp -zeta only[y5,U0 nX,Nat.zero_add]
 refine h.st 0 rfl F3 (o:=1) (show 1<2 by omega) rfl fun w6 h=>?_
 exact k _ _ [] _ ⟨rfl,rfl⟩ (XA.close (s:={ s with sp:=0 }) v h)
theorem YC0(hl:s.fl.length≤500)(i:Int):Does prog B (XA p s) (Z0 iP #[ptr p,.int .i64 i]) fun u e' τ=>u = .int .i64 (sO s i).1∧e'=XA p (sO s i).2∧τ=[]:=by
 refine Does.intro fun B' w K base h k=>?_
 refine EO.up ?_
 unfold EO.pt
 unfold sO at k
 rw[D6,K3]
 refine⟨fun c1=>?_,fun c1=>?_⟩
 ·rw[bw0 c1] at k
  exact k _ _ [] _ ⟨rfl,rfl,rfl⟩ h
 obtain⟨v,h⟩:=XA.open h
 have h:Rel B' w [O1 p y9 (ncs v.1 s.sp),V3 U4 v.1 s.fl]:=h
 simp -zeta only[y5,U0 aU,Nat.zero_add]
 rw[h.ld 0 rfl j_ (o:=0) (v:=v.1) rfl,Q4.len (V3.read (h.here (i:=1) rfl)) E9,LD,K3]
 refine⟨fun c2=>?_,fun c2=>?_⟩
 ·rw[cw0 (by omega)] at k
  exact k _ _ [] _ ⟨rfl,rfl,rfl⟩ (XA.close v h)
 obtain⟨n,rfl⟩:∃n:Nat,i=n:=⟨i.toNat,by omega⟩
 have hn:n<s.fl.length:=by omega
 rw[qC0 hn] at k
 simp only at k
 rw[h.ld 0 rfl j_ (o:=0) (v:=v.1) rfl,Q4.len (V3.read (h.here (i:=1) rfl)) E9,LD,K3]
 refine⟨fun c3=>?_,fun c3=>?_⟩
 ·rw[if_neg (by omega)] at k
  exact k _ _ [] _ ⟨rfl,rfl,rfl⟩ (XA.close v h)
 rw[if_pos (by omega)] at k
 have h:=h.tick
 generalize tick w=w at *
 rw[h.ld 0 rfl j_ (o:=0) (v:=v.1) rfl,h.ld 0 rfl j_ (o:=0) (v:=v.1) rfl]
 obtain⟨g,og,hx,hc⟩:=Q4.idx (V3.read (h.here (i:=1) rfl)) E9 (P:=prog) hn
 rw[hx,F6.Q9 (xs:=s.fl[n].cs) hc Z8 rfl]
 refine h.bH (α:=KT) s.fl[n] E9 (by decide) fun v1 w3 h=>?_
 refine⟨h.is 0 rfl j_ (o:=0) rfl,?_⟩
 refine h.append (α:=KT) 1 rfl E9 (Rd.at 2 rfl) (show (s.fl.length+1) * _≤_ by omega) (show s.fl.length+1≤_ by omega) fun v2 w4 h=>?_
 have hv2:v2.oneCell'=true:=h.oneCell (i:=1) rfl
 refine h.st 0 rfl j_ (o:=0) (show 0<2 by omega) hv2 fun w5 h=>?_
 exact k _ _ [] _ ⟨rfl,rfl,rfl⟩ (XA.close (s:={ s with fl:=s.fl++[s.fl[n]] }) ⟨v2,hv2⟩ (h.take 2))
theorem Zw0(hl:s.fl.length≤500)(i:Int):Does prog B (XA p s) (Z0 cO #[ptr p,.int .i64 i]) fun u e' τ=>τ=[]∧(match atS s i with | some (n,q)=>u = .tuple #[.agg q.cs.toArray,.bool true]∧e'=XA p (rmS s n) | none=>u = .tuple #[.agg ge0.cs.toArray,.bool false]∧e'=XA p s):=by
 refine Does.intro fun B' w K base h k=>?_
 refine TR.up ?_
 unfold TR.pt
 obtain⟨v,h⟩:=XA.open h
 have h:Rel B' w [O1 p y9 (ncs v.1 s.sp),V3 U4 v.1 s.fl]:=h
 refine h.alloc VG fun t w1 h=>?_
 have h:Rel B' w1 [O1 p y9 (ncs v.1 s.sp),V3 U4 v.1 s.fl,O1 t U4 ge0.cs.toArray]:=h
 have no:atS s i=none→∀w',Rel B' w' [O1 p y9 (ncs v.1 s.sp),V3 U4 v.1 s.fl,O1 t U4 ge0.cs.toArray] →
   M0 prog (G6 U4 #[]) fun t18=>upK prog (F4 U4 (.pointer (some ⟨t,0,none⟩)) t18) w' fun _ w2=>S9 prog (do loadVar U4 (←asAddr (.pointer (some ⟨t,0,none⟩)))) w2 fun t4=>K (.tuple #[t4,(.bool false)]) w2:=by
  intro c w' h
  rw[c] at k
  rw[TS]
  refine h.xI 2 rfl Z8 rfl rfl (fun x hx=>Enc.one ge0 x hx) fun w8 h=>?_
  rw[CJ h 2 rfl Z8 rfl]
  exact k _ _ [] _ ⟨rfl,rfl,rfl⟩ (XA.close v (h.take 2))
 rw[D6,K3]
 refine⟨fun c1=>no (bw0 c1) _ h,fun c1=>?_⟩
 simp -zeta only[y5,U0 aU,Nat.zero_add]
 rw[h.ld 0 rfl j_ (o:=0) (v:=v.1) rfl,Q4.len (V3.read (h.here (i:=1) rfl)) E9,LD,K3]
 refine⟨fun c2=>no (cw0 (by omega)) _ h,fun c2=>?_⟩
 clear no
 obtain⟨n,rfl⟩:∃n:Nat,i=n:=⟨i.toNat,by omega⟩
 have hn:n<s.fl.length:=by omega
 rw[qC0 hn] at k
 rw[h.ld 0 rfl j_ (o:=0) (v:=v.1) rfl]
 obtain⟨g,og,hx,hc⟩:=Q4.idx (V3.read (h.here (i:=1) rfl)) E9 (P:=prog) hn
 rw[hx,F6.Q9 (xs:=s.fl[n].cs) hc Z8 rfl]
 clear hx hc
 generalize s.fl[n]=q at *
 refine h.r9 (ds:=q.cs.toArray) VG rfl Z8 rfl (fun x hx=>Enc.one q x hx) fun b w4 h=>?_
 rw[h.ld 0 rfl j_ (o:=0) (v:=v.1) rfl,V5,D5 (by omega) (by omega)]
 refine h.act 1 rfl (fun B2 own base2=>bF0 (by omega) hn) fun u e' τ w5 hp h=>?_
 obtain⟨rfl,rfl⟩:=hp
 have hu:u.oneCell'=true:=h.oneCell (i:=1) rfl
 refine h.st 0 rfl j_ (o:=0) (show 0<2 by omega) hu fun w6 h=>?_
 rw[h.Q9 3 rfl Z8 rfl]
 refine h.xI 2 rfl Z8 rfl rfl (fun x hx=>Enc.one q x hx) fun w8 h=>?_
 rw[CJ h 2 rfl Z8 rfl]
 exact k _ _ [] _ ⟨rfl,rfl,rfl⟩ (XA.close (s:=rmS s n) ⟨u,hu⟩ (h.take 2))
theorem Ry0(hl:s.fl.length≤500)(i:Int):Does prog B (XA p s) (Z0 aO #[ptr p,.int .i64 i]) fun u e' τ=>u = .tuple #[.agg (M9 s i).1.1.cs.toArray,.int .i64 (M9 s i).1.2]∧e'=XA p (M9 s i).2∧τ=[]:=by
 refine Does.intro fun B' w K base h k=>?_
 refine PM.up ?_
 unfold PM.pt
 unfold M9 at k
 refine h.alloc VG fun t w1 h=>?_
 have h:Rel B' w1 [XA p s,O1 t U4 ge0.cs.toArray]:=h
 refine h.act 0 rfl (fun B2 own base2=>Zw0 hl i) fun u e' τ w2 hp h=>?_
 obtain⟨rfl,hp⟩:=hp
 cases ha:atS s i with
 | none =>
  rw[ha] at hp k
  obtain⟨rfl,rfl⟩:=hp
  rw[h_,Y9]
  refine h.r9 (ds:=ge0.cs.toArray) VG rfl Z8 rfl (fun x hx=>Enc.one ge0 x hx) fun b w4 h=>?_
  rw[V8,K5,Q5]
  refine⟨(fun c=>by cases c),fun _=>?_⟩
  rw[TS]
  refine h.xI 1 rfl Z8 rfl rfl (fun x hx=>Enc.one ge0 x hx) fun w8 h=>?_
  rw[CJ h 1 rfl Z8 rfl]
  exact k _ _ [] _ ⟨rfl,rfl,rfl⟩ (h.take 1)
 | some nq =>
  obtain⟨n,q⟩:=nq
  rw[ha] at hp k
  obtain⟨rfl,rfl⟩:=hp
  simp only at k
  rw[h_,Y9]
  refine h.r9 (ds:=q.cs.toArray) VG rfl Z8 rfl (fun x hx=>Enc.one q x hx) fun b w4 h=>?_
  rw[V8,K5,Q5]
  refine⟨fun _=>?_,fun c=>by cases c⟩
  simp -zeta only[U0 gi0,U0 lX,Nat.zero_add]
  rw[h.ld 2 rfl F3 (o:=0) (v := .int .i64 q.from_) rfl,h.ld 2 rfl F3 (o:=1) (v := .int .i64 q.to_) rfl]
  have e:cb0 (rmS s n) q.from_ q.to_=cb0 s q.from_ q.to_:=rfl
  refine h.ask (fun B2 own base2=>OD0 (own (i:=0) rfl) q.from_ q.to_) fun w5 h=>?_
  rw[e,V8,K5,Q5]
  refine⟨fun c=>?_,fun c=>?_⟩
  ·rw[if_pos c] at k
   rw[h.Q9 2 rfl Z8 rfl]
   refine h.xI 1 rfl Z8 rfl rfl (fun x hx=>Enc.one q x hx) fun w8 h=>?_
   rw[CJ h 1 rfl Z8 rfl]
   exact k _ _ [] _ ⟨rfl,rfl,rfl⟩ (h.take 1)
  ·rw[if_neg (by rw[c];decide)] at k
   rw[TS]
   refine h.xI 1 rfl Z8 rfl rfl (fun x hx=>Enc.one ge0 x hx) fun w8 h=>?_
   rw[CJ h 1 rfl Z8 rfl]
   exact k _ _ [] _ ⟨rfl,rfl,rfl⟩ (h.take 1)
theorem mH0(hl:s.fl.length≤500)(i:Int):Does prog B (XA p s) (Z0 yS #[ptr p,.int .i64 i]) fun u e' τ=>u = .int .i64 (Fa0 s i).1∧e'=XA p (Fa0 s i).2∧τ=[]:=by
 refine Does.intro fun B' w K base h k=>?_
 refine MR.up ?_
 unfold MR.pt
 unfold Fa0 at k
 refine h.act 0 rfl (fun B2 own base2=>Zw0 hl i) fun u e' τ w2 hp h=>?_
 obtain⟨rfl,hp⟩:=hp
 cases ha:atS s i with
 | none =>
  rw[ha] at hp k
  obtain⟨rfl,rfl⟩:=hp
  rw[h_,Y9]
  refine h.r9 (ds:=ge0.cs.toArray) VG rfl Z8 rfl (fun x hx=>Enc.one ge0 x hx) fun b w4 h=>?_
  rw[V8,K5,Q5]
  refine⟨(fun c=>by cases c),fun _=>?_⟩
  exact k _ _ [] _ ⟨rfl,rfl,rfl⟩ (h.take 1)
 | some nq =>
  obtain⟨n,q⟩:=nq
  rw[ha] at hp k
  obtain⟨rfl,rfl⟩:=hp
  rw[h_,Y9]
  refine h.r9 (ds:=q.cs.toArray) VG rfl Z8 rfl (fun x hx=>Enc.one q x hx) fun b w4 h=>?_
  rw[V8,K5,Q5]
  refine⟨fun _=>?_,fun c=>by cases c⟩
  exact k _ _ [] _ ⟨rfl,rfl,rfl⟩ (h.take 1)
end
noncomputable def mW(s:Bs):J7:=if UT (SA (GA ⟨s,false⟩).2).2=true then⟨(GA ⟨s,false⟩).1,ofL (SA (GA ⟨s,false⟩).2).1⟩ else⟨0,⟨#[]⟩⟩
noncomputable def Pw0(s:RS):EB:=⟨(GA s).1,(GA (GA s).2).1⟩
noncomputable def IW(c:CS):EB:=if 0<c.slot then Pw0 ⟨bl c.value,false⟩ else⟨0,-1⟩
theorem nF0{x:J7}(hx:iN x):mW (A7 x)=x:=by
 have l3:=hx.data
 have e1:GA ⟨A7 x,false⟩=(x.term,⟨bB (bl x.data),false⟩):=uI hx.term _ false
 have e2:SA ⟨bB (bl x.data),false⟩=(bl x.data,⟨[],false⟩):=by
  have:=RN (t:=bl x.data) (by rw[jO];omega) []
  rw[List.append_nil] at this
  exact this
 unfold mW
 rw[e1]
 simp only
 rw[e2]
 simp only
 rw[if_pos (by rfl),QM]
theorem zq0{b n:Int}(hb:inI b)(hn:inI n):Pw0 ⟨encI b++encI n,false⟩=⟨b,n⟩:=by
 unfold Pw0
 rw[uI hb]
 simp only
 have:=uI hn [] false
 rw[List.append_nil] at this
 rw[this]
section
variable {B:Base} {w:World} {σ τ:List Dat} {K:PtK}
theorem cv0(hB:lC B){s:Bs}(hs:s.length≤100000000):Gives prog B (Z0 dO #[.string (ofL s)]) (.tuple #[.agg (mW s).cs.toArray,.bool (UT (SA (GA ⟨s,false⟩).2).2)]):=by
 refine Gives.intro fun B' w K base h k=>?_
 replace hB:=base hB
 refine TM.up ?_
 unfold TM.pt
 have h1:(GA ⟨s,false⟩).2.rest.length≤s.length:=gK ⟨s,false⟩
 unfold mW at k
 refine h.alloc KL fun t w1 h=>?_
 refine h.make (fun B2 own base2=>KZ) fun u τ w2 hp h=>?_
 obtain⟨p,rfl,rfl⟩:=hp
 have h:Rel B' w2 [O1 t U3 (⟨0,⟨#[]⟩⟩:J7).cs.toArray,rdD p ⟨s,false⟩]:=h
 refine h.rd_ 1 rfl (fun B2 own base2=>dR (base2 hB) (show s.length≤_ by omega)) fun w3 h=>?_
 refine h.rd_ 1 rfl (fun B2 own base2=>qY (base2 hB) (by omega)) fun w4 h=>?_
 generalize (GA ⟨s,false⟩).1=n at *
 generalize SA (GA ⟨s,false⟩).2=q at *
 obtain⟨x,s2⟩:=q
 simp only at h k ⊢
 rw[VS]
 refine h.r9 (ds:=(⟨n,ofL x⟩:J7).cs.toArray) KL rfl P9 rfl (fun v hv=>Enc.one (⟨n,ofL x⟩:J7) v hv) fun b w5 h=>?_
 refine h.ask (fun B2 own base2=>nY (s:=s2) (own (i:=1) rfl)) fun w6 h=>?_
 rw[V8,K5,Q5]
 refine⟨fun c=>?_,fun c=>?_⟩
 ·rw[if_pos c,c] at k
  rw[h.Q9 2 rfl P9 rfl]
  refine h.xI 0 rfl P9 rfl rfl (fun v hv=>Enc.one (⟨n,ofL x⟩:J7) v hv) fun w7 h=>?_
  rw[CJ h 0 rfl P9 rfl]
  exact k _ _ h.nil
 ·rw[if_neg (by rw[c];decide),c] at k
  rw[up0]
  refine h.xI 0 rfl P9 rfl rfl (fun v hv=>Enc.one (⟨0,⟨#[]⟩⟩:J7) v hv) fun w7 h=>?_
  rw[CJ h 0 rfl P9 rfl]
  exact k _ _ h.nil
theorem OL0(hB:lC B){c dp:Nat}{f:Int}{st:CS}(hv:st.value.size≤100000)(hc:O1 c M4 (ccs dp f st) B):Gives prog B (Z0 yV #[ptr c]) (.agg (IW st).cs.toArray):=by
 refine Gives.intro fun B' w K base h k=>?_
 replace hB:=base hB
 replace hc:=base hc
 refine VV.up ?_
 unfold VV.pt
 refine h.alloc ek0 fun t w1 h=>?_
 have h:Rel B' w1 [O1 t H5 (⟨0,0⟩:EB).cs.toArray]:=h
 refine h.ask (fun B2 own base2=>bK0 (base2 hc)) fun w2 h=>?_
 rw[h_,Y9,V8,K5,K3]
 unfold IW at k
 refine⟨fun c1=>?_,fun c1=>?_⟩
 case refine_2 =>
  rw[if_neg c1] at k
  rw[kk0]
  refine h.xI 0 (ds:=(⟨0,-1⟩:EB).cs.toArray) rfl uC rfl rfl (fun v hv=>Enc.one (⟨0,-1⟩:EB) v hv) fun w7 h=>?_
  rw[CJ h 0 rfl uC rfl]
  exact k _ _ h.nil
 rw[if_pos c1] at k
 have e:Z0 iB #[.string st.value]=Z0 iB #[.string (ofL (bl st.value))]:=by rw[QM]
 rw[e]
 refine h.make (fun B2 own base2=>KZ (t:=bl st.value)) fun u τ w2 hp h=>?_
 obtain⟨p,rfl,rfl⟩:=hp
 have hl:(bl st.value).length≤100000:=by rw[jO];exact hv
 have h1:(GA ⟨bl st.value,false⟩).2.rest.length≤(bl st.value).length:=gK ⟨bl st.value,false⟩
 unfold Pw0 at k
 refine h.rd_ 1 rfl (fun B2 own base2=>dR (base2 hB) (show (bl st.value).length≤_ by omega)) fun w3 h=>?_
 refine h.rd_ 1 rfl (fun B2 own base2=>dR (base2 hB) (by omega)) fun w4 h=>?_
 generalize (GA ⟨bl st.value,false⟩).1=x at *
 generalize (GA (GA ⟨bl st.value,false⟩).2)=y at *
 rw[XQ]
 refine h.xI 0 (ds:=(⟨x,y.1⟩:EB).cs.toArray) rfl uC rfl rfl (fun v hv=>Enc.one (⟨x,y.1⟩:EB) v hv) fun w7 h=>?_
 rw[CJ h 0 rfl uC rfl]
 exact k _ _ h.nil
theorem bu0(hB:lC B){dp cp jp:Nat}{j:JP}(h0:vB dp cp jp j B)(hj:JOk j):Makes prog B (Z0 PQ #[ptr jp]) fun u τ=>τ=[V3 U3 u (j.list.map mW)]:=by
 refine Makes.intro fun B' w K base h k=>?_
 replace hB:=base hB
 replace h0:=base h0
 refine dQ.up ?_
 unfold dQ.pt
 have hjf:=hj.form
 have hjb:=hj.bytes
 have hjc:=dJ j.list
 refine h.make (fun B2 own base2=>VL0 (base2 h0) (by omega)) fun v τ w1 hp h=>?_
 subst hp
 have h:Rel B' w1 [V3 U2 v (j.list.map ofL)]:=h
 have h:=h.oG J7 U3
 have hml:(j.list.map ofL).length=j.list.length:=List.length_map ..
 rw[Q4.len (V3.read (h.here (i:=0) rfl)) U6,hml]
 refine M6 (fun z w'=>∃(i:Nat) (u:Value),i≤j.list.length∧z=(u,.int .i64 i,())∧Rel B' w' [V3 U2 v (j.list.map ofL),V3 U3 u ((j.list.take i).map mW)])
  (fun z _=>j.list.length-(match z.2.1 with | .int _ n=>n.toNat | _=>0)) ⟨0,_,Nat.zero_le _,rfl,h⟩ ?_
 clear h
 rintro z w2 ⟨i,u,hi,rfl,h⟩ next hnext
 simp -zeta only[D6,K3]
 refine⟨fun hlt=>?_,fun hge=>?_⟩
 case refine_2 =>
  have:i=j.list.length:=by omega
  subst this
  rw[List.take_length] at h
  exact k _ _ _ rfl (h.pick [1] (by decide))
 have hil:i<j.list.length:=by omega
 have hil2:i<(j.list.map ofL).length:=by omega
 obtain⟨g,o,hx,hc⟩:=Q4.idx (V3.read (h.here (i:=0) rfl)) U6 (P:=prog) hil2
 rw[hx,F6.ld0 hc V6 (v := .string (j.list.map ofL)[i]) rfl,List.getElem_map]
 clear hx hc
 have hlen:(j.list[i]).length≤16777216:=by
  have h1:(bB j.list[i]).length≤(O7 j.list).length:=by
   have:=fF bB j.list (i+1)
   rw[aY bB _ hil,List.length_append] at this
   show _≤(j.list.flatMap bB).length
   omega
  have h2:(j.list[i]).length≤(bB j.list[i]).length:=by unfold bB;simp only[List.length_append,List.length_cons];omega
  omega
 refine h.ask (fun B2 own base2=>cv0 (base2 hB) (s:=j.list[i]) (by omega)) fun w3 h=>?_
 rw[h_,Y9]
 have htk:(j.list.take (i+1)).map mW=(j.list.take i).map mW++[mW j.list[i]]:=by
  rw[List.take_succ_eq_append_getElem hil,List.map_append]
  rfl
 have htl:((j.list.take i).map mW).length=i:=by rw[List.length_map,List.length_take];omega
 generalize mW j.list[i]=x at *
 refine h.r9 (ds:=x.cs.toArray) KL rfl P9 rfl (fun v hv=>Enc.one x v hv) fun b w5 h=>?_
 rw[h.Q9 2 rfl P9 rfl]
 refine h.Df0 (α:=J7) 1 rfl x U5 (by decide) (by rw[htl];omega) (by rw[htl];omega) fun v' w14 h=>?_
 rw[V5,D5 (by omega) (by omega)]
 refine hnext _ _ ⟨i+1,v',hil,rfl,?_⟩ (by simp only;omega)
 rw[htk]
 exact h.take 2
end
structure UpP where
 j:JP
 c:CS
 r:H7
structure aB where
 d:DS
 kv:Value
 up:Option UpP
noncomputable def Tl0(s:DS):DS×(Option (JP×CS)×Int):=match OL s with
 | (s1,(none,e))=>(s1,(none,e))
 | (s1,(some j,_))=>match KN s1 2 with
  | (none,e)=>(s1,(none,e))
  | (some c,_)=>(s1,(some (j,c),0))
noncomputable def pV(s:DS):DS×(Option (JP×CS)×Int):=if(y7 s 2).2≠0 then((y7 s 2).1,(none,(y7 s 2).2)) else Tl0 (y7 s 2).1
noncomputable def qF0(id:Int)(j:JP)(c:CS):Option UpP:=if OY id (IW c) (j.list.map mW) then some ⟨j,c,newR id (IW c) (j.list.map mW)⟩ else none
noncomputable def upM(id:Int)(kv:Value)(s:DS):aB×Int:=match pV s with
 | (s1,(none,e))=>(⟨s1,kv,none⟩,e)
 | (s1,(some (j,c),_))=>(⟨s1,kv,qF0 id j c⟩,0)
structure MQ where
 dp:Nat
 jc:Nat
 jp:Nat
 cp:Nat
 rp:Nat
def Fk0(q:MQ)(m:aB):List Dat:=match m.up with
 | none=>[Y5 q.dp m.d m.kv]
 | some u=>[Y5 q.dp m.d m.kv,vB q.dp q.jc q.jp u.j,O1 q.cp M4 (ccs q.dp 2 u.c),U_ q.rp u.r]
def G8(q:MQ)(m:aB):Dat:=eD (Fk0 q m)
def RA(cs:Array Value)(o:Nat)(q:MQ)(up:Bool):Prop :=
 cs.toList[o]? = some (ptr q.dp)∧if up=true then cs.toList[o+1]? = some (ptr q.jp)∧cs.toList[o+2]? = some (ptr q.cp)∧cs.toList[o+3]? = some (ptr q.rp) else(∃a,cs.toList[o+1]? = some (.pointer a))∧(∃b,cs.toList[o+2]? = some (.pointer b))∧cs.toList[o+3]? = some (.pointer none)
theorem RA.yes{cs:Array Value}{o:Nat}{q:MQ}(h0:cs.toList[o]? = some (ptr q.dp))(h1:cs.toList[o+1]? = some (ptr q.jp))(h2:cs.toList[o+2]? = some (ptr q.cp))(h3:cs.toList[o+3]? = some (ptr q.rp)):RA cs o q true:=⟨h0,by rw[if_pos rfl];exact⟨h1,h2,h3⟩⟩
theorem RA.no{cs:Array Value}{o:Nat}{q:MQ}(h0:cs.toList[o]? = some (ptr q.dp))(h1:∃a,cs.toList[o+1]? = some (.pointer a))(h2:∃b,cs.toList[o+2]? = some (.pointer b))(h3:cs.toList[o+3]? = some (.pointer none)):RA cs o q false:=⟨h0,by rw[if_neg (by decide)];exact⟨h1,h2,h3⟩⟩
def XB(cs cs':Array Value)(o:Nat):Prop:=cs'.size=cs.size∧∀k,(k<o∨o+4≤k)→cs'.toList[k]? = cs.toList[k]?
theorem XB.refl(cs:Array Value)(o:Nat):XB cs cs o:=⟨rfl,fun _ _=>rfl⟩
theorem XB.trans{a b c:Array Value}{o:Nat}(h:XB a b o)(h':XB b c o):XB a c o:=⟨h'.1.trans h.1,fun k hk=>(h'.2 k hk).trans (h.2 k hk)⟩
theorem XB.set{a b:Array Value}{o k:Nat}{v:Value}(h:XB a b o)(hk:o≤k∧k<o+4):XB a (b.setIfInBounds k v) o :=
 ⟨by rw[Array.size_setIfInBounds];exact h.1,fun i hi=>by
  rw[Array.toList_setIfInBounds,List.getElem?_set_ne (by omega)]
  exact h.2 i hi⟩
theorem jL{a:Array Value}{k:Nat}{v:Value}(hk:k<a.size):(a.setIfInBounds k v).toList[k]? = some v:=by
 rw[Array.toList_setIfInBounds,List.getElem?_set_self (by rw[Array.length_toList];exact hk)]
theorem Y_{a:Array Value}{k i:Nat}{v:Value}(h:i≠k):(a.setIfInBounds k v).toList[i]? = a.toList[i]? := by
 rw[Array.toList_setIfInBounds,List.getElem?_set_ne (by omega)]
theorem mr0{s s':DS}{j:JP}{e:Int}(hd:DOk s)(h:OL s=(s',(some j,e))):JOk j∧e=0:=by
 unfold OL at h
 split at h
 ·cases h
 split at h
 ·cases h
 simp only[Prod.mk.injEq] at h
 obtain⟨_,h⟩:=h
 have hd2:DOk (y7 (y7 s 0).1 1).1:=(hd.y7 0).y7 1
 generalize (y7 (y7 s 0).1 1).1=s2 at *
 unfold oV at h
 split at h
 ·cases h
 unfold gj0 at h
 split at h
 ·cases h
 split at h
 ·cases h
 split at h
 ·cases h
 split at h
 ·cases h
 rename_i c _ _ _ _ h3 h4
 have hrf:=tj0 hd2 0 0 (tF c).1.1
 cases h
 refine⟨⟨?_,?_⟩,rfl⟩
 ·show 0≤(tF c).1.1∧(tF c).1.1≤16777216
  omega
 ·show ((O7 (wT (bl (GD s2 0 0 (tF c).1.1).1) (tF c).1.2).1).length:Int)=(tF c).1.1
  have h3:(wT (bl (GD s2 0 0 (tF c).1.1).1) (tF c).1.2).2=true:=by
   cases hq:(wT (bl (GD s2 0 0 (tF c).1.1).1) (tF c).1.2).2
   ·exact absurd hq h3
   ·rfl
  have hr:O7 (wT (bl (GD s2 0 0 (tF c).1.1).1) (tF c).1.2).1=bl (GD s2 0 0 (tF c).1.1).1:=by
   unfold wT at h3
   rw[Bool.and_eq_true,Bool.and_eq_true] at h3
   exact of_decide_eq_true h3.2.2
  rw[hr,jO]
  omega
section
variable {B:Base} {w:World} {σ τ:List Dat} {pg dp o:Nat} {s:DS} {kv:Value} {cs:Array Value} {K:PtK}
def fnV(F:FuncId)(cap:Array Value):SV:=⟨.func (.func F) #[] cap,rfl⟩
theorem sq0{B:Base}{v:Value}{fs:List SV}(q:Q4 v fs B)(h:Rel B w σ){i:Nat}(hi:i<fs.length){K:Value→Prop} :
  (M0 prog (Y4 n_ v (.int .i64 i)) fun t10=>Y0 prog (X0 NA t10) w K)=K fs[i].1:=by
 obtain⟨g,o,hx,hc⟩:=Q4.idx q WE (P:=prog) hi
 rw[hx,F6.ld0 (h.K6 hc) gc0 (v:=fs[i].1) rfl]
theorem CA0{s s':DS}{e:Int}(h:OL s=(s',(none,e))):e≠0:=by
 unfold OL at h
 split at h
 ·cases h;assumption
 split at h
 ·cases h;assumption
 simp only[Prod.mk.injEq] at h
 obtain⟨_,h⟩:=h
 unfold oV at h
 split at h
 ·rename_i hq
  cases h
  exact fe0 hq
 unfold gj0 at h
 split at h
 ·cases h;decide
 split at h
 ·cases h;assumption
 split at h
 ·cases h;decide
 split at h
 ·cases h;decide
 cases h
theorem Gi0(s:DS):(OL s).1.keep=s.keep:=by
 unfold OL
 split
 ·exact WA s 0
 split
 ·exact(WA _ 1).trans (WA s 0)
 ·exact(WA _ 1).trans (WA s 0)
set_option maxHeartbeats 4000000 in
theorem WE0(hT:bR B)(hW:lC B)(hP:kH B)(r:Q4 kv s.keep B)(hkl:s.keep.length≤1000000)(id:Int)(hcs:cs.size=14)(ho:o+4≤14)(hdp:cs.toList[o]? = some (ptr dp))(hp1:∃a,cs.toList[o+1]? = some (.pointer a))(hp2:∃b,cs.toList[o+2]? = some (.pointer b))(hup:cs.toList[o+3]? = some (.pointer none)) :
  Both prog B (O1 pg Q3 cs) (Y5 dp s kv) (Z0 PE #[.pointer (some ⟨pg,o,none⟩),.int .i64 id]) fun u d1 d2=>u = .int .i64 (upM id kv s).2∧∃q cs',q.dp=dp∧d1=O1 pg Q3 cs'∧d2=G8 q (upM id kv s).1∧RA cs' o q (upM id kv s).1.up.isSome∧XB cs cs' o:=by
 refine Both.intro fun B' w K base h k=>?_
 replace hT:=base hT
 replace hW:=base hW
 replace hP:=base hP
 replace r:=base r
 refine dK.up ?_
 unfold dK.pt
 have hdk:DOk s:=(Y5.ok (h.here (i:=1) rfl)).1
 refine h.box fun m2 w1 h=>?_
 have h:Rel B' w1 ([O1 pg Q3 cs,Y5 dp s kv]++[O1 m2 P5 #[.pointer (some ⟨pg,o,none⟩)]]):=h
 obtain⟨B2,ext2,h,hm2⟩:=h.Bk0
 have up2:∀{d:Dat},d B'→d B2:=fun hd=>Dat.mono _ ext2.le hd
 replace k:∀(u:Value) (d1 d2:Dat) (w':World),(u = .int .i64 (upM id kv s).2∧∃q cs',q.dp=dp∧d1=O1 pg Q3 cs'∧d2=G8 q (upM id kv s).1∧RA cs' o q (upM id kv s).1.up.isSome∧XB cs cs' o)→Rel B2 w' [d1,d2]→K u w':=fun u d1 d2 w' hp h=>k u d1 d2 w' hp (ext2.rel h)
 replace hT:=up2 hT
 replace hW:=up2 hW
 replace hP:=up2 hP
 replace r:=up2 r
 clear up2 ext2 base
 refine h.alloc NY fun j5 w2 h=>?_
 refine h.alloc Tk0 fun c6 w3 h=>?_
 have h:Rel B2 w3 [O1 pg Q3 cs,Y5 dp s kv,O1 j5 F7 #[.pointer none],O1 c6 M8 #[.pointer none]]:=h
 rw[OG,OG,OG]
 refine h.XW ([fnV mD #[ptr m2],fnV nD #[ptr m2,ptr j5],fnV oD #[ptr m2,ptr c6]]:List SV) WE fun v w4 h=>?_
 obtain⟨B3,ext3,h,hrow⟩:=h.Bk0
 have up3:∀{d:Dat},d B2→d B3:=fun hd=>Dat.mono _ ext3.le hd
 replace k:∀(u:Value) (d1 d2:Dat) (w':World),(u = .int .i64 (upM id kv s).2∧∃q cs',q.dp=dp∧d1=O1 pg Q3 cs'∧d2=G8 q (upM id kv s).1∧RA cs' o q (upM id kv s).1.up.isSome∧XB cs cs' o)→Rel B3 w' [d1,d2]→K u w':=fun u d1 d2 w' hp h=>k u d1 d2 w' hp (ext3.rel h)
 replace hT:=up3 hT
 replace hW:=up3 hW
 replace hP:=up3 hP
 replace r:=up3 r
 replace hm2:=up3 hm2
 clear up3 ext3
 replace hrow:=V3.read hrow
 have main:∀K1:Value→World→Prop,
   (∀(s':DS) (e:Int) (w':World),e≠0→pV s=(s',(none,e))→Rel B3 w' [O1 pg Q3 cs,Y5 dp s' kv]→K1 (.int .i64 e) w') →
   (∀(s':DS) (j:JP) (c:CS) (jc jp cp:Nat) (w':World),pV s=(s',(some (j,c),0))→JOk j→c.value.size≤65536→Rel B3 w' [O1 pg Q3 cs,Y5 dp s' kv,O1 j5 F7 #[ptr jp],O1 c6 M8 #[ptr cp],vB dp jc jp j,O1 cp M4 (ccs dp 2 c)]→K1 (.int .i64 0) w') →
   upK prog (Z0 NP #[v]) w4 K1:=by
  intro K1 bad good
  clear k
  refine DN.up ?_
  unfold DN.pt
  rw[Q4.len hrow WE]
  have i0:∀{Kp:Value→Prop} {w':World},Rel B3 w' []→(M0 prog (Y4 n_ v (.int .i64 (0:Int))) fun t10=>Y0 prog (X0 NA t10) w' Kp)=Kp (fnV mD #[ptr m2]).1:=fun {Kp w'} h=>sq0 hrow h (i:=0) (show 0<3 by omega)
  have i1:∀{Kp:Value→Prop} {w':World},Rel B3 w' []→(M0 prog (Y4 n_ v (.int .i64 (1:Int))) fun t10=>Y0 prog (X0 NA t10) w' Kp)=Kp (fnV nD #[ptr m2,ptr j5]).1:=fun {Kp w'} h=>sq0 hrow h (i:=1) (show 1<3 by omega)
  have i2:∀{Kp:Value→Prop} {w':World},Rel B3 w' []→(M0 prog (Y4 n_ v (.int .i64 (2:Int))) fun t10=>Y0 prog (X0 NA t10) w' Kp)=Kp (fnV oD #[ptr m2,ptr c6]).1:=fun {Kp w'} h=>sq0 hrow h (i:=2) (show 2<3 by omega)
  refine⟨4,?_⟩
  rw[iter,D6,K3]
  refine⟨fun _=>?_,fun c=>absurd (show (0:Int)<((3:Nat):Int) by decide) c⟩
  rw[i0 h.nil]
  refine dH (?_:upK prog (Z0 mD #[ptr m2]) w4 _)
  refine GH.up ?_
  unfold GH.pt
  rw[O1.ld (h.K6 hm2) L_ (o:=0) (v := .pointer (some ⟨pg,o,none⟩)) rfl]
  simp -zeta only[y5,U0 QA,Nat.add_zero]
  rw[h.ld 0 rfl o9 (o:=o) hdp]
  refine h.act 1 rfl (fun B2 own base2=>Tc0 (base2 r) hkl 2) fun u e' τ w5 hp h=>?_
  obtain⟨rfl,rfl,rfl⟩:=hp
  have hk1:=WA s 2
  have hd1:=hdk.y7 2
  unfold pV at bad good
  generalize hs1:y7 s 2=x1 at *
  obtain⟨s1,e1⟩:=x1
  simp only at hk1 hd1 bad good h ⊢
  rw[X7,K5,K3]
  refine⟨fun c=>?_,fun c=>bad s1 e1 _ c (by rw[if_pos c]) (h.take 2)⟩
  subst c
  rw[if_neg (fun hh=>hh rfl)] at bad good
  rw[V5,D5 (by omega) (by omega)]
  rw[iter,D6,K3]
  refine⟨fun _=>?_,fun c=>absurd (show (0+1:Int)<((3:Nat):Int) by decide) c⟩
  rw[show (0+1:Int)=1 from rfl,i1 h.nil]
  refine dH (?_:upK prog (Z0 nD #[ptr m2,ptr j5]) w5 _)
  refine JH.up ?_
  unfold JH.pt
  rw[O1.ld (h.K6 hm2) L_ (o:=0) (v := .pointer (some ⟨pg,o,none⟩)) rfl]
  simp -zeta only[y5,U0 QA,Nat.add_zero]
  rw[h.ld 0 rfl o9 (o:=o) hdp]
  rw[←hk1] at r hkl
  refine h.act 1 rfl (fun B2 own base2=>DI0 (base2 hT) (base2 hW) (base2 hP) (base2 r) hkl) fun u e' τ w6 hp h=>?_
  obtain⟨rfl,hp⟩:=hp
  have hk2:=Gi0 s1
  unfold Tl0 at bad good
  cases hoj:OL s1 with
  | mk s2 oe =>
  obtain⟨oj,e2⟩:=oe
  rw[hoj] at hp h hk2 bad good
  simp only at hp h hk2 bad good
  cases oj with
  | none =>
   simp only at hp bad
   obtain⟨rfl,rfl⟩:=hp
   rw[h_,Y9]
   refine h.st 2 rfl P7 (o:=0) (show 0<1 by omega) rfl fun w7 h=>?_
   rw[X7,K5,K3]
   exact⟨fun c=>absurd c (CA0 hoj),fun c=>bad s2 e2 _ c rfl (h.take 2)⟩
  | some j =>
   simp only at hp bad good
   obtain⟨jc,jp,rfl,rfl⟩:=hp
   obtain⟨hjok,he2⟩:=mr0 hd1 hoj
   subst he2
   rw[h_,Y9]
   refine h.st 2 rfl P7 (o:=0) (show 0<1 by omega) rfl fun w7 h=>?_
   have h:Rel B3 w7 [O1 pg Q3 cs,Y5 dp s2 kv,O1 j5 F7 #[ptr jp],O1 c6 M8 #[.pointer none],vB dp jc jp j]:=h
   rw[X7,K5,K3]
   refine⟨fun _=>?_,fun c=>absurd rfl c⟩
   rw[V5,D5 (by omega) (by omega)]
   rw[iter,D6,K3]
   refine⟨fun _=>?_,fun c=>absurd (show (1+1:Int)<((3:Nat):Int) by decide) c⟩
   rw[show (1+1:Int)=2 from rfl,i2 h.nil]
   refine dH (?_:upK prog (Z0 oD #[ptr m2,ptr c6]) w7 _)
   refine KH.up ?_
   unfold KH.pt
   rw[O1.ld (h.K6 hm2) L_ (o:=0) (v := .pointer (some ⟨pg,o,none⟩)) rfl]
   simp -zeta only[y5,U0 QA,Nat.add_zero]
   rw[h.ld 0 rfl o9 (o:=o) hdp]
   refine h.make (fun B2 own base2=>qw0 (base2 hT) (own (i:=1) rfl) 2) fun u τ w8 hp h=>?_
   rcases hp with⟨cp,st,hos,rfl,rfl⟩ | ⟨hos,rfl,rfl⟩
   case inr =>
    cases hq:KN s2 2 with
    | mk a e3 =>
    rw[hq] at hos bad
    simp only at hos
    subst hos
    simp only at bad ⊢
    rw[h_,Y9]
    refine h.st 3 rfl R8 (o:=0) (show 0<1 by omega) rfl fun w9 h=>?_
    rw[X7,K5,K3]
    exact⟨fun c=>absurd c (fe0 hq),fun c=>bad s2 e3 _ c rfl (h.take 2)⟩
   rw[hos] at good
   simp only at good
   rw[h_,Y9]
   refine h.st 3 rfl R8 (o:=0) (show 0<1 by omega) rfl fun w9 h=>?_
   rw[X7,K5,K3]
   refine⟨fun _=>?_,fun c=>absurd rfl c⟩
   rw[V5,D5 (by omega) (by omega)]
   rw[iter,D6,K3]
   refine⟨fun c=>absurd c (show ¬(2+1:Int)<((3:Nat):Int) by decide),fun _=>?_⟩
   exact good s2 j st jc jp cp _ rfl hjok (bm0 hos) h
 unfold upM at k
 refine main _ (fun s' e w' he hu h=>?_) (fun s' j c jc jp cp w' hu hj hcv h=>?_)
 ·clear main
  rw[hu] at k
  simp only at k
  refine Q6 fun J hJ=>?_
  rw[O6,K3]
  refine⟨fun c=>absurd c he,fun _=>hJ _ _ ?_⟩
  have h:Rel B3 w' ([O1 pg Q3 cs]++[Y5 dp s' kv]):=h
  exact k _ _ _ _ ⟨rfl,⟨dp,0,0,0,0⟩,cs,rfl,rfl,rfl,RA.no hdp hp1 hp2 hup,XB.refl _ _⟩ h.YU
 clear main
 rw[hu] at k
 simp only at k
 refine Q6 fun J hJ=>?_
 rw[O6,K3]
 refine⟨fun _=>?_,fun c=>absurd rfl c⟩
 have h:=h.tick
 generalize tick w'=w' at *
 have im:∀{w':World} {σ:List Dat},Rel B3 w' σ→Is prog (X0 P5 (.pointer (some ⟨m2,0,none⟩))) (.pointer (some ⟨pg,o,none⟩)) w':=fun h=>O1.is (h.K6 hm2) L_ (o:=0) rfl
 rw[O1.ld (h.K6 hm2) L_ (o:=0) (v := .pointer (some ⟨pg,o,none⟩)) rfl]
 rw[O1.ld (h.K6 hm2) L_ (o:=0) (v := .pointer (some ⟨pg,o,none⟩)) rfl]
 rw[O1.ld (h.K6 hm2) L_ (o:=0) (v := .pointer (some ⟨pg,o,none⟩)) rfl]
 rw[h.ld 2 rfl P7 (o:=0) (v:=ptr jp) rfl]
 rw[h.ld 3 rfl R8 (o:=0) (v:=ptr cp) rfl]
 rw[h.ld 3 rfl R8 (o:=0) (v:=ptr cp) rfl]
 rw[h.ld 2 rfl P7 (o:=0) (v:=ptr jp) rfl]
 refine h.ask (fun B2 own base2=>OL0 (base2 hW) (st:=c) (by omega) (own (i:=5) rfl)) fun w1 h=>?_
 refine⟨h.is 2 rfl P7 (o:=0) rfl,h.is 3 rfl R8 (o:=0) rfl,h.is 2 rfl P7 (o:=0) rfl,im h,im h,im h,?_⟩
 refine h.make (fun B2 own base2=>bu0 (base2 hW) (own (i:=4) rfl) hj) fun u τ w2 hp h=>?_
 subst hp
 refine⟨h.is 3 rfl R8 (o:=0) rfl,h.is 2 rfl P7 (o:=0) rfl,im h,im h,im h,?_⟩
 have hfc:=dJ j.list
 have hjf:=hj.form
 have hjb:=hj.bytes
 have hll:(j.list.map mW).length≤1000000000:=by rw[List.length_map];omega
 refine h.make (fun B2 own base2=>GE0 id (IW c) (V3.read (own (i:=6) rfl)) hll) fun rv τ w3 hp h=>?_
 unfold qF0 at k
 simp -zeta only[y5,U0 nI,U0 sP,U0 DD]
 have hels:∀(rv:Value),XB cs (((cs.setIfInBounds (o+1) (ptr jp)).setIfInBounds (o+2) (ptr cp)).setIfInBounds (o+3) rv) o:=fun rv=>(((XB.refl cs o).set (by omega)).set (by omega)).set (by omega)
 have a0:∀(rv:Value),(((cs.setIfInBounds (o+1) (ptr jp)).setIfInBounds (o+2) (ptr cp)).setIfInBounds (o+3) rv).toList[o]? = some (ptr dp):=fun rv=>by
  rw[Y_ (by omega),Y_ (by omega),Y_ (by omega)];exact hdp
 have a1:∀(rv:Value),(((cs.setIfInBounds (o+1) (ptr jp)).setIfInBounds (o+2) (ptr cp)).setIfInBounds (o+3) rv).toList[o+1]? = some (ptr jp):=fun rv=>by
  rw[Y_ (by omega),Y_ (by omega),jL (by omega)]
 have a2:∀(rv:Value),(((cs.setIfInBounds (o+1) (ptr jp)).setIfInBounds (o+2) (ptr cp)).setIfInBounds (o+3) rv).toList[o+2]? = some (ptr cp):=fun rv=>by
  rw[Y_ (by omega),jL (by rw[Array.size_setIfInBounds];omega)]
 have a3:∀(rv:Value),(((cs.setIfInBounds (o+1) (ptr jp)).setIfInBounds (o+2) (ptr cp)).setIfInBounds (o+3) rv).toList[o+3]? = some rv:=fun rv=>by
  rw[jL (by rw[Array.size_setIfInBounds,Array.size_setIfInBounds];omega)]
 by_cases ok:OY id (IW c) (j.list.map mW)
 ·rw[if_pos ok] at hp k
  obtain⟨rp,rfl,rfl⟩:=hp
  refine⟨h.is 3 rfl R8 (o:=0) rfl,h.is 2 rfl P7 (o:=0) rfl,im h,im h,im h,?_⟩
  refine h.st 0 rfl P7 (o:=o+1) (by omega) rfl fun w4 h=>?_
  refine⟨h.is 3 rfl R8 (o:=0) rfl,im h,im h,?_⟩
  refine h.st 0 rfl R8 (o:=o+2) (by rw[Array.size_setIfInBounds];omega) rfl fun w5 h=>?_
  refine⟨im h,?_⟩
  refine h.st 0 rfl U7 (o:=o+3) (by rw[Array.size_setIfInBounds,Array.size_setIfInBounds];omega) rfl fun w6 h=>?_
  refine hJ _ _ ?_
  have h:Rel B3 w6 ([O1 pg Q3 (((cs.setIfInBounds (o+1) (ptr jp)).setIfInBounds (o+2) (ptr cp)).setIfInBounds (o+3) (ptr rp))]++[Y5 dp s' kv,vB dp jc jp j,O1 cp M4 (ccs dp 2 c),U_ rp (newR id (IW c) (j.list.map mW))]):=h.pick [0,1,4,5,7] (by decide)
  exact k _ _ _ _ ⟨rfl,⟨dp,jc,jp,cp,rp⟩,_,rfl,rfl,rfl,RA.yes (a0 _) (a1 _) (a2 _) (a3 _),hels _⟩ h.YU
 ·rw[if_neg ok] at hp k
  obtain⟨rfl,rfl⟩:=hp
  refine⟨h.is 3 rfl R8 (o:=0) rfl,h.is 2 rfl P7 (o:=0) rfl,im h,im h,im h,?_⟩
  refine h.st 0 rfl P7 (o:=o+1) (by omega) rfl fun w4 h=>?_
  refine⟨h.is 3 rfl R8 (o:=0) rfl,im h,im h,?_⟩
  refine h.st 0 rfl R8 (o:=o+2) (by rw[Array.size_setIfInBounds];omega) rfl fun w5 h=>?_
  refine⟨im h,?_⟩
  refine h.st 0 rfl U7 (o:=o+3) (by rw[Array.size_setIfInBounds,Array.size_setIfInBounds];omega) rfl fun w6 h=>?_
  refine hJ _ _ ?_
  have h:Rel B3 w6 ([O1 pg Q3 (((cs.setIfInBounds (o+1) (ptr jp)).setIfInBounds (o+2) (ptr cp)).setIfInBounds (o+3) (.pointer none))]++[Y5 dp s' kv]):=h.pick [0,1] (by decide)
  exact k _ _ _ _ ⟨rfl,⟨dp,0,0,0,0⟩,_,rfl,rfl,rfl,RA.no (a0 _) ⟨_,a1 _⟩ ⟨_,a2 _⟩ (a3 _),hels _⟩ h.YU
end
def RF(m:aB)(u:UpP)(o:LC):(DS×CS)×Int:=if o.save=true then vM m.d u.c 2 (jF o.hard.term o.hard.C_) else((m.d,u.c),0)
def sW(s:DS)(j:JP)(o:LC):(DS×JP)×Int :=
 if(aT s j (min (o.from_-1) j.list.length)).2≠0 then aT s j (min (o.from_-1) j.list.length)
 else uE (aT s j (min (o.from_-1) j.list.length)).1.1 (aT s j (min (o.from_-1) j.list.length)).1.2 (o.recs.map A7)
def IP(s:DS)(j:JP)(e:Int)(o:LC):(DS×JP)×Int:=if e=0∧0<o.from_ then sW s j o else((s,j),e)
def JX(m:aB)(u:UpP)(c:CS)(x:(DS×JP)×Int):aB×Int:=if x.2≠0 then(⟨x.1.1,m.kv,none⟩,x.2) else(⟨x.1.1,m.kv,some ⟨x.1.2,c,u.r⟩⟩,0)
def IC(m:aB)(u:UpP)(o:LC):aB×Int:=JX m u (RF m u o).1.2 (IP (RF m u o).1.1 u.j (RF m u o).2 o)
structure OG0 (o:LC):Prop where
 hard:inI o.hard.term∧inI o.hard.C_
 from_:o.from_≤1000000
 few:o.recs.length≤100
 recs:∀x∈o.recs,iN x
theorem er0{s:DS}{j:JP}{b n:Int}(hj:JOk j):JOk (wE s j b n).1.2:=⟨hj.bytes,hj.form⟩
theorem on0{s:DS}{j:JP}{n:Int}(hj:JOk j):JOk (aT s j n).1.2:=by
 unfold aT
 split
 ·exact hj
 split
 ·exact hj
 split
 ·exact hj
 split
 ·refine⟨?_,rfl⟩
  have:=Va0 j.list n.toNat
  have h1:=hj.bytes
  have h2:=hj.form
  show 0≤((O7 (j.list.take n.toNat)).length:Int)∧((O7 (j.list.take n.toNat)).length:Int)≤16777216
  omega
 ·exact er0 hj
theorem Bh0{s:DS}{j:JP}{l:List Bs}(hj:JOk j):JOk (uE s j l).1.2:=by
 unfold uE
 split
 ·exact hj
 split
 ·exact hj
 split
 ·exact hj
 rename_i h3
 split
 ·unfold VX
  split
  ·have h1:=hj.bytes
   have h2:=hj.form
   refine⟨?_,?_⟩
   ·show 0≤j.bytes+((O7 l).length:Int)∧j.bytes+((O7 l).length:Int)≤16777216
    omega
   ·show ((O7 (j.list++l)).length:Int)=j.bytes+((O7 l).length:Int)
    unfold O7 at h2 ⊢
    rw[List.flatMap_append,List.length_append]
    omega
  ·exact er0 hj
 ·exact⟨hj.bytes,hj.form⟩
theorem gY(s:DS)(j:JP)(b n:Int):(wE s j b n).1.1.keep=s.keep:=Dl0 _ _ _ _
theorem Ed0(s:DS)(j:JP)(n:Int):(aT s j n).1.1.keep=s.keep:=by
 unfold aT
 split
 ·rfl
 split
 ·rfl
 split
 ·rfl
 split
 ·exact gY _ _ _ _
 ·exact gY _ _ _ _
theorem Ii0(s:DS)(j:JP)(t:ByteArray):(wsJ s j t).1.keep=s.keep:=by
 unfold wsJ
 split
 ·exact(WA _ _).trans (NG _ _ _ _)
 ·exact NG _ _ _ _
theorem On0(s:DS)(j:JP)(l:List Bs):(uE s j l).1.1.keep=s.keep:=by
 unfold uE
 split
 ·rfl
 split
 ·rfl
 split
 ·rfl
 split
 ·unfold VX
  split
  ·exact(gY _ _ _ _).trans (Ii0 _ _ _)
  ·exact(gY _ _ _ _).trans (Ii0 _ _ _)
 ·exact Ii0 _ _ _
theorem tf0(m:aB)(u:UpP)(o:LC):(RF m u o).1.1.keep=m.d.keep:=by
 unfold RF
 split
 ·exact Dl0 _ _ _ _
 ·rfl
section
variable {B:Base} {w:World} {σ τ:List Dat} {pg o:Nat} {q:MQ} {m:aB} {cs:Array Value} {K:PtK}
theorem ZF0(hcs:cs.size=14)(ho:o+4≤14):Does prog B (O1 pg Q3 cs) (Z0 oH #[.pointer (some ⟨pg,o,none⟩)]) fun _ e' τ=>τ=[]∧∃cs',e'=O1 pg Q3 cs'∧XB cs cs' o∧cs'.toList[o]? = cs.toList[o]? ∧ cs'.toList[o+1]? = some (.pointer none)∧cs'.toList[o+2]? = some (.pointer none)∧cs'.toList[o+3]? = some (.pointer none):=by
 refine Does.intro fun B' w K base h k=>?_
 refine fK.up ?_
 unfold fK.pt
 simp -zeta only[y5,U0 nI,U0 sP,U0 DD]
 refine h.st 0 rfl P7 (o:=o+1) (by omega) rfl fun w4 h=>?_
 refine h.st 0 rfl R8 (o:=o+2) (by rw[Array.size_setIfInBounds];omega) rfl fun w5 h=>?_
 refine h.st 0 rfl U7 (o:=o+3) (by rw[Array.size_setIfInBounds,Array.size_setIfInBounds];omega) rfl fun w6 h=>?_
 refine k _ _ [] _ ⟨rfl,_,rfl,(((XB.refl cs o).set (by omega)).set (by omega)).set (by omega),?_,?_,?_,?_⟩ h
 ·rw[Y_ (by omega),Y_ (by omega),Y_ (by omega)]
 ·rw[Y_ (by omega),Y_ (by omega),jL (by omega)]
 ·rw[Y_ (by omega),jL (by rw[Array.size_setIfInBounds];omega)]
 ·rw[jL (by rw[Array.size_setIfInBounds,Array.size_setIfInBounds];omega)]
theorem RA.at0{up:Bool}(h:RA cs o q up):cs.toList[o]? = some (ptr q.dp):=h.1
theorem RA.at1(h:RA cs o q true):cs.toList[o+1]? = some (ptr q.jp):=by have:=h.2;rw[if_pos rfl] at this;exact this.1
theorem RA.at2(h:RA cs o q true):cs.toList[o+2]? = some (ptr q.cp):=by have:=h.2;rw[if_pos rfl] at this;exact this.2.1
theorem RA.at3(h:RA cs o q true):cs.toList[o+3]? = some (ptr q.rp):=by have:=h.2;rw[if_pos rfl] at this;exact this.2.2
theorem RA.LE0(h:RA cs o q false):cs.toList[o+3]? = some (.pointer none):=by have:=h.2;rw[if_neg (by decide)] at this;exact this.2.2
theorem RA.FN0(h:RA cs o q false):∃a,cs.toList[o+1]? = some (.pointer a):=by have:=h.2;rw[if_neg (by decide)] at this;exact this.1
theorem RA.HN0(h:RA cs o q false):∃a,cs.toList[o+2]? = some (.pointer a):=by have:=h.2;rw[if_neg (by decide)] at this;exact this.2.1
set_option maxHeartbeats 4000000 in
theorem zJ0(hT:bR B)(hP:kH B)(r:Q4 m.kv m.d.keep B)(hkl:m.d.keep.length≤1000000){u:UpP}(hu:m.up=some u)(hj:JOk u.j)(hcs:cs.size=14)(ho:o+4≤14)(hat:RA cs o q true){out:LC}{rv sv:SV}(hf:OG0 out)(qr:Q4 rv.1 out.recs B) :
  Both prog B (O1 pg Q3 cs) (G8 q m) (Z0 yK #[.pointer (some ⟨pg,o,none⟩),.agg (g_ out rv.1 sv.1)]) fun v d1 d2=>v = .int .i64 (IC m u out).2∧∃cs',d1=O1 pg Q3 cs'∧d2=G8 q (IC m u out).1∧RA cs' o q (IC m u out).1.up.isSome∧XB cs cs' o:=by
 refine Both.intro fun B' w K base h k=>?_
 replace hT:=base hT
 replace hP:=base hP
 replace r:=base r
 replace qr:=base qr
 refine jJ.up ?_
 unfold jJ.pt
 refine h.box fun m2 w1 h=>?_
 have h:Rel B' w1 ([O1 pg Q3 cs,G8 q m]++[O1 m2 P5 #[.pointer (some ⟨pg,o,none⟩)]]):=h
 obtain⟨B2,ext2,h,hm2⟩:=h.Bk0
 have up2:∀{d:Dat},d B'→d B2:=fun hd=>Dat.mono _ ext2.le hd
 replace k:∀(v:Value) (d1 d2:Dat) (w':World),(v = .int .i64 (IC m u out).2∧∃cs',d1=O1 pg Q3 cs'∧d2=G8 q (IC m u out).1∧RA cs' o q (IC m u out).1.up.isSome∧XB cs cs' o)→Rel B2 w' [d1,d2]→K v w':=fun v d1 d2 w' hp h=>k v d1 d2 w' hp (ext2.rel h)
 replace hT:=up2 hT
 replace hP:=up2 hP
 replace r:=up2 r
 replace qr:=up2 qr
 clear up2 ext2 base
 refine h.box fun o3 w2 h=>?_
 have h:Rel B2 w2 ([O1 pg Q3 cs,G8 q m]++[O1 o3 Y2 (g_ out rv.1 sv.1)]):=h
 obtain⟨B3,ext3,h,ho3⟩:=h.Bk0
 have up3:∀{d:Dat},d B2→d B3:=fun hd=>Dat.mono _ ext3.le hd
 replace k:∀(v:Value) (d1 d2:Dat) (w':World),(v = .int .i64 (IC m u out).2∧∃cs',d1=O1 pg Q3 cs'∧d2=G8 q (IC m u out).1∧RA cs' o q (IC m u out).1.up.isSome∧XB cs cs' o)→Rel B3 w' [d1,d2]→K v w':=fun v d1 d2 w' hp h=>k v d1 d2 w' hp (ext3.rel h)
 replace hT:=up3 hT
 replace hP:=up3 hP
 replace r:=up3 r
 replace qr:=up3 qr
 replace hm2:=up3 hm2
 clear up3 ext3
 have h:Rel B3 w2 [G8 q m,O1 pg Q3 cs]:=h.pick [1,0] (by decide)
 unfold G8 Fk0 at h
 rw[hu] at h
 have h:=Rel.BQ h
 have h:Rel B3 w2 [Y5 q.dp m.d m.kv,vB q.dp q.jc q.jp u.j,O1 q.cp M4 (ccs q.dp 2 u.c),U_ q.rp u.r,O1 pg Q3 cs]:=h
 have ldm:∀{Kp:Value→Prop} {w':World} {σ:List Dat},Rel B3 w' σ→Y0 prog (X0 P5 (.pointer (some ⟨m2,0,none⟩))) w' Kp=Kp (.pointer (some ⟨pg,o,none⟩)):=fun h=>O1.ld (h.K6 hm2) L_ (o:=0) rfl
 have im:∀{w':World} {σ:List Dat},Rel B3 w' σ→Is prog (X0 P5 (.pointer (some ⟨m2,0,none⟩))) (.pointer (some ⟨pg,o,none⟩)) w':=fun h=>O1.is (h.K6 hm2) L_ (o:=0) rfl
 have hfh:=hf.hard
 refine Q6 fun J1 hJ1=>?_
 unfold IC at k
 have hk1:=tf0 m u out
 replace hJ1:∀w',Rel B3 w' [Y5 q.dp (RF m u out).1.1 m.kv,vB q.dp q.jc q.jp u.j,O1 q.cp M4 (ccs q.dp 2 (RF m u out).1.2),U_ q.rp u.r,O1 pg Q3 cs]→J1 (.int .i64 (RF m u out).2,()) w':=by
  intro w' h
  refine hJ1 _ _ ?_
  clear hJ1
  generalize RF m u out=x1 at *
  obtain⟨⟨s1,c1⟩,e1⟩:=x1
  simp only at h hk1 k ⊢
  rw[←hk1] at r hkl
  refine Q6 fun J2 hJ2=>?_
  replace hJ2:∀w',Rel B3 w' [Y5 q.dp (IP s1 u.j e1 out).1.1 m.kv,vB q.dp q.jc q.jp (IP s1 u.j e1 out).1.2,O1 q.cp M4 (ccs q.dp 2 c1),U_ q.rp u.r,O1 pg Q3 cs]→J2 (.int .i64 (IP s1 u.j e1 out).2,()) w':=by
   intro w' h
   refine hJ2 _ _ ?_
   clear hJ2
   generalize IP s1 u.j e1 out=x2 at *
   obtain⟨⟨s2,j2⟩,e2⟩:=x2
   unfold JX at k
   simp only at h k ⊢
   refine Q6 fun J3 hJ3=>?_
   rw[X7,K5,K3]
   refine⟨fun c=>?_,fun c=>?_⟩
   ·subst c
    rw[if_neg (fun hh=>hh rfl)] at k
    refine hJ3 _ _ ?_
    have h:=h.pick [4,0,1,2,3] (by decide)
    have h:Rel B3 w' ([O1 pg Q3 cs]++[Y5 q.dp s2 m.kv,vB q.dp q.jc q.jp j2,O1 q.cp M4 (ccs q.dp 2 c1),U_ q.rp u.r]):=h
    exact k _ _ _ _ ⟨rfl,cs,rfl,rfl,hat,XB.refl _ _⟩ h.YU
   ·rw[if_pos c] at k
    rw[ldm h]
    refine h.act 4 rfl (fun B2 own base2=>ZF0 hcs ho) fun u2 e' τ w5 hp h=>?_
    obtain⟨rfl,cs',rfl,h1,h2,h4,h5,h3⟩:=hp
    refine hJ3 _ _ ?_
    have h:Rel B3 w5 ([O1 pg Q3 cs']++[Y5 q.dp s2 m.kv]):=h.pick [4,0] (by decide)
    exact k _ _ _ _ ⟨rfl,cs',rfl,rfl,RA.no (h2.trans hat.at0) ⟨_,h4⟩ ⟨_,h5⟩ h3,h1⟩ h.YU
  clear k
  unfold IP at hJ2
  rw[O6,K3]
  refine⟨fun c=>?_,fun c=>?_⟩
  case refine_2=>rw[if_neg (fun hh=>c hh.1)] at hJ2;exact hJ2 _ h
  subst c
  simp -zeta only[U0 jX,U0 of0,Nat.zero_add]
  rw[O1.ld (h.K6 ho3) F3 (o:=3) (v := .int .i64 out.from_) rfl,A_,K3]
  refine⟨fun c=>?_,fun c=>?_⟩
  case refine_2=>rw[if_neg (fun hh=>c hh.2)] at hJ2;exact hJ2 _ h
  rw[if_pos ⟨rfl,c⟩] at hJ2
  refine h.alloc Ov0 fun l6 w3 h=>?_
  have h:=h.oG ByteArray U2
  have h:Rel B3 w3 [Y5 q.dp s1 m.kv,vB q.dp q.jc q.jp u.j,O1 q.cp M4 (ccs q.dp 2 c1),U_ q.rp u.r,O1 pg Q3 cs,O1 l6 K4 #[.slice none 0 0],V3 U2 (.slice none 0 0) ([]:List ByteArray)]:=h
  rw[O1.ld (h.K6 ho3) O5 (o:=4) (v:=rv.1) rfl,Q4.len qr U5]
  have hff:=hf.from_
  have hfw:=hf.few
  refine M6 (fun z w'=>∃(i:Nat) (v:Value),i≤out.recs.length∧z=(.int .i64 i,())∧Rel B3 w' [Y5 q.dp s1 m.kv,vB q.dp q.jc q.jp u.j,O1 q.cp M4 (ccs q.dp 2 c1),U_ q.rp u.r,O1 pg Q3 cs,O1 l6 K4 #[v],V3 U2 v (((out.recs.take i).map A7).map ofL)])
   (fun z _=>out.recs.length-(match z.1 with | .int _ n=>n.toNat | _=>0)) ⟨0,_,Nat.zero_le _,rfl,h⟩ ?_
  clear h
  rintro z w4 ⟨i,v,hi,rfl,h⟩ next hnext
  rw[D6,K3]
  refine⟨fun hlt=>?_,fun hge=>?_⟩
  ·have hil:i<out.recs.length:=by omega
   obtain⟨g,og,hx,hc⟩:=Q4.idx qr U5 (P:=prog) hil
   have hc:F6 g og out.recs[i].cs B3:=hc
   rw[hx,F6.Q9 (h.K6 hc) P9 rfl]
   clear hx hc
   have hfx:=hf.recs _ (List.getElem_mem hil)
   have htk:((out.recs.take (i+1)).map A7).map ofL=((out.recs.take i).map A7).map ofL++[ofL (A7 out.recs[i])]:=by
    rw[List.take_succ_eq_append_getElem hil,List.map_append,List.map_append]
    rfl
   have htl:(((out.recs.take i).map A7).map ofL).length=i:=by rw[List.length_map,List.length_map,List.length_take];omega
   generalize out.recs[i]=x at *
   refine h.r9 (ds:=x.cs.toArray) KL rfl P9 rfl (fun v hv=>Enc.one x v hv) fun b w5 h=>?_
   have h:=h.tick
   generalize tick w5=w5 at *
   rw[h.ld 5 rfl J9 (o:=0) (v:=v) rfl,h.Q9 7 rfl P9 rfl]
   refine h.ask (fun B2 own base2=>uj0 (base2 hP) hfx) fun w6 h=>?_
   refine⟨h.is 5 rfl J9 (o:=0) rfl,?_⟩
   refine h.bH (α:=ByteArray) (ofL (A7 x)) U6 (by decide) fun v1 w7 h=>?_
   refine⟨h.is 5 rfl J9 (o:=0) rfl,?_⟩
   refine h.append (α:=ByteArray) 6 rfl U6 (Rd.at 8 rfl) (by rw[htl];show (i+1) * _≤_;omega) (by rw[htl];show i+1≤_;omega) fun v2 w8 h=>?_
   have hv2:v2.oneCell'=true:=h.oneCell (i:=6) rfl
   refine h.st 5 rfl J9 (o:=0) (show 0<1 by omega) hv2 fun w9 h=>?_
   rw[V5,D5 (by omega) (by omega)]
   refine hnext _ _ ⟨i+1,v2,hil,rfl,?_⟩ (by simp only;omega)
   rw[htk]
   exact h.take 7
  have:i=out.recs.length:=by omega
  subst this
  clear hnext hge
  rw[List.take_length] at h
  rw[OG,OG]
  refine h.XW ([fnV yB #[ptr m2,ptr o3],fnV zB #[ptr m2,ptr l6]]:List SV) WE fun fv w5 h=>?_
  have h:Rel B3 w5 ([Y5 q.dp s1 m.kv,vB q.dp q.jc q.jp u.j,O1 q.cp M4 (ccs q.dp 2 c1),U_ q.rp u.r,O1 pg Q3 cs,O1 l6 K4 #[v],V3 U2 v ((out.recs.map A7).map ofL)]++[V3 NA fv [fnV yB #[ptr m2,ptr o3],fnV zB #[ptr m2,ptr l6]]]):=h
  obtain⟨B4,ext4,h,hrow⟩:=h.Bk0
  have up4:∀{d:Dat},d B3→d B4:=fun hd=>Dat.mono _ ext4.le hd
  replace hJ2:∀w',Rel B4 w' [Y5 q.dp (sW s1 u.j out).1.1 m.kv,vB q.dp q.jc q.jp (sW s1 u.j out).1.2,O1 q.cp M4 (ccs q.dp 2 c1),U_ q.rp u.r,O1 pg Q3 cs]→J2 (.int .i64 (sW s1 u.j out).2,()) w':=fun w' h=>hJ2 w' (ext4.rel h)
  replace hT:=up4 hT
  replace hP:=up4 hP
  replace r:=up4 r
  replace hm2:=up4 hm2
  replace ho3:=up4 ho3
  clear up4 ext4 ldm im
  replace hrow:=V3.read hrow
  unfold sW at hJ2
  refine DN.up ?_
  unfold DN.pt
  rw[Q4.len hrow WE]
  have i0:∀{Kp:Value→Prop} {w':World},Rel B4 w' []→(M0 prog (Y4 n_ fv (.int .i64 (0:Int))) fun t10=>Y0 prog (X0 NA t10) w' Kp)=Kp (fnV yB #[ptr m2,ptr o3]).1:=fun {Kp w'} h=>sq0 hrow h (i:=0) (show 0<2 by omega)
  have i1:∀{Kp:Value→Prop} {w':World},Rel B4 w' []→(M0 prog (Y4 n_ fv (.int .i64 (1:Int))) fun t10=>Y0 prog (X0 NA t10) w' Kp)=Kp (fnV zB #[ptr m2,ptr l6]).1:=fun {Kp w'} h=>sq0 hrow h (i:=1) (show 1<2 by omega)
  have ldm:∀{Kp:Value→Prop} {w':World} {σ:List Dat},Rel B4 w' σ→Y0 prog (X0 P5 (.pointer (some ⟨m2,0,none⟩))) w' Kp=Kp (.pointer (some ⟨pg,o,none⟩)):=fun h=>O1.ld (h.K6 hm2) L_ (o:=0) rfl
  have im:∀{w':World} {σ:List Dat},Rel B4 w' σ→Is prog (X0 P5 (.pointer (some ⟨m2,0,none⟩))) (.pointer (some ⟨pg,o,none⟩)) w':=fun h=>O1.is (h.K6 hm2) L_ (o:=0) rfl
  refine⟨3,?_⟩
  rw[iter,D6,K3]
  refine⟨fun _=>?_,fun c=>absurd (show (0:Int)<((2:Nat):Int) by decide) c⟩
  rw[i0 h.nil]
  refine dH (?_:upK prog (Z0 yB #[ptr m2,ptr o3]) w5 _)
  refine IG.up ?_
  unfold IG.pt
  have h:=h.tick
  generalize tick w5=w5 at *
  rw[ldm h]
  simp -zeta only[y5,U0 nI,U0 jX,Nat.zero_add]
  rw[h.ld 4 rfl P7 (o:=o+1) hat.at1,O1.ld (h.K6 ho3) F3 (o:=3) (v := .int .i64 out.from_) rfl,eF,D5 (by omega) (by omega),ldm h]
  simp -zeta only[y5,U0 nI,Nat.zero_add]
  rw[h.ld 4 rfl P7 (o:=o+1) hat.at1]
  refine h.ask (fun B2 own base2=>WL0 (own (i:=1) rfl)) fun w6 h=>?_
  refine⟨O1.is (h.K6 ho3) F3 (o:=3) rfl,h.is 4 rfl P7 (o:=o+1) hat.at1,im h,?_⟩
  rw[PP]
  have h:=h.pick [2,3,4,5,6,0,1] (by decide)
  have h:Rel B4 w6 ([O1 q.cp M4 (ccs q.dp 2 c1),U_ q.rp u.r,O1 pg Q3 cs,O1 l6 K4 #[v],V3 U2 v ((out.recs.map A7).map ofL)]++[Y5 q.dp s1 m.kv,vB q.dp q.jc q.jp u.j]):=h
  refine h.uh0 (fun B2 own base2=>jN0 (base2 hT) (base2 hP) (base2 r) hkl hj (min (out.from_-1) u.j.list.length)) fun u2 d1 d2 w7 hp h=>?_
  obtain⟨rfl,rfl,rfl⟩:=hp
  have hk2:=Ed0 s1 u.j (min (out.from_-1) u.j.list.length)
  have hj2:JOk (aT s1 u.j (min (out.from_-1) u.j.list.length)).1.2:=on0 hj
  generalize aT s1 u.j (min (out.from_-1) u.j.list.length)=x2 at *
  obtain⟨⟨s2,j2⟩,e2⟩:=x2
  simp only at h hk2 hj2 hJ2 ⊢
  rw[←hk2] at r hkl
  rw[X7,K5,K3]
  refine⟨fun c2=>?_,fun c2=>?_⟩
  case refine_2 =>
   rw[if_pos c2] at hJ2
   exact hJ2 _ (h.pick [5,6,0,1,2] (by decide))
  rw[if_neg (fun hh=>hh c2)] at hJ2
  rw[V5,D5 (by omega) (by omega)]
  rw[iter,D6,K3]
  refine⟨fun _=>?_,fun c=>absurd (show (0+1:Int)<((2:Nat):Int) by decide) c⟩
  rw[show (0+1:Int)=1 from rfl,i1 h.nil]
  refine dH (?_:upK prog (Z0 zB #[ptr m2,ptr l6]) w7 _)
  refine JG.up ?_
  unfold JG.pt
  have h:=h.tick
  generalize tick w7=w7 at *
  rw[ldm h]
  simp -zeta only[y5,U0 nI,Nat.zero_add]
  rw[h.ld 2 rfl P7 (o:=o+1) hat.at1,h.ld 3 rfl J9 (o:=0) (v:=v) rfl]
  have hfb:(O7 (out.recs.map A7)).length≤16777216:=by
   have h1:=GG bB (out.recs.map A7) 100065 fun x hx=>by
    obtain⟨y,hy,rfl⟩:=List.mem_map.1 hx
    have h1:=bT (hf.recs y hy)
    have h2:=LF (A7 y) (by omega)
    omega
   rw[List.length_map] at h1
   have:(O7 (out.recs.map A7)).length≤100065 * out.recs.length:=h1
   omega
  have hjc:=dJ j2.list
  have hjf:=hj2.form
  have hjb:=hj2.bytes
  refine h.uh0 (fun B2 own base2=>gC0 (base2 hT) (base2 hP) (base2 r) hkl hj2 (l:=out.recs.map A7) (V3.read (own (j:=4) rfl)) hfb (by omega) (by rw[List.length_map];omega)) fun u2 d1 d2 w8 hp h=>?_
  obtain⟨rfl,rfl,rfl⟩:=hp
  generalize uE s2 j2 (out.recs.map A7)=x3 at *
  obtain⟨⟨s3,j3⟩,e3⟩:=x3
  simp only at h hJ2 ⊢
  rw[X7,K5,K3]
  refine⟨fun c3=>?_,fun c3=>hJ2 _ (h.pick [5,6,0,1,2] (by decide))⟩
  subst c3
  rw[V5,D5 (by omega) (by omega)]
  rw[iter,D6,K3]
  refine⟨fun c=>absurd c (show ¬(1+1:Int)<((2:Nat):Int) by decide),fun _=>?_⟩
  exact hJ2 _ (h.pick [5,6,0,1,2] (by decide))
 clear k
 unfold RF at hJ1
 simp -zeta only[U0 gf0,U0 jf0,U0 UC,U0 QV,Nat.zero_add,Nat.add_zero]
 rw[O1.ld (h.K6 ho3) RB (o:=0) (v := .bool out.save) rfl,Q5]
 refine⟨fun c=>?_,fun c=>?_⟩
 case refine_2=>rw[if_neg (by rw[c];decide)] at hJ1;exact hJ1 _ h
 rw[if_pos c] at hJ1
 have h:=h.tick
 generalize tick w2=w2 at *
 rw[ldm h]
 simp -zeta only[y5,U0 sP]
 rw[h.ld 4 rfl R8 (o:=o+2) hat.at2,O1.ld (h.K6 ho3) F3 (o:=1) (v := .int .i64 out.hard.term) rfl,O1.ld (h.K6 ho3) F3 (o:=2) (v := .int .i64 out.hard.C_) rfl]
 refine h.ask (fun B2 own base2=>KC (base2 hP) hfh.1) fun w3 h=>?_
 refine⟨O1.is (h.K6 ho3) F3 (o:=2) rfl,h.is 4 rfl R8 (o:=o+2) hat.at2,im h,?_⟩
 refine h.ask (fun B2 own base2=>KC (base2 hP) hfh.2) fun w4 h=>?_
 refine⟨h.is 4 rfl R8 (o:=o+2) hat.at2,im h,?_⟩
 have l1:=X6 hfh.1
 have l2:=X6 hfh.2
 rw[q9 (by omega)]
 have h:Rel B3 w4 ([vB q.dp q.jc q.jp u.j,U_ q.rp u.r,O1 pg Q3 cs]++[Y5 q.dp m.d m.kv,O1 q.cp M4 (ccs q.dp 2 u.c)]):=h.pick [1,3,4,0,2] (by decide)
 refine h.uh0 (fun B2 own base2=>zK0 (base2 hT) (base2 r) hkl) fun u2 d1 d2 w5 hp h=>?_
 obtain⟨rfl,rfl,rfl⟩:=hp
 exact hJ1 _ (h.pick [3,0,4,1,2] (by decide))
end
def Lets(f:Int)(s s':DS):Prop :=
 (s'.down=s.down∧s'.fs f=s.fs f∧∀n,Pd s' f n↔Pd s f n) ∨
 (s.down=false∧s'.down=true∧(∀n,¬Pd s' f n)∧∃s1 keep,s1.down=false∧s1.fs f=s.fs f∧(∀n,Pd s1 f n↔Pd s f n)∧PIs s1∧DOk s1∧s'.fs f=(rA s1 keep).fs f)
theorem Lets.refl(f:Int)(s:DS):Lets f s s := .inl ⟨rfl,rfl,fun _=>Iff.rfl⟩
theorem Lets.trans{f:Int}{a b c:DS}(h:Lets f a b)(h':Lets f b c):Lets f a c:=by
 rcases h with⟨h1,h2,h3⟩ | ⟨h1,h2,h3,s1,keep,h4,h5,h6,h7,h8,h9⟩
 ·rcases h' with⟨k1,k2,k3⟩ | ⟨k1,k2,k3,s1,keep,k4,k5,k6,k7,k8,k9⟩
  ·exact .inl ⟨k1.trans h1,k2.trans h2,fun n=>(k3 n).trans (h3 n)⟩
  ·exact .inr ⟨by rw[←h1];exact k1,k2,k3,s1,keep,k4,k5.trans h2,fun n=>(k6 n).trans (h3 n),k7,k8,k9⟩
 ·rcases h' with⟨k1,k2,k3⟩ | ⟨k1,_⟩
  ·exact .inr ⟨h1,k1.trans h2,fun n hn=>h3 n ((k3 n).1 hn),s1,keep,h4,h5,h6,h7,h8,k2.trans h9⟩
  ·rw[h2] at k1;cases k1
theorem GZ{f:Int}{s s1:DS}(keep:List Int)(hd:s.down=false)(h0:s1.down=false)(h1:s1.fs f=s.fs f)(h2:∀n,Pd s1 f n↔Pd s f n)(hP:PIs s1)(hO:DOk s1):Lets f s (rA s1 keep):=by
 refine .inr ⟨hd,Aa0 _ _,fun n hn=>?_,s1,keep,h0,h1,h2,hP,hO,rfl⟩
 unfold Pd rA at hn
 rw[if_neg (by rw[h0];decide)] at hn
 cases hn
theorem Dg0(s:DS)(f:Int)(n:Nat):Pd (d_ s) f n↔Pd s f n:=by unfold Pd;rw[Zt0]
theorem ty0{s:DS}{f g:Int}(hg:g≠f)(a:Nat)(t:ByteArray):(vC s f a t).fs g=s.fs g∧∀n,Pd (vC s f a t) g n↔Pd s g n:=by
 unfold vC
 split
 ·exact⟨rfl,fun _=>Iff.rfl⟩
 ·refine⟨upd_ne hg,fun n=>?_⟩
  unfold Pd
  rw[zJ]
  refine⟨fun h=>?_,.inl⟩
  rcases h with h | ⟨m,_,e⟩
  ·exact h
  ·injection e with e _
   exact absurd e hg
theorem Yo0{s:DS}{f g:Int}(hg:g≠f)(a:Int)(t:ByteArray):(ZB s f a t).down=s.down∧(ZB s f a t).fs g=s.fs g∧∀n,Pd (ZB s f a t) g n↔Pd s g n:=by
 unfold ZB
 split
 ·exact⟨op0 _ _ _ _,ty0 hg _ _⟩
 ·exact⟨rfl,rfl,fun _=>Iff.rfl⟩
theorem oc0{s:DS}{f g:Int}(hg:g≠f)(x:ByteArray):(UH s f x).fs g=s.fs g∧∀n,Pd (UH s f x) g n↔Pd s g n:=by
 refine⟨upd_ne hg,fun n=>⟨fun h=>(List.mem_filter.1 h).1,fun h=>List.mem_filter.2 ⟨h,by simpa using hg⟩⟩⟩
theorem ba0{s:DS}(hP:PIs s)(hO:DOk s){f g:Int}(hg:g≠f)(a:Int)(t:ByteArray):Lets g s (F8 s f a t).1:=by
 have hw:=Yo0 (s:=d_ s) hg a t
 unfold F8
 split
 ·rename_i e
  have hd:=eq0 e
  exact GZ _ hd (by rw[hw.1,VT];exact hd) (by rw[hw.2.1,uO]) (fun n=>(hw.2.2 n).trans (Dg0 s g n)) (PI.write (PI.ends hP) _ _ _) (hO.ends.write _ _ _)
 ·exact .inl ⟨by rw[hw.1,VT],by rw[hw.2.1,uO],fun n=>(hw.2.2 n).trans (Dg0 s g n)⟩
theorem Iy0{s:DS}(hP:PIs s)(hO:DOk s)(g:Int):Lets g s (FB s):=by
 unfold FB
 split
 ·rename_i e
  have hd:=eq0 e
  exact GZ _ hd (by rw[VT];exact hd) (by rw[uO]) (fun n=>Dg0 s g n) (PI.ends hP) hO.ends
 ·exact .inl ⟨VT s,by rw[uO],fun n=>Dg0 s g n⟩
theorem KP{s:DS}(hP:PIs s)(hO:DOk s){f g:Int}(hg:g≠f):Lets g s (y7 s f).1:=by
 have hc:=Iy0 hP hO g
 unfold y7
 split
 ·exact hc
 split
 ·exact hc.trans (.inl ⟨rfl,rfl,fun _=>Iff.rfl⟩)
 ·have:=oc0 (s:=FB s) hg ((FB s).fs f).now
  exact hc.trans (.inl ⟨rfl,this.1,this.2⟩)
theorem PI.F8{s:DS}(h:PIs s)(f a:Int)(t:ByteArray):PIs (F8 s f a t).1:=by
 unfold Go.Proofs.YtngbebnhegcokaaGreatDoor.F8
 split
 ·exact PI.IK (PI.write (PI.ends h) _ _ _) _
 ·exact PI.write (PI.ends h) _ _ _
theorem PI.y7{s:DS}(h:PIs s)(f:Int):PIs (y7 s f).1:=by
 unfold Go.Proofs.YtngbebnhegcokaaGreatDoor.y7
 split
 ·exact PI.come h
 split
 ·exact PI.come h
 ·exact PI.settle (PI.come h) _ _
structure KW (s:DS):Prop where
 P:PIs s
 O:DOk s
theorem KW.write{s:DS}(h:KW s)(f a:Int)(t:ByteArray):KW (F8 s f a t).1:=⟨PI.F8 h.P f a t,h.O.F8 f a t⟩
theorem KW.sync{s:DS}(h:KW s)(f:Int):KW (y7 s f).1:=⟨PI.y7 h.P f,h.O.y7 f⟩
theorem jc0{s:DS}(h:KW s){f g:Int}(hg:g≠f)(st:CS)(v:ByteArray):Lets g s (vM s st f v).1.1∧KW (vM s st f v).1.1:=by
 unfold vM
 split
 ·exact⟨Lets.refl _ _,h⟩
 have h1:Lets g s (XE s st f).1∧KW (XE s st f).1:=by
  unfold XE
  split
  ·exact⟨KP h.P h.O hg,h.sync f⟩
  ·exact⟨Lets.refl _ _,h⟩
 split
 ·exact h1
 generalize (XE s st f).1=s1 at h1
 have h2:=h1.1.trans (ba0 h1.2.P h1.2.O hg (NE (u_ (qD st))) v)
 have k2:=h1.2.write f (NE (u_ (qD st))) v
 unfold set1
 split
 ·exact⟨h2,k2⟩
 generalize (F8 s1 f (NE (u_ (qD st))) v).1=s2 at h2 k2
 have h3:=h2.trans (KP k2.P k2.O hg)
 have k3:=k2.sync f
 unfold set2
 split
 ·exact⟨h3,k3⟩
 generalize (y7 s2 f).1=s3 at h3 k3
 have h4:=h3.trans (ba0 k3.P k3.O hg 0 (kC (qD st) v))
 have k4:=k3.write f 0 (kC (qD st) v)
 unfold Bo0
 split
 ·exact⟨h4,k4⟩
 ·exact⟨h4.trans (KP k4.P k4.O hg),k4.sync f⟩
theorem UpC.same{N L:ByteArray}{pd pd':Nat→Prop}{st:CS}{k0:Int}{v0:ByteArray}(h:UpC N L pd st k0 v0)(hp:∀n,pd' n↔pd n):UpC N L pd' st k0 v0:=h.mono fun n hn=>(hp n).1 hn
theorem Res.lets{s s':DS}{f:Int}{st:CS}{Ok:Int→ByteArray→Prop}(h:Res s f st Ok)(hl:Lets f s s')(hh:KW s'):Res s' f st Ok:=by
 obtain⟨hP,hO,hst,hcase⟩:=h
 refine⟨hh.P,hh.O,hst,?_⟩
 rcases hl with⟨h1,h2,h3⟩ | ⟨h1,h2,h3,s1,keep,h4,h5,h6,h7,h8,h9⟩
 ·rcases hcase with⟨a,k0,v0,b,c,d⟩ | ⟨a,k,v,b,c⟩
  ·exact .inl ⟨h1.trans a,k0,v0,by rw[h2];exact b.same h3,c,d⟩
  ·exact .inr ⟨h1.trans a,k,v,⟨by rw[h2];exact b.now,by rw[h2];exact b.last,fun n hn=>b.pd n ((h3 n).1 hn)⟩,c⟩
 ·rcases hcase with⟨a,k0,v0,b,c,d⟩ | ⟨a,_⟩
  ·have b1:UpC (s1.fs f).now (s1.fs f).last (Pd s1 f) st k0 v0:=by rw[h5];exact b.same h6
   rcases Rp0 h7 h8 h4 b1 keep with e | e
   ·exact .inr ⟨h2,_,_,⟨by rw[h9];exact e.now,by rw[h9];exact e.last,h3⟩,c⟩
   ·exact .inr ⟨h2,_,_,⟨by rw[h9];exact e.now,by rw[h9];exact e.last,h3⟩,d⟩
  ·rw[h1] at a;cases a
def FV(p:Bs)(X:ByteArray):Prop:=p.length≤X.size∧∀i,i<p.length→(bl X).getD i 0=p.getD i 0
structure BI (s:DS) (p:Bs):Prop where
 now:FV p (s.fs 0).now
 last:FV p (s.fs 0).last
theorem FV.take{p:Bs}{X:ByteArray}(h:FV p X):(bl X).take p.length=p:=by
 have hb:=y8 X
 refine jq0 (by rw[List.length_take,hb];have:=h.1;omega) fun i hi=>?_
 rw[List.length_take] at hi
 rw[←h.2 i (by omega),List.getD_eq_getElem?_getD,List.getElem?_take,if_pos (by omega),←List.getD_eq_getElem?_getD]
theorem FV.pre{p q:Bs}{X:ByteArray}(h:FV (p++q) X):FV p X:=by
 have h1:=h.1
 rw[List.length_append] at h1
 refine⟨by omega,fun i hi=>?_⟩
 rw[h.2 i (by rw[List.length_append];omega),List.getD_eq_getElem?_getD,List.getElem?_append_left hi,←List.getD_eq_getElem?_getD]
theorem BI.pre{s:DS}{p q:Bs}(h:BI s (p++q)):BI s p:=⟨h.now.pre,h.last.pre⟩
theorem FV.IK{p:Bs}{L N R:ByteArray}{Q:Nat→Prop}(hs:SvI L N R Q)(hn:FV p N)(hl:FV p L):FV p R:=by
 have h1:=hs.ge
 have h2:=hn.1
 have h3:=hl.1
 refine⟨by omega,fun i hi=>?_⟩
 by_cases q:Q (i / 64)
 ·rw[(hs.new _ q).1 i (by omega) (by omega) (by omega)]
  exact hn.2 i hi
 ·rw[hs.old _ q i (by omega) (by omega)]
  exact hl.2 i hi
theorem BI.IK{s:DS}{p:Bs}(h:BI s p)(hh:KW s)(keep:List Int):BI (rA s keep) p:=by
 by_cases c:s.down=true
 ·unfold rA
  rw[if_pos c]
  exact h
 ·have hd:s.down=false:=by simpa using c
  have hc:=tm0 (keep:=keep) hh.O.now hh.O.last (hh.P.le 0) (fun q hq=>(hh.O.q q hq).2.1) s.queue.length (Nat.le_refl _)
  have:=FV.IK hc h.now h.last
  exact⟨by rw[Rh0 hd];exact this,by rw[Rh0 hd];exact this⟩
theorem BI.lets{s s':DS}{p:Bs}(h:BI s p)(hl:Lets 0 s s'):BI s' p:=by
 rcases hl with⟨_,h2,_⟩ | ⟨_,_,_,s1,keep,_,h5,_,h7,h8,h9⟩
 ·exact⟨by rw[h2];exact h.now,by rw[h2];exact h.last⟩
 ·have h1:BI s1 p:=⟨by rw[h5];exact h.now,by rw[h5];exact h.last⟩
  have:=h1.IK ⟨h7,h8⟩ keep
  exact⟨by rw[h9];exact this.now,by rw[h9];exact this.last⟩
theorem BI.ends{s:DS}{p:Bs}(h:BI s p):BI (d_ s) p:=⟨by rw[uO];exact h.now,by rw[uO];exact h.last⟩
theorem BI.come{s:DS}{p:Bs}(h:BI s p)(hh:KW s):BI (FB s) p:=by
 unfold FB
 split
 ·exact h.ends.IK ⟨PI.ends hh.P,hh.O.ends⟩ _
 ·exact h.ends
theorem BI.sync{s:DS}{p:Bs}(h:BI s p)(hh:KW s)(f:Int):BI (y7 s f).1 p:=by
 have hc:=h.come hh
 unfold y7
 split
 ·exact hc
 split
 ·exact⟨hc.now,hc.last⟩
 ·by_cases e:(0:Int)=f
  ·subst e
   exact⟨by rw[PN];exact hc.now,by rw[PN];exact hc.now⟩
  ·have:=(oc0 (s:=FB s) e ((FB s).fs f).now).1
   exact⟨by rw[this];exact hc.now,by rw[this];exact hc.last⟩
theorem UI0{p:Bs}{X t:ByteArray}{a:Nat}(h:FV p X)(ha:p.length≤a):FV p (zF X a t):=by
 have:=jo0 X t a
 have h1:=h.1
 refine⟨by omega,fun i hi=>?_⟩
 rw[vT,if_neg (by omega)]
 exact h.2 i hi
theorem QI0{p:Bs}{X t:ByteArray}(h:FV p X):FV (p++bl t) (zF X p.length t):=by
 have hb:=y8 t
 have h1:=h.1
 refine⟨?_,fun i hi=>?_⟩
 ·rw[List.length_append,hb,MN]
  split
  ·rename_i e
   have:t.size=0:=by rw[e];rfl
   omega
  ·omega
 ·rw[List.length_append,hb] at hi
  rw[vT,List.getD_eq_getElem?_getD (l:=p++bl t)]
  by_cases c:i<p.length
  ·rw[if_neg (by omega),List.getElem?_append_left c,←List.getD_eq_getElem?_getD]
   exact h.2 i c
  ·rw[if_pos (by omega),List.getElem?_append_right (by omega),←List.getD_eq_getElem?_getD]
theorem BI.add{s:DS}{p:Bs}(h:BI s p){a:Nat}(ha:p.length≤a)(t:ByteArray):BI (vC s 0 a t) p:=by
 rw[show BI (vC s 0 a t) p↔FV p ((vC s 0 a t).fs 0).now∧FV p ((vC s 0 a t).fs 0).last from⟨fun h=>⟨h.now,h.last⟩,fun h=>⟨h.1,h.2⟩⟩,vh0]
 exact⟨UI0 h.now ha,h.last⟩
theorem BI.write{s:DS}{p:Bs}(h:BI s p)(hh:KW s){a:Int}(ha:p.length≤a.toNat)(t:ByteArray):BI (F8 s 0 a t).1 p:=by
 have hw:BI (ZB (d_ s) 0 a t) p:=by
  unfold ZB
  split
  ·exact h.ends.add ha t
  ·exact h.ends
 unfold F8
 split
 ·exact hw.IK ⟨PI.write (PI.ends hh.P) _ _ _,hh.O.ends.write _ _ _⟩ _
 ·exact hw
theorem NM0{s:DS}{j:JP}{p:Bs}(h:BI s p)(hh:KW s)(hj:j.bytes=p.length)(t:ByteArray):BI (wsJ s j t).1 p∧KW (wsJ s j t).1∧((wsJ s j t).2=0→BI (wsJ s j t).1 (p++bl t))∧∀g,g≠0→Lets g s (wsJ s j t).1:=by
 have h1:=h.write hh (a:=j.bytes) (by omega) t
 have k1:=hh.write 0 j.bytes t
 have l1:=fun g (hg:g≠0)=>ba0 hh.P hh.O hg j.bytes t
 unfold wsJ
 by_cases c:(F8 s 0 j.bytes t).2=0
 ·rw[if_pos c]
  refine⟨h1.sync k1 0,k1.sync 0,fun e=>?_,fun g hg=>(l1 g hg).trans (KP k1.P k1.O hg)⟩
  have hnow:FV (p++bl t) ((F8 s 0 j.bytes t).1.fs 0).now:=by
   unfold F8 at c ⊢
   by_cases e1:bP s=true
   ·rw[if_pos e1] at c
    cases c
   ·rw[if_neg e1] at c ⊢
    simp only at c ⊢
    unfold ZB
    rw[if_pos c,vh0,uO,show j.bytes.toNat=p.length by omega]
    exact QI0 h.now
  generalize (F8 s 0 j.bytes t).1=s1 at hnow e k1
  unfold y7 at e ⊢
  by_cases e1:wP (FB s1) 0≠0
  ·rw[if_pos e1] at e
   exact absurd e e1
  ·rw[if_neg e1] at e ⊢
   by_cases e2:0<(FB s1).lost
   ·rw[if_pos e2] at e
    cases e
   ·rw[if_neg e2]
    have e3:((FB s1).fs 0).now=(s1.fs 0).now:=by
     unfold FB at e1 ⊢
     by_cases e4:bP s1=true
     ·rw[if_pos e4] at e1
      exfalso
      refine e1 fun hm=>?_
      have:=(BL.1 hm).1
      rw[Aa0] at this
      cases this
     ·rw[if_neg e4,uO]
    exact⟨by rw[PN,e3];exact hnow,by rw[PN,e3];exact hnow⟩
 ·rw[if_neg c]
  exact⟨h1,k1,fun e=>absurd e c,l1⟩
def ca0(P:EB→Prop)(k:Int)(v:ByteArray):Prop:=∃hd,P hd∧((k=0∧hd=⟨0,-1⟩)∨(k≠0∧v=jF hd.term hd.C_∧inI hd.term∧inI hd.C_))
abbrev Z_(l:List J7):Bs:=O7 (l.map A7)
def Vs0(P:List J7→Prop)(k:Int)(v:ByteArray):Prop:=∃l,P l∧((k=0∧l=[])∨(k≠0∧v=jF (Z_ l).length l.length))
structure Rc0 (l:List J7):Prop where
 recs:∀x∈l,iN x
 len:(Z_ l).length≤16777216
structure MD (d:DS) (P1:EB→Prop) (P2:List J7→Prop):Prop where
 h:∃st,Res d 2 st (ca0 P1)
 n:∃st,Res d 1 st (Vs0 P2)
 f:∀l,P2 l→Rc0 l∧BI d (Z_ l)
structure UpD (d:DS) (j:JP) (c:CS) (hd:EB) (l:List J7):Prop where
 h:Res d 2 c (ca0 (·=hd))
 n:Res d 1 j.c (Vs0 (·=l))
 pre:BI d (Z_ l)
 fit:Rc0 l
 ok:JOk j
 list:j.list=l.map A7
 sound:j.broken=false
theorem UpD.md{d:DS}{j:JP}{c:CS}{hd:EB}{l:List J7}(h:UpD d j c hd l):MD d (·=hd) (·=l):=⟨⟨_,h.h⟩,⟨_,h.n⟩,fun l' e=>by rw[e];exact⟨h.fit,h.pre⟩⟩
theorem Res.qu0{s:DS}{f:Int}{st:CS}{Ok:Int→ByteArray→Prop}(h:Res s f st Ok):KW s:=⟨h.1,h.2.1⟩
theorem MD.mono{d:DS}{P1 Q1:EB→Prop}{P2:List J7→Prop}(h:MD d P1 P2)(hq:∀x,P1 x→Q1 x):MD d Q1 P2:=by
 obtain⟨st,h1⟩:=h.h
 exact⟨⟨st,h1.mono fun k v ⟨hd,a,b⟩=>⟨hd,hq _ a,b⟩⟩,h.n,h.f⟩
theorem cr0{j:JP}{l:List J7}(hj:JOk j)(hl:j.list=l.map A7):j.bytes=(Z_ l).length:=by
 have:=hj.form
 rw[hl] at this
 exact this.symm
theorem AD0{l:List J7}(h:Rc0 l)(n:Nat):Rc0 (l.take n)∧∃q,Z_ l=Z_ (l.take n)++q:=by
 have e:Z_ l=Z_ (l.take n)++Z_ (l.drop n):=by
  unfold Z_ O7
  conv=>lhs;rw[←List.take_append_drop n l]
  rw[List.map_append,List.flatMap_append]
 refine⟨⟨fun x hx=>h.recs x (List.mem_of_mem_take hx),?_⟩,_,e⟩
 have:=h.len
 rw[e,List.length_append] at this
 omega
theorem fx0{s:DS}{j:JP}{hd:EB}{c:CS}{P2:List J7→Prop}(hh:Res s 2 c (ca0 (·=hd)))(hn:Res s 1 j.c (Vs0 P2))(hp:∀l,P2 l→Rc0 l∧BI s (Z_ l)){l:List J7}(hl:Rc0 l)(hpl:BI s (Z_ l)){b n:Int}(hb:b=(Z_ l).length)(hnn:n=l.length) :
  ∃s' j',wE s j b n=((s',j'),(wE s j b n).2)∧Res s' 2 c (ca0 (·=hd))∧j'.list=j.list∧j'.bytes=j.bytes ∧
   ((wE s j b n).2=0→j'.broken=false∧Res s' 1 j'.c (Vs0 (·=l))∧BI s' (Z_ l))∧((wE s j b n).2≠0→MD s' (·=hd) (fun x=>P2 x∨x=l)):=by
 have hlc:l.length≤(Z_ l).length:=by
  have:=dJ (l.map A7)
  rw[List.length_map] at this
  exact this
 have hll:=hl.len
 have hsz:=aW (b:=b) (n:=n) (by unfold inI;omega) (by unfold inI;omega)
 obtain⟨i1,i2⟩:=Mx0 (f:=1) (by omega) hn (jF b n) (by omega)
 obtain⟨q2,k2⟩:=jc0 (f:=1) (g:=2) hh.qu0 (by omega) j.c (jF b n)
 obtain⟨q0,_⟩:=jc0 (f:=1) (g:=0) hh.qu0 (by omega) j.c (jF b n)
 refine⟨(vM s j.c 1 (jF b n)).1.1,(wE s j b n).1.2,rfl,hh.lets q2 k2,rfl,rfl,fun e=>?_,fun e=>⟨⟨_,hh.lets q2 k2⟩,⟨_,i1.mono fun k v hv=>?_⟩,fun l' hl'=>?_⟩⟩
 ·have e:(vM s j.c 1 (jF b n)).2=0:=e
  obtain⟨_,_,i3⟩:=i2 e
  refine⟨?_,i3.mono fun k v hv=>⟨l,rfl,.inr ⟨hv.1,by rw[hv.2,hb,hnn]⟩⟩,hpl.lets q0⟩
  show (!decide ((vM s j.c 1 (jF b n)).2=0))=false
  rw[decide_eq_true e]
  rfl
 ·rcases hv with⟨l',a,b'⟩ | ⟨a,b'⟩
  ·exact⟨l',.inl a,b'⟩
  ·exact⟨l,.inr rfl,.inr ⟨a,by rw[b',hb,hnn]⟩⟩
 ·rcases hl' with a | rfl
  ·obtain⟨x,y⟩:=hp l' a
   exact⟨x,y.lets q0⟩
  ·exact⟨hl,hpl.lets q0⟩
theorem rL0{s:DS}{j:JP}{c:CS}{hd:EB}{l:List J7}(h:UpD s j c hd l){n:Nat}(hn:n≤l.length) :
  ∃s' j',aT s j n=((s',j'),(aT s j n).2)∧((aT s j n).2=0→UpD s' j' c hd (l.take n))∧((aT s j n).2≠0→∃P2,MD s' (·=hd) P2∧∀x,P2 x→x=l∨x=l.take n):=by
 have hlen:j.list.length=l.length:=by rw[h.list,List.length_map]
 unfold aT
 rw[if_neg (by rw[h.sound];decide),if_neg (by omega)]
 by_cases e:(n:Int)=j.list.length
 ·rw[if_pos e]
  refine⟨s,j,rfl,fun _=>?_,fun hh=>absurd rfl hh⟩
  rw[List.take_of_length_le (by omega)]
  exact h
 rw[if_neg e]
 have et:j.list.take (n:Int).toNat=(l.take n).map A7:=by rw[h.list,Int.toNat_natCast,List.map_take]
 obtain⟨hf,q,hq⟩:=AD0 h.fit n
 have hpre:BI s (Z_ (l.take n)):=by
  have:=h.pre
  rw[hq] at this
  exact this.pre
 obtain⟨s',j',e1,e2,e3,e4,e5,e6⟩:=fx0 (l:=l.take n) h.h h.n (fun l' hl'=>by rw[hl'];exact⟨h.fit,h.pre⟩) hf hpre (b:=((Z_ (l.take n)).length:Int)) (n:=n) rfl (by rw[List.length_take];omega)
 rw[et]
 by_cases z:(wE s j ((Z_ (l.take n)).length:Int) n).2=0
 ·rw[if_pos z]
  obtain⟨a,b,d⟩:=e5 z
  refine⟨(wE s j ((Z_ (l.take n)).length:Int) n).1.1,_,rfl,fun _=>?_,fun hh=>absurd rfl hh⟩
  have hs:(wE s j ((Z_ (l.take n)).length:Int) n).1.1=s':=by rw[e1]
  have hj:(wE s j ((Z_ (l.take n)).length:Int) n).1.2=j':=by rw[e1]
  rw[hs,hj]
  exact⟨e2,b,d,hf,⟨by have:=hf.len;show 0≤((Z_ (l.take n)).length:Int)∧((Z_ (l.take n)).length:Int)≤_;omega,rfl⟩,rfl,a⟩
 ·rw[if_neg z]
  refine⟨s',j',e1,fun hh=>absurd hh z,fun hh=>?_⟩
  exact⟨_,e6 z,fun x hx=>hx⟩
theorem cL0{s:DS}{j:JP}{c:CS}{hd:EB}{l:List J7}(h:UpD s j c hd l){recs:List J7}(hr:∀x∈recs,iN x)(hne:recs≠[]) :
  ∃s' j',uE s j (recs.map A7)=((s',j'),(uE s j (recs.map A7)).2)∧((uE s j (recs.map A7)).2=0→UpD s' j' c hd (l++recs))∧((uE s j (recs.map A7)).2≠0→∃P2,MD s' (·=hd) P2∧∀x,P2 x→x=l∨x=l++recs):=by
 have hbytes:=cr0 h.ok h.list
 have efl:Z_ (l++recs)=Z_ l++Z_ recs:=by
  unfold Z_ O7
  rw[List.map_append,List.flatMap_append]
 have hlen:j.list.length=l.length:=by rw[h.list,List.length_map]
 have hml:(recs.map A7).length=recs.length:=List.length_map ..
 unfold uE
 rw[if_neg (by rw[h.sound];decide),if_neg (fun e=>hne (List.map_eq_nil_iff.1 e))]
 by_cases e0:1048576<j.bytes+((Z_ recs).length:Int)
 ·rw[if_pos e0]
  exact⟨s,j,rfl,fun hh=>(by cases hh),fun _=>⟨_,h.md,fun x hx => .inl hx⟩⟩
 rw[if_neg e0]
 have hl2:Rc0 (l++recs):=⟨fun x hx=>by
  rcases List.mem_append.1 hx with hx | hx
  ·exact h.fit.recs x hx
  ·exact hr x hx,by rw[efl,List.length_append];omega⟩
 obtain⟨w1,w2,w3,w4⟩:=NM0 h.pre h.h.qu0 hbytes (ofL (Z_ recs))
 rw[BD,←efl] at w3
 have r2:=h.h.lets (w4 2 (by omega)) w2
 have r1:=h.n.lets (w4 1 (by omega)) w2
 by_cases e1:(wsJ s j (ofL (Z_ recs))).2=0
 ·rw[if_pos e1]
  have w3:=w3 e1
  generalize (wsJ s j (ofL (Z_ recs))).1=s1 at *
  obtain⟨s',j',n1,n2,n3,n4,n5,n6⟩:=fx0 (l:=l++recs) r2 r1 (fun l' hl'=>by rw[hl'];exact⟨h.fit,w1⟩) hl2 w3 (b:=j.bytes+(Z_ recs).length) (n:=j.list.length+(recs.map A7).length) (by rw[efl,List.length_append];omega) (by rw[List.length_append];omega)
  unfold VX
  by_cases z:(wE s1 j (j.bytes+(Z_ recs).length) (j.list.length+(recs.map A7).length)).2=0
  ·rw[if_pos z]
   obtain⟨a,b,d⟩:=n5 z
   have hs:(wE s1 j (j.bytes+(Z_ recs).length) (j.list.length+(recs.map A7).length)).1.1=s':=by rw[n1]
   have hj:(wE s1 j (j.bytes+(Z_ recs).length) (j.list.length+(recs.map A7).length)).1.2=j':=by rw[n1]
   rw[hs,hj]
   refine⟨s',_,rfl,fun _=>⟨n2,b,d,hl2,⟨?_,?_⟩,?_,a⟩,fun hh=>absurd rfl hh⟩
   ·show 0≤j.bytes+((Z_ recs).length:Int)∧j.bytes+((Z_ recs).length:Int)≤_
    omega
   ·show ((O7 (j.list++recs.map A7)).length:Int)=j.bytes+((Z_ recs).length:Int)
    rw[h.list,←List.map_append]
    show ((Z_ (l++recs)).length:Int)=_
    rw[efl,List.length_append]
    omega
   ·show j.list++recs.map A7=_
    rw[h.list,List.map_append]
  ·rw[if_neg z]
   exact⟨s',j',n1,fun hh=>absurd hh z,fun hh=>⟨_,n6 z,fun x hx=>hx⟩⟩
 ·rw[if_neg e1]
  exact⟨_,_,rfl,fun hh=>absurd hh e1,fun _=>⟨(·=l),⟨⟨_,r2⟩,⟨_,r1⟩,fun l' e=>by rw[e];exact⟨h.fit,w1⟩⟩,fun x hx => .inl hx⟩⟩
theorem aG0{m:aB}{u:UpP}{o:LC}{hd hd':EB}{l l':List J7}(h:UpD m.d u.j u.c hd l)(hs:o.save=true→o.hard=hd'∧inI hd'.term∧inI hd'.C_)(hn:o.save=false→hd'=hd)
  (hl:(¬0<o.from_∧l'=l)∨(0<o.from_∧l'=l.take (o.from_-1).toNat++o.recs∧(o.from_-1).toNat≤l.length∧o.recs≠[])) (hr:∀x∈o.recs,iN x) :
  ((IC m u o).2=0∧∃d' j' c',(IC m u o).1=⟨d',m.kv,some ⟨j',c',u.r⟩⟩∧UpD d' j' c' hd' l') ∨
  ((IC m u o).2≠0∧∃d',(IC m u o).1=⟨d',m.kv,none⟩∧∃P1 P2,MD d' P1 P2∧∀a b,P1 a→P2 b→((a=hd∨a=hd')∧b=l)∨(0<o.from_∧a=hd'∧(b=l∨b=l.take (o.from_-1).toNat∨b=l'))):=by
 have h1:((RF m u o).2=0∧UpD (RF m u o).1.1 u.j (RF m u o).1.2 hd' l)∨((RF m u o).2≠0∧MD (RF m u o).1.1 (fun x=>x=hd∨x=hd') (·=l)):=by
  unfold RF
  by_cases c:o.save=true
  ·rw[if_pos c]
   obtain⟨a,b,d⟩:=hs c
   rw[a]
   have hsz:=aW b d
   obtain⟨i1,i2⟩:=Mx0 (f:=2) (by omega) h.h (jF hd'.term hd'.C_) (by omega)
   obtain⟨q1,k1⟩:=jc0 (f:=2) (g:=1) h.h.qu0 (by omega) u.c (jF hd'.term hd'.C_)
   obtain⟨q0,_⟩:=jc0 (f:=2) (g:=0) h.h.qu0 (by omega) u.c (jF hd'.term hd'.C_)
   by_cases z:(vM m.d u.c 2 (jF hd'.term hd'.C_)).2=0
   ·left
    obtain⟨_,_,i3⟩:=i2 z
    exact⟨z,i3.mono fun k v hv=>⟨hd',rfl,.inr ⟨hv.1,hv.2,b,d⟩⟩,h.n.lets q1 k1,h.pre.lets q0,h.fit,h.ok,h.list,h.sound⟩
   ·right
    refine⟨z,⟨_,i1.mono fun k v hv=>?_⟩,⟨_,h.n.lets q1 k1⟩,fun l' e=>by rw[e];exact⟨h.fit,h.pre.lets q0⟩⟩
    rcases hv with⟨x,rfl,hx⟩ | ⟨x,y⟩
    ·exact⟨x,.inl rfl,hx⟩
    ·exact⟨hd',.inr rfl,.inr ⟨x,y,b,d⟩⟩
  ·rw[if_neg c]
   have:=hn (by simpa using c)
   subst this
   exact .inl ⟨rfl,h⟩
 unfold IC
 generalize RF m u o=x at h1
 obtain⟨⟨d1,c1⟩,e1⟩:=x
 simp only at h1 ⊢
 rcases h1 with⟨rfl,hu⟩ | ⟨hne,hmd⟩
 case inr =>
  right
  unfold IP
  rw[if_neg (fun hh=>hne hh.1)]
  unfold JX
  rw[if_pos (show e1≠0 from hne)]
  exact⟨hne,d1,rfl,_,_,hmd,fun a b ha hb => .inl ⟨ha,hb⟩⟩
 unfold IP
 rcases hl with⟨l0,rfl⟩ | ⟨l0,l1,l2,l3⟩
 ·rw[if_neg (fun hh=>l0 hh.2)]
  unfold JX
  rw[if_neg (fun hh=>hh rfl)]
  exact .inl ⟨rfl,d1,u.j,c1,rfl,hu⟩
 rw[if_pos ⟨rfl,l0⟩]
 have hjl:u.j.list.length=l.length:=by rw[h.list,List.length_map]
 have hmin:min (o.from_-1) u.j.list.length=(((o.from_-1).toNat:Nat):Int):=by omega
 unfold sW
 rw[hmin]
 obtain⟨s2,j2,a1,a2,a3⟩:=rL0 hu l2
 generalize (o.from_-1).toNat=n at *
 rw[a1]
 simp only
 by_cases z:(aT d1 u.j n).2=0
 ·rw[if_neg (fun hh=>hh z)]
  have hu2:=a2 z
  obtain⟨s3,j3,b1,b2,b3⟩:=cL0 hu2 hr l3
  rw[b1]
  rw[←l1] at b2 b3
  unfold JX
  simp only
  by_cases y:(uE s2 j2 (o.recs.map A7)).2=0
  ·rw[if_neg (fun hh=>hh y)]
   exact .inl ⟨rfl,s3,j3,c1,rfl,b2 y⟩
  ·rw[if_pos y]
   obtain⟨P2,p1,p2⟩:=b3 y
   refine .inr ⟨y,s3,rfl,_,P2,p1,fun a b ha hb => .inr ⟨l0,ha,.inr (p2 b hb)⟩⟩
 ·rw[if_pos z]
  unfold JX
  simp only
  rw[if_pos z]
  obtain⟨P2,p1,p2⟩:=a3 z
  refine .inr ⟨z,s2,rfl,_,P2,p1,fun a b ha hb => .inr ⟨l0,ha,?_⟩⟩
  rcases p2 b hb with e | e
  ·exact .inl e
  ·exact .inr (.inl e)
theorem Jr0{c:CS}(h:bM c):0<c.slot↔c.slot≠0:=by unfold bM at h;omega
theorem VH0{P:EB→Prop}{c:CS}(h:ca0 P c.slot c.value)(hs:bM c):∃hd,P hd∧IW c=hd∧ca0 (·=hd) c.slot c.value:=by
 obtain⟨hd,a,b⟩:=h
 refine⟨hd,a,?_,hd,rfl,b⟩
 unfold IW
 rcases b with⟨b,e⟩ | ⟨b,e,i1,i2⟩
 ·rw[if_neg (by omega),e]
 ·rw[if_pos ((Jr0 hs).2 b),e]
  unfold jF
  rw[BD,zq0 i1 i2]
theorem BI0{P:List J7→Prop}{c:CS}(h:Vs0 P c.slot c.value)(hs:bM c)(hf:∀l,P l→Rc0 l):∃l,P l∧tF c=((((Z_ l).length:Int),(l.length:Int)),true)∧Vs0 (·=l) c.slot c.value:=by
 obtain⟨l,a,b⟩:=h
 refine⟨l,a,?_,l,rfl,b⟩
 have hl:=hf l a
 have hll:=hl.len
 have hlc:l.length≤(Z_ l).length:=by
  have:=dJ (l.map A7)
  rw[List.length_map] at this
  exact this
 unfold tF
 rcases b with⟨b,e⟩ | ⟨b,e⟩
 ·rw[if_neg (by omega),e]
  rfl
 ·rw[if_pos ((Jr0 hs).2 b),e]
  unfold jF wK0
  rw[BD,AX (by omega) (by unfold inI;omega)]
  simp only
  have:=AX (n:=(l.length:Int)) (by omega) (by unfold inI;omega) [] false
  rw[List.append_nil] at this
  rw[this]
  rfl
theorem Ef0:∀(l:List Bs) (acc:List Bs) (k:Nat) (n:Int),(∀x∈l,x.length≤9223372036854775807)→n=acc.length+l.length→l.length<k→LU n k acc ⟨O7 l,false⟩=(acc++l,⟨[],false⟩)
 | [],acc,k,n,_,hn,hk=>by
  obtain⟨k,rfl⟩:∃i,k=i+1:=⟨k-1,by rw[List.length_nil] at hk;omega⟩
  rw[LU,if_neg (by rw[List.length_nil] at hn;omega),List.append_nil]
  rfl
 | x :: l,acc,k,n,hx,hn,hk=>by
  rw[List.length_cons] at hn hk
  obtain⟨k,rfl⟩:∃i,k=i+1:=⟨k-1,by omega⟩
  have e:SA ⟨O7 (x :: l),false⟩=(x,⟨O7 l,false⟩):=RN (hx x (List.mem_cons_self ..)) _
  have hp:=fD0 x
  rw[LU,if_pos (by omega),e]
  have hne:¬((⟨O7 (x :: l),false⟩:RS).rest.length≤(x,(⟨O7 l,false⟩:RS)).2.rest.length∨(⟨O7 (x :: l),false⟩:RS).rest.length=0):=by
   show ¬((bB x++O7 l).length≤(O7 l).length∨(bB x++O7 l).length=0)
   rw[List.length_append]
   omega
  rw[if_neg hne]
  show LU n k (acc++[x]) ⟨O7 l,false⟩=_
  rw[Ef0 l (acc++[x]) k n (fun y hy=>hx y (List.mem_cons_of_mem _ hy)) (by rw[List.length_append,List.length_singleton];omega) (by omega),List.append_assoc]
  rfl
theorem bv0{l:List J7}(h:Rc0 l):wT (Z_ l) l.length=(l.map A7,true):=by
 have hll:=h.len
 have hlc:l.length≤(Z_ l).length:=by
  have:=dJ (l.map A7)
  rw[List.length_map] at this
  exact this
 have e:kZ (Z_ l) l.length=(l.map A7,⟨[],false⟩):=by
  unfold kZ
  rw[Ef0 (l.map A7) [] _ _ (fun x hx=>by
   obtain⟨y,hy,rfl⟩:=List.mem_map.1 hx
   have:=bT (h.recs y hy)
   omega) (by rw[List.length_map,List.length_nil];omega) (by rw[List.length_map];omega)]
  rfl
 unfold wT
 rw[e]
 simp only
 rw[List.length_map,decide_eq_true rfl]
 simp only[decide_true]
 rfl
theorem nr0{s:DS}{f:Int}{st:CS}{Ok:Int→ByteArray→Prop}(hf:0≤f∧f<16)(h:Res s f st Ok)(hd:s.down=false):KN s f=(some ⟨st.slot,st.value,false⟩,0)∧Ok st.slot st.value:=by
 obtain⟨_,_,_,hc⟩:=h
 rcases hc with⟨_,k0,v0,b,c,_⟩ | ⟨a,_⟩
 ·exact⟨EI0 (BL.2 ⟨hd,hf⟩) b.now,c⟩
 ·rw[hd] at a;cases a
theorem Vr0{s:DS}{f:Int}{st:CS}{Ok:Int→ByteArray→Prop}(hf:0≤f∧f<16)(h:Res s f st Ok) :
  ((y7 s f).2≠0∧Res (y7 s f).1 f st Ok)∨((y7 s f).2=0∧(y7 s f).1.down=false∧Ok st.slot st.value∧Res (y7 s f).1 f ⟨st.slot,st.value,false⟩ (fun k v=>k=st.slot∧v=st.value)):=by
 obtain⟨hP,hO,hst,hc⟩:=h
 rcases hc with⟨hd,k0,v0,b,c1,c2⟩ | ⟨hd,k,v,b,c1⟩
 ·rcases vY ⟨hP,hO,hd,hf⟩ b with⟨e,u,hfs,hpd⟩ | ⟨e,hr⟩
  ·refine .inr ⟨e,u.d,c1,u.P,u.O,hst,.inl ⟨u.d,st.slot,st.value,?_,⟨rfl,rfl⟩,⟨rfl,rfl⟩⟩⟩
   have:=b.settle false hpd
   rw[hfs]
   exact this
  ·exact .inl ⟨e,hr Ok c1 c2⟩
 ·rw[Wx0 hd]
  exact .inl ⟨by show (9:Int)≠0;decide,hP,hO,hst,.inr ⟨hd,k,v,b,c1⟩⟩
theorem sm0{s:DS}{f:Int}{st:CS}{Ok:Int→ByteArray→Prop}(h:Res s f st Ok):∃st',Res { s with down:=false } f st' Ok:=by
 obtain⟨hP,hO,hst,hc⟩:=h
 have hO2:DOk { s with down:=false }:=⟨hO.now,hO.last,hO.q,hO.nd,hO.lost,hO.armed⟩
 rcases hc with⟨hd,k0,v0,b,c1,c2⟩ | ⟨hd,k,v,b,c1⟩
 ·exact⟨st,hP,hO2,hst,.inl ⟨rfl,k0,v0,b,c1,c2⟩⟩
 ·refine⟨⟨k,v,false⟩,hP,hO2,b.now.cv.kr,.inl ⟨rfl,k,v,⟨b.now,?_,?_,fun n hn=>absurd hn (b.pd n),fun _=>⟨fun n hn=>absurd hn (b.pd n),rfl,rfl⟩⟩,c1,c1⟩⟩
  ·show Ke0 (s.fs f).last k v
   rw[b.last];exact b.now
  ·show Dt (s.fs f).last k v
   rw[b.last];exact b.now.dt
theorem MD.start{d:DS}{P1:EB→Prop}{P2:List J7→Prop}(h:MD d P1 P2):MD { d with down:=false } P1 P2:=by
 obtain⟨st,h1⟩:=h.h
 obtain⟨st',h2⟩:=h.n
 exact⟨sm0 h1,sm0 h2,fun l hl=>⟨(h.f l hl).1,(h.f l hl).2.now,(h.f l hl).2.last⟩⟩
theorem MD.IK{d:DS}{P1:EB→Prop}{P2:List J7→Prop}(h:MD d P1 P2)(keep:List Int):MD (rA d keep) P1 P2:=by
 obtain⟨st,h1⟩:=h.h
 obtain⟨st',h2⟩:=h.n
 have hh:=h1.qu0
 have hh2:KW (rA d keep):=⟨PI.IK hh.P keep,hh.O.IK keep⟩
 have hl:∀f,Lets f d (rA d keep):=fun f=>by
  by_cases c:d.down=true
  ·unfold rA
   rw[if_pos c]
   exact Lets.refl f d
  ·have hd:d.down=false:=by simpa using c
   exact GZ keep hd hd rfl (fun _=>Iff.rfl) hh.P hh.O
 exact⟨⟨st,h1.lets (hl 2) hh2⟩,⟨st',h2.lets (hl 1) hh2⟩,fun l hp=>⟨(h.f l hp).1,(h.f l hp).2.IK hh keep⟩⟩
theorem MD.lose{d:DS}{P1:EB→Prop}{P2:List J7→Prop}(h:MD d P1 P2){n:Int}(hn:n≤9223372036854775807):MD { d with lost:=max n 0 } P1 P2:=by
 obtain⟨st,h1⟩:=h.h
 obtain⟨st',h2⟩:=h.n
 exact⟨⟨st,dc0 h1 hn⟩,⟨st',dc0 h2 hn⟩,fun l hl=>⟨(h.f l hl).1,(h.f l hl).2.now,(h.f l hl).2.last⟩⟩
theorem MD.arm{d:DS}{P1:EB→Prop}{P2:List J7→Prop}(h:MD d P1 P2){n:Int}(hn:n≤9223372036854775807)(k:List Int):MD { d with armed:=max n 0,keep:=k } P1 P2:=by
 obtain⟨st,h1⟩:=h.h
 obtain⟨st',h2⟩:=h.n
 exact⟨⟨st,Zg0 h1 hn k⟩,⟨st',Zg0 h2 hn k⟩,fun l hl=>⟨(h.f l hl).1,(h.f l hl).2.now,(h.f l hl).2.last⟩⟩
theorem UpD.lose{d:DS}{j:JP}{c:CS}{hd:EB}{l:List J7}(h:UpD d j c hd l){n:Int}(hn:n≤9223372036854775807):UpD { d with lost:=max n 0 } j c hd l :=
 ⟨dc0 h.h hn,dc0 h.n hn,⟨h.pre.now,h.pre.last⟩,h.fit,h.ok,h.list,h.sound⟩
theorem UpD.arm{d:DS}{j:JP}{c:CS}{hd:EB}{l:List J7}(h:UpD d j c hd l){n:Int}(hn:n≤9223372036854775807)(k:List Int):UpD { d with armed:=max n 0,keep:=k } j c hd l :=
 ⟨Zg0 h.h hn k,Zg0 h.n hn k,⟨h.pre.now,h.pre.last⟩,h.fit,h.ok,h.list,h.sound⟩
theorem TE0{s:DS}{P1:EB→Prop}{P2:List J7→Prop}(h:MD s P1 P2) :
  (∃s' e,pV s=(s',(none,e))∧MD s' P1 P2)∨(∃s' j c e hd l,pV s=(s',(some (j,c),e))∧P1 hd∧P2 l∧UpD s' j c hd l∧IW c=hd):=by
 obtain⟨sh,h1⟩:=h.h
 obtain⟨sj,h2⟩:=h.n
 have hh:=h1.qu0
 have k1:=hh.sync 2
 have l1:=fun g (hg:g≠2)=>KP hh.P hh.O (f:=2) hg
 have f1:∀l,P2 l→Rc0 l∧BI (y7 s 2).1 (Z_ l):=fun l hl=>⟨(h.f l hl).1,(h.f l hl).2.lets (l1 0 (by omega))⟩
 have n1:=h2.lets (l1 1 (by omega)) k1
 unfold pV
 rcases Vr0 (f:=2) (by omega) h1 with⟨e,r⟩ | ⟨e,_,ok1,r⟩
 ·rw[if_pos e]
  exact .inl ⟨_,_,rfl,⟨⟨_,r⟩,⟨_,n1⟩,f1⟩⟩
 rw[if_neg (fun hh=>hh e)]
 clear e
 generalize (y7 s 2).1=s1 at *
 obtain⟨hd,p1,hhd,hv⟩:=VH0 (c:=⟨sh.slot,sh.value,false⟩) ok1 r.2.2.1
 have r:Res s1 2 ⟨sh.slot,sh.value,false⟩ (ca0 (·=hd)):=r.mono fun k v ⟨a,b⟩=>by rw[a,b];exact hv
 have wide:∀{s'},Res s' 2 ⟨sh.slot,sh.value,false⟩ (ca0 (·=hd))→Res s' 2 ⟨sh.slot,sh.value,false⟩ (ca0 P1):=fun h=>h.mono fun k v ⟨x,a,b⟩=>⟨x,by rw[a];exact p1,b⟩
 unfold Tl0 OL
 have k2:=k1.sync 0
 have l2:=fun g (hg:g≠0)=>KP k1.P k1.O (f:=0) hg
 have f2:∀l,P2 l→Rc0 l∧BI (y7 s1 0).1 (Z_ l):=fun l hl=>⟨(f1 l hl).1,(f1 l hl).2.sync k1 0⟩
 have n2:=n1.lets (l2 1 (by omega)) k2
 have r2:=r.lets (l2 2 (by omega)) k2
 by_cases e2:(y7 s1 0).2≠0
 ·rw[if_pos e2]
  exact .inl ⟨_,_,rfl,⟨⟨_,wide r2⟩,⟨_,n2⟩,f2⟩⟩
 rw[if_neg e2]
 clear e2
 generalize (y7 s1 0).1=s2 at *
 have k3:=k2.sync 1
 have l3:=fun g (hg:g≠1)=>KP k2.P k2.O (f:=1) hg
 have f3:∀l,P2 l→Rc0 l∧BI (y7 s2 1).1 (Z_ l):=fun l hl=>⟨(f2 l hl).1,(f2 l hl).2.lets (l3 0 (by omega))⟩
 have r3:=r2.lets (l3 2 (by omega)) k3
 rcases Vr0 (f:=1) (by omega) n2 with⟨e,n3⟩ | ⟨e,hdn,ok3,n3⟩
 ·rw[if_pos e]
  exact .inl ⟨_,_,rfl,⟨⟨_,wide r3⟩,⟨_,n3⟩,f3⟩⟩
 rw[if_neg (fun hh=>hh e)]
 clear e
 generalize (y7 s2 1).1=s3 at *
 obtain⟨l,p2,rX,hv2⟩:=BI0 (c:=⟨sj.slot,sj.value,false⟩) ok3 n3.2.2.1 fun l hl=>(h.f l hl).1
 have n3:Res s3 1 ⟨sj.slot,sj.value,false⟩ (Vs0 (·=l)):=n3.mono fun k v ⟨a,b⟩=>by rw[a,b];exact hv2
 obtain⟨hfit,hpre⟩:=f3 l p2
 have o1:=(nr0 (f:=1) (by omega) n3 hdn).1
 have o2:=(nr0 (f:=2) (by omega) r3 hdn).1
 have hread:GD s3 0 0 ((Z_ l).length:Int)=(ofL (Z_ l),0):=by
  rw[ac0 (BL.2 ⟨hdn,by omega⟩) (by omega) (by omega)]
  show (ofL (((bl (s3.fs 0).now).drop 0).take ((Z_ l).length:Int).toNat),(0:Int))=_
  rw[List.drop_zero,Int.toNat_natCast,hpre.now.take]
 have e4:oV s3=(some ⟨l.map A7,(Z_ l).length,false,⟨sj.slot,sj.value,false⟩⟩,0):=by
  unfold oV
  rw[o1]
  show gj0 s3 ⟨sj.slot,sj.value,false⟩=_
  unfold gj0
  rw[rX,if_neg (fun hh=>by cases hh)]
  simp only
  rw[hread,if_neg (fun hh=>hh rfl)]
  simp only
  rw[BD,bv0 hfit,if_neg (fun hh=>by cases hh),if_neg (by rw[J_];exact fun hh=>hh rfl)]
 rw[e4]
 simp only
 rw[o2]
 refine .inr ⟨s3,_,_,_,hd,l,rfl,p1,p2,⟨r3,n3,hpre,hfit,⟨?_,rfl⟩,rfl,rfl⟩,hhd⟩
 have:=hfit.len
 show 0≤((Z_ l).length:Int)∧((Z_ l).length:Int)≤_
 omega
theorem RA0{l:List J7}(h:Rc0 l):(l.map A7).map mW=l:=by
 rw[List.map_map]
 conv=>rhs;rw[←List.map_id l]
 exact List.map_congr_left fun x hx=>nF0 (h.recs x hx)
theorem iG0{id:Int}{kv:Value}{s:DS}{P1:EB→Prop}{P2:List J7→Prop}(h:MD s P1 P2) :
  (∃d' Q1 Q2,(upM id kv s).1=⟨d',kv,none⟩∧MD d' Q1 Q2∧(∀a,Q1 a→P1 a)∧∀b,Q2 b→P2 b)∨(∃d' j c hd l,(upM id kv s).1=⟨d',kv,some ⟨j,c,newR id hd l⟩⟩∧P1 hd∧P2 l∧UpD d' j c hd l):=by
 unfold upM
 rcases TE0 h with⟨s',e,h1,h2⟩ | ⟨s',j,c,e,hd,l,h1,p1,p2,hu,hh⟩
 ·rw[h1]
  exact .inl ⟨s',P1,P2,rfl,h2,fun _ h=>h,fun _ h=>h⟩
 ·rw[h1]
  simp only
  have hrec:j.list.map mW=l:=by rw[hu.list];exact RA0 hu.fit
  unfold qF0
  rw[hh,hrec]
  by_cases c0:OY id hd l
  ·rw[if_pos c0]
   exact .inr ⟨s',j,c,hd,l,rfl,p1,p2,hu⟩
  ·rw[if_neg c0]
   exact .inl ⟨s',_,_,rfl,hu.md,fun a e=>by rw[e];exact p1,fun b e=>by rw[e];exact p2⟩
theorem gM0:MD wB (·=⟨0,-1⟩) (·=[]):=by
 have hp:BI wB (Z_ []):=⟨⟨Nat.zero_le _,fun i hi=>(by cases hi)⟩,⟨Nat.zero_le _,fun i hi=>(by cases hi)⟩⟩
 exact⟨⟨_,(wx0 2).mono fun k v ⟨a,_⟩=>⟨_,rfl,.inl ⟨a,rfl⟩⟩⟩,⟨_,(wx0 1).mono fun k v ⟨a,_⟩=>⟨_,rfl,.inl ⟨a,rfl⟩⟩⟩,fun l e=>by rw[e];exact⟨⟨fun x hx=>(by cases hx),Nat.zero_le _⟩,hp⟩⟩
structure L8 where
 mem:T3 aB
 net:zI
 committed:List Bs
structure GQ where
 m:T3 MQ
 np:Nat
structure GAt (cs:Array Value) (q:GQ) (mem:T3 aB) (cv:Value):Prop where
 size:cs.size=14
 mem:∀i,I3 i→RA cs (4 * i.toNat) (q.m.get i) (mem.get i).up.isSome
 np:cs.toList[12]? = some (ptr q.np)
 cv:cs.toList[13]? = some cv
def WV(pg:Nat)(g:L8)(q:GQ)(cs:Array Value)(cv:Value):List Dat:=[O1 pg Q3 cs,G8 q.m.a g.mem.a,G8 q.m.b g.mem.b,G8 q.m.c g.mem.c,XA q.np g.net,V3 U2 cv (g.committed.map ofL)]
def Y8(pg:Nat)(g:L8):Dat:=Dat.ex fun x:GQ×Array Value×Value=>Dat.and (Dat.pure (GAt x.2.1 x.1 g.mem x.2.2)) (eD (WV pg g x.1 x.2.1 x.2.2))
def dP(c:List Bs)(m:aB):List Bs:=match m.up with
 | none=>c
 | some u=>if u.r.commit≤c.length then c else(u.r.log.take u.r.commit.toNat).map fun x=>bl x.data
def sM(g:L8):Nat→List Bs
 | 0=>g.committed
 | 1=>dP g.committed g.mem.a
 | 2=>dP (dP g.committed g.mem.a) g.mem.b
 | _=>dP (dP (dP g.committed g.mem.a) g.mem.b) g.mem.c
def jZ(g:L8):L8:={ g with committed:=sM g 3 }
theorem Su0(g:L8){i:Nat}(hi:i<3):sM g (i+1)=dP (sM g i) (g.mem.get i):=by
 have:i=0∨i=1∨i=2:=by omega
 rcases this with rfl | rfl | rfl<;>rfl
structure UOk (i:Int) (u:UpP):Prop where
 j:JOk u.j
 r:H8 u.r
 id:u.r.id=i
 term:u.r.role=2→1≤u.r.hard.term
def RY(mem:T3 aB):Prop:=∀i,I3 i→∀u,(mem.get i).up=some u→UOk i u
def NS(s:zI):Prop:=s.fl.length≤500∧∀p∈s.fl,∃m:U8,gL m∧p.body=ofL (nM m)
def DC(mem:T3 aB)(B:Base):Prop:=∀i,I3 i→Q4 (mem.get i).kv (mem.get i).d.keep B∧(mem.get i).d.keep.length≤1000000
theorem gN0{cs:Array Value}(h:cs.size=14):∃a b c d e f g i j k l m n o,cs=#[a,b,c,d,e,f,g,i,j,k,l,m,n,o]:=by
 obtain⟨L⟩:=cs
 match L,h with
 | [a,b,c,d,e,f,g,i,j,k,l,m,n,o],_=>exact⟨a,b,c,d,e,f,g,i,j,k,l,m,n,o,rfl⟩
theorem bO0:agB prog E_ 12=true:=by kernel_rfl
theorem idxM{Kp:Value→Prop}{a b c d e f g h i j k l:Value}{n:Nat}(hn:n<3){xs:List Value}(hx:xs=([a,b,c,d,e,f,g,h,i,j,k,l].drop (4 * n)).take 4):M0 prog (RZ E_ (.agg #[a,b,c,d,e,f,g,h,i,j,k,l]) (.int .i64 n)) Kp=Kp (.agg xs.toArray):=by
 subst hx
 have:n=0∨n=1∨n=2:=by omega
 rcases this with rfl | rfl | rfl
 all_goals exact V4 fun w=>by kernel_rfl
theorem tX{Kp:Value→Prop}{p:Nat}{i:Int}(hi:I3 i):M0 prog (Y4 E_ (.pointer (some ⟨p,0,none⟩)) (.int .i64 i)) Kp=Kp (.pointer (some ⟨p,4 * i.toNat,none⟩)):=by
 rcases hi.cases with rfl | rfl | rfl<;>exact V4 fun w=>by kernel_rfl
section
variable {B:Base} {w:World} {σ τ:List Dat} {pg:Nat} {g:L8} {K:PtK}
theorem Y8.open(h:Rel B w (Y8 pg g :: τ)):∃q cs cv,GAt cs q g.mem cv∧Rel B w (WV pg g q cs cv++τ):=by
 obtain⟨⟨q,cs,cv⟩,h⟩:=h.ex (i:=0) rfl
 obtain⟨hp,h⟩:=h.iW (i:=0) rfl
 exact⟨q,cs,cv,hp,Rel.BQ h⟩
theorem Y8.close{q:GQ}{cs:Array Value}{cv:Value}(ha:GAt cs q g.mem cv)(h:Rel B w (WV pg g q cs cv++τ)):Rel B w (Y8 pg g :: τ) :=
 (Rel.QJ h).imp (i:=0) (e:=Y8 pg g) rfl fun B hB=>⟨(q,cs,cv),ha,hB⟩
theorem Ow0{q:GQ}{cs:Array Value}{cv:Value}{i:Int}(hi:I3 i):(WV pg g q cs cv)[1+i.toNat]? = some (G8 (q.m.get i) (g.mem.get i)):=by
 rcases hi.cases with rfl | rfl | rfl<;>rfl
theorem G8.rep{q:MQ}{m:aB}{u:UpP}(h:G8 q m B)(hu:m.up=some u):BJ q.rp u.r B:=by
 unfold G8 Fk0 at h
 rw[hu] at h
 exact U_.toR (eD.get (j:=3) h rfl)
theorem RA.pts{cs:Array Value}{o:Nat}{q:MQ}{up:Bool}(h:RA cs o q up):∃a b c d,cs.toList[o]? = some (.pointer a)∧cs.toList[o+1]? = some (.pointer b)∧cs.toList[o+2]? = some (.pointer c)∧cs.toList[o+3]? = some (.pointer d):=by
 cases up with
 | true=>exact⟨_,_,_,_,h.at0,h.at1,h.at2,h.at3⟩
 | false =>
  obtain⟨b,hb⟩:=h.FN0
  obtain⟨c,hc⟩:=h.HN0
  exact⟨_,b,c,_,h.at0,hb,hc,h.LE0⟩
theorem wn0{Kp:Value→Prop}{xo yo:Operand}{a:Option Addr}:M0 prog (Y3 .eql R6 xo yo (.pointer a) (.pointer none)) Kp=Kp (.bool a.isNone):=by
 cases a with
 | none=>exact V4 fun w=>by kernel_rfl
 | some x=>exact uB kR
theorem cx0{Kp:Value→Prop}{xo yo:Operand}{a:Option Addr}:M0 prog (Y3 .neq R6 xo yo (.pointer a) (.pointer none)) Kp=Kp (.bool a.isSome):=by
 cases a with
 | none=>exact V4 fun w=>by kernel_rfl
 | some x=>exact EW kR
theorem GAt.NN0{cs:Array Value}{q:GQ}{mem:T3 aB}{cv v:Value}(h:GAt cs q mem cv):GAt (cs.setIfInBounds 13 v) q mem v where
 size:=by rw[Array.size_setIfInBounds];exact h.size
 mem:=fun i hi=>by
  have h1:=h.mem i hi
  have h2:i.toNat≤2:=by unfold I3 at hi;omega
  unfold RA at h1 ⊢
  rw[Y_ (by omega),Y_ (by omega),Y_ (by omega),Y_ (by omega)]
  exact h1
 np:=by rw[Y_ (by omega)];exact h.np
 cv:=by rw[jL (by have:=h.size;omega)]
set_option maxHeartbeats 2000000 in
theorem OE0(hok:RY g.mem)(hc:g.committed.length≤1000000):Does prog B (Y8 pg g) (Z0 CF #[ptr pg]) fun _ e' τ=>e'=Y8 pg (jZ g)∧τ=[]:=by
 refine Does.intro fun B' w K base h k=>?_
 refine zL.up ?_
 unfold zL.pt
 obtain⟨q,cs,cv,ha,h⟩:=Y8.open h
 rw[List.append_nil] at h
 simp -zeta only[y5,U0 bC,Nat.zero_add]
 obtain⟨a,b,c,d,e,f,g',i',j,k',l,m,n,o,rfl⟩:=gN0 ha.size
 rw[F6.Q9 (xs:=[a,b,c,d,e,f,g',i',j,k',l,m]) (O1.sub (h.here (i:=0) rfl) rfl) bO0 rfl]
 have hat:=ha.mem
 have hpts:∀i:Nat,i<3→∃x y z t,(([a,b,c,d,e,f,g',i',j,k',l,m].drop (4 * i)).take 4)=[.pointer x,.pointer y,.pointer z,.pointer t]∧(if(g.mem.get i).up.isSome=true then(.pointer t:Value)=ptr (q.m.get i).rp else t=none):=by
  intro i hi
  have hi3:I3 (i:Int):=by unfold I3;omega
  have h1:=hat i hi3
  obtain⟨x,y,z,t,h2,h3,h4,h5⟩:=h1.pts
  have h6:(if(g.mem.get i).up.isSome=true then(.pointer t:Value)=ptr (q.m.get i).rp else t=none):=by
   cases hu:(g.mem.get i).up.isSome with
   | true =>
    rw[hu] at h1
    rw[if_pos rfl]
    have:=h1.at3
    rw[h5] at this
    exact Option.some.inj this
   | false =>
    rw[hu] at h1
    rw[if_neg (by decide)]
    have:=h1.LE0
    rw[h5] at this
    cases this
    rfl
  refine⟨x,y,z,t,?_,h6⟩
  have:i=0∨i=1∨i=2:=by omega
  rcases this with rfl | rfl | rfl
  all_goals
   cases h2
   cases h3
   cases h4
   cases h5
   rfl
 refine M6 (fun z w'=>∃(i:Nat) (cs:Array Value) (cv:Value),i≤3∧z=(.int .i64 i,())∧GAt cs q g.mem cv∧(sM g i).length≤1000000∧Rel B' w' (WV pg { g with committed:=sM g i } q cs cv))
  (fun z _=>3-(match z.1 with | .int _ n=>n.toNat | _=>0)) ⟨0,_,cv,Nat.zero_le _,rfl,ha,hc,h⟩ ?_
 clear h ha hat cv
 rintro z w1 ⟨i,cs,cv,hi,rfl,ha,hcl,h⟩ next hnext
 rw[D6,K3]
 refine⟨fun hlt=>?_,fun hge=>?_⟩
 case refine_2 =>
  have:i=3:=by omega
  subst this
  exact k _ _ [] _ ⟨rfl,rfl⟩ (Y8.close (g:=jZ g) ha (by rw[List.append_nil];exact h))
 have hi3:i<3:=by omega
 have hI:I3 (i:Int):=by unfold I3;omega
 refine Q6 fun J hJ=>?_
 replace hJ:∀(cs:Array Value) (cv:Value) (w':World),GAt cs q g.mem cv→(sM g (i+1)).length≤1000000→Rel B' w' (WV pg { g with committed:=sM g (i+1) } q cs cv)→J () w':=by
  intro cs cv w' ha hl h
  refine hJ _ _ ?_
  rw[V5,D5 (by omega) (by omega)]
  exact hnext _ _ ⟨i+1,cs,cv,by omega,rfl,ha,hl,h⟩ (by simp only;omega)
 clear hnext
 obtain⟨x,y,z,t,hx,ht⟩:=hpts i hi3
 rw[idxM hi3 hx.symm]
 refine h.r9 (ds:=#[.pointer x,.pointer y,.pointer z,.pointer t]) fk0 rfl Uf0 rfl (fun v hv=>?_) fun m3 w2 h=>?_
 ·have hv:v∈[Value.pointer x,.pointer y,.pointer z,.pointer t]:=hv
  simp only[List.mem_cons,List.not_mem_nil,or_false] at hv
  rcases hv with rfl | rfl | rfl | rfl<;>rfl
 have hmem:=Ow0 (pg:=pg) (g:={ g with committed:=sM g i }) (q:=q) (cs:=cs) (cv:=cv) hI
 have hmem:(WV pg { g with committed:=sM g i } q cs cv)[1+(i:Int).toNat]? = some (G8 (q.m.get i) (g.mem.get i)):=hmem
 have hlen6:(WV pg { g with committed:=sM g i } q cs cv).length=6:=rfl
 have h:=h.tick
 generalize tick w2=w2 at *
 simp -zeta only[U0 DD,Nat.zero_add]
 rw[h.ld 6 rfl U7 (o:=3) (v := .pointer t) rfl,wn0,Q5]
 have hns:=Su0 g hi3
 unfold dP at hns
 cases hu:(g.mem.get i).up with
 | none =>
  rw[hu] at ht hns
  rw[if_neg (show ¬(none:Option UpP).isSome=true by decide)] at ht
  subst ht
  refine⟨fun _=>?_,fun c=>by cases c⟩
  have hns:sM g (i+1)=sM g i:=hns
  rw[hns] at hJ
  exact hJ cs cv _ ha hcl (h.take 6)
 | some u =>
  rw[hu] at ht hns
  rw[if_pos (show (some u).isSome=true from rfl)] at ht
  cases ht
  have hns:sM g (i+1)=if u.r.commit≤(sM g i).length then sM g i else(u.r.log.take u.r.commit.toNat).map fun x=>bl x.data:=hns
  refine⟨fun c=>(by cases c),fun _=>?_⟩
  have huok:=hok i hI u hu
  have hrlen:=huok.r.len
  have hrc:=huok.r.commit
  have rep:∀{B2:Base} {σ:List Dat},(∀{j:Nat} {d:Dat},σ[j]? = some d→d B2)→σ[1+(i:Int).toNat]? = some (G8 (q.m.get i) (g.mem.get i))→BJ (q.m.get i).rp u.r B2:=fun own hs=>G8.rep (own hs) hu
  have hmem2:∀(ρ:List Dat),(WV pg { g with committed:=sM g i } q cs cv++ρ)[1+(i:Int).toNat]? = some (G8 (q.m.get i) (g.mem.get i)):=fun ρ=>by
   rw[List.getElem?_append_left (by rw[hlen6];omega)];exact hmem
  rw[h.ld 6 rfl U7 (o:=3) (v:=ptr (q.m.get i).rp) rfl]
  simp -zeta only[y5,U0 FW,Nat.zero_add]
  rw[h.ld 0 rfl J9 (o:=13) ha.cv,Q4.len (V3.read (h.here (i:=5) rfl)) U6,List.length_map]
  refine h.ask (fun B2 own base2=>Np0 (rep own (hmem2 _))) fun w3 h=>?_
  have isl:Is prog (J5 .len #[K4] Q0 #[false] #[cv]) (.int .i64 (sM g i).length) w3:=by
   have:=Q4.len (P:=prog) (w:=w3) (T:=K4) (U:=Q0) (bs:=#[false]) (Kp:=fun x=>x = .int .i64 ((sM g i).map ofL).length) (V3.read (h.here (i:=5) rfl)) U6
   rw[List.length_map] at this
   obtain⟨x,h1,rfl⟩:=this.mpr rfl
   exact h1
  refine⟨isl,h.is 0 rfl J9 (o:=13) ha.cv,?_⟩
  rw[gD,K3]
  refine⟨fun c=>?_,fun c=>?_⟩
  ·rw[if_pos c] at hns
   rw[hns] at hJ
   exact hJ cs cv _ ha hcl (h.take 6)
  rw[if_neg c] at hns
  have hcs:=ha.size
  refine h.st 0 rfl J9 (o:=13) (by omega) rfl fun w4 h=>?_
  have h:=h.tick
  generalize tick w4=w4 at *
  have h:Rel B' w4 ([O1 pg Q3 (cs.setIfInBounds 13 (.slice none 0 0)),G8 q.m.a g.mem.a,G8 q.m.b g.mem.b,G8 q.m.c g.mem.c,XA q.np g.net,V3 U2 cv ((sM g i).map ofL),O1 m3 I6 #[.pointer x,.pointer y,.pointer z,ptr (q.m.get i).rp]]):=h
  have hmem3:∀(c0 c5:Dat) (ρ:List Dat),([c0,G8 q.m.a g.mem.a,G8 q.m.b g.mem.b,G8 q.m.c g.mem.c,XA q.np g.net]++ρ)[1+(i:Int).toNat]? = some (G8 (q.m.get i) (g.mem.get i)):=fun c0 c5 ρ=>by
   have:i=0∨i=1∨i=2:=by omega
   rcases this with rfl | rfl | rfl<;>rfl
  rw[h.ld 6 rfl U7 (o:=3) (v:=ptr (q.m.get i).rp) rfl]
  rw[h.ld 6 rfl U7 (o:=3) (v:=ptr (q.m.get i).rp) rfl]
  refine h.make (fun B2 own base2=>BN0 (rep own (hmem3 _ emp _)) (by omega)) fun lv τ w5 hp h=>?_
  subst hp
  refine⟨h.is 6 rfl U7 (o:=3) rfl,?_⟩
  refine h.ask (fun B2 own base2=>Np0 (rep own (hmem3 _ emp _))) fun w6 h=>?_
  obtain⟨cn,ecn⟩:∃cn:Nat,u.r.commit=cn:=⟨u.r.commit.toNat,by omega⟩
  have ecn2:u.r.commit.toNat=cn:=by omega
  rw[ecn2] at hns
  rw[ecn]
  have hcut:∀Kp:Value→Prop,M0 prog (d9 O3 lv none (some (.int .i64 cn)) none) Kp=Kp (cutV 2 lv 0 cn):=fun Kp =>
   Q4.Sh0 (α:=J7) (P:=prog) (lo:=0) (hi:=cn) (V3.read (h.here (i:=7) rfl)) U5 Bnd.none Bnd.some (by omega) (by omega)
  rw[hcut]
  clear hcut
  have h:Rel B' w6 ([O1 pg Q3 (cs.setIfInBounds 13 (.slice none 0 0)),G8 q.m.a g.mem.a,G8 q.m.b g.mem.b,G8 q.m.c g.mem.c,XA q.np g.net,V3 U3 lv u.r.log]):=h.pick [0,1,2,3,4,7] (by decide)
  have h:=h.oG ByteArray U2
  have htl:(u.r.log.take cn).length=cn:=by rw[List.length_take];omega
  have hcr:∀{B2:Base},V3 U3 lv u.r.log B2→Q4 (cutV 2 lv 0 cn) (u.r.log.take cn) B2:=fun hh=>by
   have:=Q4.qn0 (α:=J7) (lo:=0) (hi:=cn) (V3.read hh) (by omega) (by omega)
   exact this
  rw[Q4.len (hcr (h.here (i:=5) rfl)) U5,htl]
  refine M6 (fun z w'=>∃(i2:Nat) (v:Value),i2≤cn∧z=(.int .i64 i2,())∧Rel B' w' [O1 pg Q3 (cs.setIfInBounds 13 v),G8 q.m.a g.mem.a,G8 q.m.b g.mem.b,G8 q.m.c g.mem.c,XA q.np g.net,V3 U3 lv u.r.log,V3 U2 v ((u.r.log.take i2).map fun x=>x.data)])
   (fun z _=>cn-(match z.1 with | .int _ n=>n.toNat | _=>0)) ⟨0,.slice none 0 0,Nat.zero_le _,rfl,h⟩ ?_
  clear h
  rintro z w7 ⟨i2,v,hi2,rfl,h⟩ next hnext
  simp -zeta only[D6,K3]
  refine⟨fun hlt2=>?_,fun hge2=>?_⟩
  case refine_2 =>
   have:i2=cn:=by omega
   subst this
   refine hJ (cs.setIfInBounds 13 v) v _ ha.NN0 (by rw[hns,List.length_map,htl];omega) ?_
   have e:((u.r.log.take i2).map fun x=>x.data)=(sM g (i+1)).map ofL:=by
    rw[hns,List.map_map]
    exact List.map_congr_left fun x _=>(QM x.data).symm
   rw[e] at h
   exact h.pick [0,1,2,3,4,6] (by decide)
  have hi2l:i2<(u.r.log.take cn).length:=by omega
  obtain⟨gb,go,hx2,hc2⟩:=Q4.idx (hcr (h.here (i:=5) rfl)) U5 (P:=prog) hi2l
  rw[hx2,F6.Q9 (xs:=((u.r.log.take cn)[i2]).cs) hc2 P9 rfl]
  clear hx2 hc2
  have htk:((u.r.log.take (i2+1)).map fun x=>x.data)=((u.r.log.take i2).map fun x=>x.data)++[((u.r.log.take cn)[i2]).data]:=by
   rw[List.take_succ_eq_append_getElem (by omega),List.map_append,List.getElem_take]
   rfl
  have htl2:((u.r.log.take i2).map fun x=>x.data).length=i2:=by rw[List.length_map,List.length_take];omega
  generalize (u.r.log.take cn)[i2]=x2 at *
  refine h.r9 (ds:=x2.cs.toArray) KL rfl P9 rfl (fun v hv=>Enc.one x2 v hv) fun b5 w8 h=>?_
  have h:=h.tick
  generalize tick w8=w8 at *
  simp -zeta only[U0 mX,Nat.zero_add]
  have hc13:(cs.setIfInBounds 13 v).toList[13]? = some v:=jL (by omega)
  rw[h.ld 0 rfl J9 (o:=13) hc13,h.ld 7 rfl V6 (o:=1) (v := .string x2.data) rfl]
  refine h.bH (α:=ByteArray) x2.data U6 (by decide) fun v1 w9 h=>?_
  refine⟨h.is 0 rfl J9 (o:=13) hc13,?_⟩
  refine h.append (α:=ByteArray) 6 rfl U6 (Rd.at 8 rfl) (by rw[htl2];show (i2+1) * _≤_;omega) (by rw[htl2];show i2+1≤_;omega) fun v2 w10 h=>?_
  have hv2:v2.oneCell'=true:=h.oneCell (i:=6) rfl
  refine h.st 0 rfl J9 (o:=13) (by rw[Array.size_setIfInBounds];omega) hv2 fun w11 h=>?_
  rw[V5,D5 (by omega) (by omega)]
  refine hnext _ _ ⟨i2+1,v2,by omega,rfl,?_⟩ (by simp only;omega)
  rw[htk]
  have e13:(cs.setIfInBounds 13 v).setIfInBounds 13 v2=cs.setIfInBounds 13 v2:=Array.setIfInBounds_setIfInBounds ..
  rw[e13] at h
  exact h.take 7
end
def upE(g:L8)(id:Int):Int:=if id<0∨3≤id then 1 else if(g.mem.get id).up.isSome=true then 0 else 9
def sendAll(id:Int)(n:zI)(l:List U8):zI:=l.foldl (fun n m=>(jU n ⟨id,m.to_,ofL (nM m)⟩).2) n
def MB(g:L8)(id:Int)(m:aB):L8:={ g with mem:=g.mem.set id m }
def do2(g:L8)(id:Int)(x:aB×Int)(l:List U8):L8:=if x.2=0 then { MB g id x.1 with net:=sendAll id g.net l } else MB g id x.1
def doS(g:L8)(id:Int)(u:UpP)(out:LC):L8×Int:=(jZ (do2 g id (IC (g.mem.get id) u out) out.send),(IC (g.mem.get id) u out).2)
theorem TZ{id:Int}:∀{l:List U8} {n:zI},NS n→(∀m∈l,gL m)→NS (sendAll id n l)
 | [],_,h,_=>h
 | m :: l,n,h,hl=>by
  show NS (sendAll id (jU n ⟨id,m.to_,ofL (nM m)⟩).2 l)
  refine TZ (l:=l) ⟨aB0 h.1,fun p hp=>?_⟩ fun m hm=>hl m (List.mem_cons_of_mem _ hm)
  unfold jU at hp
  split at hp
  ·split at hp
   ·split at hp
    ·rcases List.mem_append.1 hp with hp | hp
     ·exact h.2 p hp
     ·rw[List.mem_singleton.1 hp]
      exact⟨m,hl m (List.mem_cons_self ..),rfl⟩
    ·exact h.2 p hp
   ·exact h.2 p hp
  ·exact h.2 p hp
theorem GAt.put{cs cs':Array Value}{q:GQ}{mem:T3 aB}{cv:Value}{i:Int}{q':MQ}{m':aB}(h:GAt cs q mem cv)(hi:I3 i)(h1:RA cs' (4 * i.toNat) q' m'.up.isSome)(h2:XB cs cs' (4 * i.toNat)):GAt cs' { q with m:=q.m.set i q' } (mem.set i m') cv where
 size:=h2.1.trans h.size
 mem:=fun j hj=>by
  by_cases c:j=i
  ·subst c
   show RA cs' _ ((q.m.set j q').get j) ((mem.set j m').get j).up.isSome
   rw[T3.Z9 _ hi,T3.Z9 _ hi]
   exact h1
  ·show RA cs' _ ((q.m.set i q').get j) ((mem.set i m').get j).up.isSome
   rw[T3.LB _ hi hj _ c,T3.LB _ hi hj _ c]
   have h3:=h.mem j hj
   have hn:j.toNat≠i.toNat:=by unfold I3 at hi hj;omega
   unfold RA at h3 ⊢
   rw[h2.2 _ (by omega),h2.2 _ (by omega),h2.2 _ (by omega),h2.2 _ (by omega)]
   exact h3
 np:=by rw[h2.2 _ (by unfold I3 at hi;omega)];exact h.np
 cv:=by rw[h2.2 _ (by unfold I3 at hi;omega)];exact h.cv
theorem RY.set{mem:T3 aB}(h:RY mem){i:Int}(hi:I3 i){m:aB}(hm:∀u,m.up=some u→UOk i u):RY (mem.set i m):=fun j hj u hu=>by
 by_cases c:j=i
 ·subst c
  rw[T3.Z9 _ hi] at hu
  exact hm u hu
 ·rw[T3.LB _ hi hj _ c] at hu
  exact h j hj u hu
theorem Tr0{m:aB}{u:UpP}{out:LC}{i:Int}(h:UOk i u):∀u',(IC m u out).1.up=some u'→UOk i u':=by
 intro u' hu
 unfold IC JX at hu
 split at hu
 ·cases hu
 ·cases hu
  refine⟨?_,h.r,h.id,h.term⟩
  show JOk (IP (RF m u out).1.1 u.j (RF m u out).2 out).1.2
  unfold IP
  split
  ·unfold sW
   split
   ·exact on0 h.j
   ·exact Bh0 (on0 h.j)
  ·exact h.j
theorem oB0(m:aB)(u:UpP)(out:LC):(IC m u out).1.kv=m.kv∧(IC m u out).1.d.keep=m.d.keep:=by
 have h1:=tf0 m u out
 have h2:(IP (RF m u out).1.1 u.j (RF m u out).2 out).1.1.keep=m.d.keep:=by
  unfold IP
  split
  ·unfold sW
   split
   ·exact(Ed0 _ _ _).trans h1
   ·exact(On0 _ _ _).trans ((Ed0 _ _ _).trans h1)
  ·exact h1
 unfold IC JX
 split
 ·exact⟨rfl,h2⟩
 ·exact⟨rfl,h2⟩
section
variable {B:Base} {w:World} {σ τ:List Dat} {pg:Nat} {g:L8} {K:PtK}
theorem Y8.FO(h:Y8 pg g B):∃q cs cv,GAt cs q g.mem cv∧O1 pg Q3 cs B∧XA q.np g.net B∧Q4 cv (g.committed.map ofL) B∧∀i,I3 i→G8 (q.m.get i) (g.mem.get i) B:=by
 obtain⟨⟨q,cs,cv⟩,ha,h⟩:=h
 exact⟨q,cs,cv,ha,eD.get (j:=0) h rfl,eD.get (j:=4) h rfl,V3.read (eD.get (j:=5) h rfl),fun i hi=>eD.get (j:=1+i.toNat) h (Ow0 hi)⟩
theorem FM0(h0:Y8 pg g B)(id:Int):Gives prog B (Z0 aI #[ptr pg,.int .i64 id]) (.int .i64 (upE g id)):=by
 refine Gives.intro fun B' w K base h k=>?_
 obtain⟨q,cs,cv,ha,c0,c1,c2,c3⟩:=Y8.FO (base h0)
 refine CO.up ?_
 unfold CO.pt
 unfold upE at k
 rw[D6,K3]
 refine⟨fun c=>?_,fun e1=>?_⟩
 ·rw[if_pos (.inl c)] at k;exact k _ _ h
 rw[LD,K3]
 refine⟨fun c=>?_,fun e2=>?_⟩
 ·rw[if_pos (.inr c)] at k;exact k _ _ h
 rw[if_neg (fun hh=>hh.elim e1 e2)] at k
 have hi:I3 id:=by unfold I3;omega
 simp -zeta only[y5,U0 bC,Nat.zero_add]
 rw[tX hi,U0 DD]
 have hm:=ha.mem id hi
 cases hu:(g.mem.get id).up.isSome with
 | true =>
  rw[hu] at hm k
  rw[if_pos rfl] at k
  rw[O1.ld (h.K6 c0) U7 (o:=4 * id.toNat+3) hm.at3,wn0,Q5]
  exact⟨fun c=>(by cases c),fun _=>k _ _ h⟩
 | false =>
  rw[hu] at hm k
  rw[if_neg (by decide)] at k
  rw[O1.ld (h.K6 c0) U7 (o:=4 * id.toNat+3) hm.LE0,wn0,Q5]
  exact⟨fun _=>k _ _ h,fun c=>by cases c⟩
theorem OK0{q:GQ}{cs:Array Value}{cv:Value}{i:Int}{s:Sem Next}{post:Value→Array Value→MQ→aB→Prop}(h:Rel B w (WV pg g q cs cv))(ha:GAt cs q g.mem cv)(hi:I3 i)
  (G:∀B':Base,(∀{d:Dat},d B→d B')→Both prog B' (O1 pg Q3 cs) (G8 (q.m.get i) (g.mem.get i)) s fun v d1 d2=>∃cs' q' m',d1=O1 pg Q3 cs'∧d2=G8 q' m'∧RA cs' (4 * i.toNat) q' m'.up.isSome∧XB cs cs' (4 * i.toNat)∧post v cs' q' m')
  (k:∀v cs' q' m' w',post v cs' q' m'→GAt cs' { q with m:=q.m.set i q' } (g.mem.set i m') cv→Rel B w' (WV pg (MB g i m') { q with m:=q.m.set i q' } cs' cv)→K v w'):upK prog s w K:=by
 rcases hi.cases with rfl | rfl | rfl
 ·have h:Rel B w ([G8 q.m.b g.mem.b,G8 q.m.c g.mem.c,XA q.np g.net,V3 U2 cv (g.committed.map ofL)]++[O1 pg Q3 cs,G8 q.m.a g.mem.a]):=h.pick [2,3,4,5,0,1] (by decide)
  refine h.uh0 (fun B2 own base2=>G B2 base2) fun v d1 d2 w' hp h=>?_
  obtain⟨cs',q',m',rfl,rfl,h1,h2,hp⟩:=hp
  exact k _ _ _ _ _ hp (ha.put hi h1 h2) (h.pick [4,5,0,1,2,3] (by decide))
 ·have h:Rel B w ([G8 q.m.a g.mem.a,G8 q.m.c g.mem.c,XA q.np g.net,V3 U2 cv (g.committed.map ofL)]++[O1 pg Q3 cs,G8 q.m.b g.mem.b]):=h.pick [1,3,4,5,0,2] (by decide)
  refine h.uh0 (fun B2 own base2=>G B2 base2) fun v d1 d2 w' hp h=>?_
  obtain⟨cs',q',m',rfl,rfl,h1,h2,hp⟩:=hp
  exact k _ _ _ _ _ hp (ha.put hi h1 h2) (h.pick [4,0,5,1,2,3] (by decide))
 ·have h:Rel B w ([G8 q.m.a g.mem.a,G8 q.m.b g.mem.b,XA q.np g.net,V3 U2 cv (g.committed.map ofL)]++[O1 pg Q3 cs,G8 q.m.c g.mem.c]):=h.pick [1,2,4,5,0,3] (by decide)
  refine h.uh0 (fun B2 own base2=>G B2 base2) fun v d1 d2 w' hp h=>?_
  obtain⟨cs',q',m',rfl,rfl,h1,h2,hp⟩:=hp
  exact k _ _ _ _ _ hp (ha.put hi h1 h2) (h.pick [4,0,1,5,2,3] (by decide))
set_option maxHeartbeats 2000000 in
theorem lK0(hT:bR B)(hP:kH B)(hok:RY g.mem)(hke:DC g.mem B)(hn:NS g.net)(hc:g.committed.length≤1000000){id:Int}(hi:I3 id){u:UpP}(hu:(g.mem.get id).up=some u){out:LC}{rv sv:SV}(hf:OG0 out)(hfm:∀m∈out.send,gL m)(hsl:out.send.length≤1000)(qr:Q4 rv.1 out.recs B)(qs:GN sv.1 out.send B) :
  Does prog B (Y8 pg g) (Z0 bL #[ptr pg,.int .i64 id,.agg (g_ out rv.1 sv.1)]) fun v e' τ=>v = .int .i64 (doS g id u out).2∧e'=Y8 pg (doS g id u out).1∧τ=[]:=by
 refine Does.intro fun B' w K base h k=>?_
 replace hT:=base hT
 replace hP:=base hP
 replace qr:=base qr
 replace qs:=base qs
 obtain⟨hr,hkl⟩:=hke id hi
 replace hr:=base hr
 refine BO.up ?_
 unfold BO.pt
 refine h.box fun o5 w1 h=>?_
 have h:Rel B' w1 ([Y8 pg g]++[O1 o5 Y2 (g_ out rv.1 sv.1)]):=h
 obtain⟨B2,ext2,h,ho5⟩:=h.Bk0
 have up2:∀{d:Dat},d B'→d B2:=fun hd=>Dat.mono _ ext2.le hd
 replace k:∀w',Rel B2 w' [Y8 pg (doS g id u out).1]→K (.int .i64 (doS g id u out).2) w':=fun w' h=>k _ _ [] w' ⟨rfl,rfl,rfl⟩ (ext2.rel h)
 replace hT:=up2 hT
 replace hP:=up2 hP
 replace hr:=up2 hr
 replace qr:=up2 qr
 replace qs:=up2 qs
 clear up2 ext2 base
 unfold doS at k
 obtain⟨q,cs,cv,ha,h⟩:=Y8.open h
 rw[List.append_nil] at h
 simp -zeta only[y5,U0 bC,Nat.zero_add]
 rw[tX hi]
 have h:=h.tick
 generalize tick w1=w1 at *
 rw[O1.Q9 (h.K6 ho5) SC rfl]
 have hat:=ha.mem id hi
 rw[hu] at hat
 refine OK0 (post:=fun v cs' q' m'=>v = .int .i64 (IC (g.mem.get id) u out).2∧m'=(IC (g.mem.get id) u out).1∧q'=q.m.get id) h ha hi (fun B3 base3=>?_) fun v cs' q' m' w2 hp ha h=>?_
 ·intro w σ i K h0 h1 h2
  refine zJ0 (base3 hT) (base3 hP) (base3 hr) hkl hu (hok id hi u hu).j ha.size (by unfold I3 at hi;omega) hat hf (base3 qr) w σ i K h0 h1 fun v e' τ w' hp=>h2 v e' τ w' ?_
  obtain⟨d1',d2',⟨rfl,cs',rfl,rfl,h3,h4⟩,he,ht⟩:=hp
  exact⟨_,_,⟨cs',q.m.get id,_,rfl,rfl,h3,h4,rfl,rfl,rfl⟩,he,ht⟩
 obtain⟨rfl,rfl,rfl⟩:=hp
 have hok2:RY (MB g id (IC (g.mem.get id) u out).1).mem:=hok.set hi (Tr0 (hok id hi u hu))
 generalize IC (g.mem.get id) u out=x at *
 obtain⟨m',e⟩:=x
 simp only at h ha hok2 k ⊢
 generalize ({ q with m:=q.m.set id (q.m.get id) }:GQ)=q at *
 unfold do2 at k
 simp only at k
 have fin:∀(n:zI) w',(∀w',Rel B2 w' [Y8 pg (jZ { MB g id m' with net:=n })]→K (.int .i64 e) w')→Rel B2 w' (WV pg { MB g id m' with net:=n } q cs' cv)→upK prog (Z0 CF #[ptr pg]) w' fun _ w4=>K (.int .i64 e) w4:=by
  intro n w' k h
  have h:Rel B2 w' [Y8 pg { MB g id m' with net:=n }]:=Y8.close (τ:=[]) ha (by rw[List.append_nil];exact h)
  refine h.act 0 rfl (fun B3 own base3=>OE0 hok2 hc) fun v e' τ w3 hp h=>?_
  obtain⟨rfl,rfl⟩:=hp
  exact k _ h
 refine Q6 fun J hJ=>?_
 rw[O6,K3]
 refine⟨fun c=>?_,fun c=>?_⟩
 case refine_2 =>
  rw[if_neg c] at k
  exact hJ _ _ (fin g.net _ k h)
 rw[if_pos c] at k
 replace hJ:∀w',Rel B2 w' (WV pg { MB g id m' with net:=sendAll id g.net out.send } q cs' cv)→J () w':=fun w' h=>hJ _ _ (fin _ _ k h)
 clear fin k
 simp -zeta only[U0 kX,Nat.zero_add]
 rw[O1.ld (h.K6 ho5) aS (o:=5) (v:=sv.1) rfl]
 obtain⟨vs,hvs,qs1,qs2⟩:=qs
 have hvs:vs.length=out.send.length:=hvs
 have hzl:(List.zipWith U8.raw out.send vs).length=out.send.length:=by rw[List.length_zipWith];omega
 rw[Q4.len qs1 EL,hzl]
 refine M6 (fun z w'=>∃i:Nat,i≤out.send.length∧z=(.int .i64 i,())∧Rel B2 w' (WV pg { MB g id m' with net:=sendAll id g.net (out.send.take i) } q cs' cv))
  (fun z _=>out.send.length-(match z.1 with | .int _ n=>n.toNat | _=>0)) ⟨0,Nat.zero_le _,rfl,h⟩ ?_
 clear h
 rintro z w3 ⟨i,hil,rfl,h⟩ next hnext
 rw[D6,K3]
 refine⟨fun hlt=>?_,fun hge=>?_⟩
 case refine_2 =>
  have:i=out.send.length:=by omega
  subst this
  rw[List.take_length] at h
  exact hJ _ h
 have hi1:i<out.send.length:=by omega
 have hi2:i<(List.zipWith U8.raw out.send vs).length:=by omega
 obtain⟨gb,go,hx,hcx⟩:=Q4.idx qs1 EL (P:=prog) hi2
 have hcx:F6 gb go ((List.zipWith U8.raw out.send vs)[i]).cs B2:=hcx
 rw[hx,F6.Q9 (h.K6 hcx) Q8 rfl,List.getElem_zipWith]
 clear hx hcx
 have hmi:gL out.send[i]:=hfm _ (List.getElem_mem hi1)
 have hrow:Q4 (vs[i]).1 (out.send[i]).recs B2:=by
  have hz:i<(out.send.zip vs).length:=by rw[List.length_zip];omega
  have:=qs2 (out.send.zip vs)[i] (List.getElem_mem hz)
  rw[List.getElem_zip] at this
  exact this
 have htk:sendAll id g.net (out.send.take (i+1))=(jU (sendAll id g.net (out.send.take i)) ⟨id,(out.send[i]).to_,ofL (nM out.send[i])⟩).2:=by
  unfold sendAll
  rw[List.take_succ_eq_append_getElem hi1,List.foldl_append]
  rfl
 have hno:NS (sendAll id g.net (out.send.take i)):=TZ hn fun m hm=>hfm m (List.mem_of_mem_take hm)
 generalize out.send[i]=m at *
 generalize vs[i]=mv at *
 refine h.r9 (ds:=(m.raw mv).cs.toArray) JJ rfl Q8 rfl (fun v hv=>Enc.one (m.raw mv) v hv) fun m9 w4 h=>?_
 have h:=h.tick
 generalize tick w4=w4 at *
 simp -zeta only[y5,U0 JE,U0 iX,Nat.zero_add]
 have h:Rel B2 w4 [O1 pg Q3 cs',G8 q.m.a (MB g id m').mem.a,G8 q.m.b (MB g id m').mem.b,G8 q.m.c (MB g id m').mem.c,XA q.np (sendAll id g.net (out.send.take i)),V3 U2 cv (g.committed.map ofL),O1 m9 U1 (m.raw mv).cs.toArray]:=h
 rw[h.ld 0 rfl TG (o:=12) ha.np,h.ld 6 rfl F3 (o:=2) (v := .int .i64 m.to_) rfl,h.Q9 6 rfl Q8 rfl]
 refine h.ask (fun B3 own base3=>Ti0 (base3 hP) hmi (base3 hrow)) fun w5 h=>?_
 refine⟨h.is 6 rfl F3 (o:=2) rfl,h.is 0 rfl TG (o:=12) ha.np,?_⟩
 refine h.act 4 rfl (fun B3 own base3=>wM0 hno.1 id m.to_ (ofL (nM m))) fun v e' τ w6 hp h=>?_
 obtain⟨rfl,rfl,rfl⟩:=hp
 rw[V5,D5 (by omega) (by omega)]
 refine hnext _ _ ⟨i+1,hi1,rfl,?_⟩ (by simp only;omega)
 rw[htk]
 exact h.take 6
end
structure gN (o:LC):Prop where
 st:OG0 o
 send:∀m∈o.send,gL m
 few:o.send.length≤1000
theorem dE{n:Int}(h0 : -1≤n)(h1:n≤1099511627776):inI n:=by unfold inI;omega
theorem Gw0{l:List J7}{a b:Int}(h:LA l a b=true)(ha:0≤a)(hb:b≤1099511627776){x:J7}(hx:x∈l):iN x:=by
 have:=uV h x hx
 exact⟨dE (by omega) (by omega),by omega⟩
theorem Fw0{r:H7}(hk:H8 r){x:J7}(hx:x∈r.log):iN x:=Gw0 hk.sound (by omega) hk.term.2 hx
theorem Lj0{r:H7}(hk:H8 r)(n:Int):0≤YE r.log n∧YE r.log n≤1099511627776:=by
 unfold YE
 split
 ·omega
 cases h:r.log[(n-1).toNat]? with
 | none=>show (0:Int)≤0∧(0:Int)≤_;omega
 | some x =>
  have hx:x∈r.log:=List.mem_of_getElem? h
  have:=uV hk.sound x hx
  have:=hk.term
  show 0≤x.term∧x.term≤_
  omega
theorem DL0{m:U8}(h0:inI m.kind)(h1:inI m.from_)(h2:inI m.to_)(h3:inI m.term)(h4:inI m.index)(h5:inI m.prev)(h6:inI m.commit):∀n∈NL m,inI n:=by
 intro n hn
 unfold NL at hn
 simp only[List.mem_cons,List.not_mem_nil,or_false] at hn
 rcases hn with rfl | rfl | rfl | rfl | rfl | rfl | rfl | rfl
 ·exact h0
 ·exact h1
 ·exact h2
 ·exact h3
 ·exact h4
 ·exact h5
 ·exact h6
 ·split<;>(unfold inI;omega)
theorem iu0{r:H7}(hk:H8 r):inI r.id:=by have:=hk.id;unfold I3 at this;exact dE (by omega) (by omega)
theorem gV{r:H7}(hk:H8 r):inI r.hard.term:=by have:=hk.term;exact dE (by omega) (by omega)
theorem pX{r:H7}(hk:H8 r)(hl:r.role=2){to_:Int}(ht:I3 to_):gL (o_ r to_):=by
 have h1:=hk.next hl to_ ht
 have h2:=hk.len
 have h3:=hk.commit
 have h4:=Lj0 hk (r.next.get to_-1)
 refine⟨DL0 (by show inI (2:Int);exact dE (by omega) (by omega)) (iu0 hk) (by unfold I3 at ht;exact dE (by show -1≤to_;omega) (by show to_≤_;omega)) (gV hk) (dE (by show -1≤r.next.get to_-1;omega) (by show r.next.get to_-1≤_;omega)) (dE (by show -1≤YE r.log (r.next.get to_-1);omega) (by show YE r.log (r.next.get to_-1)≤_;omega)) (dE (by show -1≤r.commit;omega) (by show r.commit≤_;omega)),?_,?_⟩
 ·show ((r.log.drop _).take 8).length≤8
  rw[List.length_take]
  omega
 ·intro x hx
  have hx:x∈(r.log.drop (r.next.get to_-1).toNat).take 8:=hx
  exact Fw0 hk (List.mem_of_mem_drop (List.mem_of_mem_take hx))
theorem Bn0{r:H7}(hk:H8 r)(hl:r.role=2):∀m∈zR r,gL m:=by
 intro m hm
 obtain⟨i,hi,rfl⟩:=List.mem_map.1 hm
 exact pX hk hl (zP hi)
theorem Qm0(r:H7):(zR r).length≤3:=by unfold zR;rw[List.length_map];exact rT _
theorem EL0{o:LC}(h1:o.hard=⟨0,0⟩)(h2:o.from_=0)(h3:o.recs=[]):OG0 o:=⟨by rw[h1];exact⟨dE (by show (-1:Int)≤0;omega) (by show (0:Int)≤_;omega),dE (by show (-1:Int)≤0;omega) (by show (0:Int)≤_;omega)⟩,by rw[h2];omega,by rw[h3];exact Nat.zero_le _,by rw[h3];intro x hx;cases hx⟩
theorem Mg0{o:LC}(h1:o.hard=⟨0,0⟩)(h2:o.from_=0)(h3:o.recs=[])(h4:∀m∈o.send,gL m)(h5:o.send.length≤1000):gN o:=⟨EL0 h1 h2 h3,h4,h5⟩
theorem MK:gN o0:=Mg0 rfl rfl rfl (fun m hm=>by cases hm) (Nat.zero_le _)
theorem RV{m:U8}(h:gL m):gN { o0 with send:=[m] }:=Mg0 rfl rfl rfl (fun x hx=>by rw[List.mem_singleton.1 hx];exact h) (by show 1≤1000;omega)
theorem Ua0{r:H7}(hk:H8 r):gN (uF r).2:=by
 have hk2:=(Bc0 hk).1
 unfold uF at hk2 ⊢
 split
 ·rename_i h
  refine Mg0 rfl rfl rfl (Bn0 hk h) ?_
  have:=Qm0 r
  show (zR r).length≤1000
  omega
 split
 ·exact MK
 ·rename_i h1 h2
  rw[if_neg h1,if_neg h2] at hk2
  have hk2:H8 (UO r):=hk2
  have ht:=hk2.term
  have hv:=hk2.C_
  have hl:=hk2.len
  refine⟨⟨⟨gV hk2,dE (by show -1≤(UO r).hard.C_;omega) (by show (UO r).hard.C_≤_;omega)⟩,by show (0:Int)≤1000000;omega,Nat.zero_le _,fun x hx=>by cases hx⟩,?_,?_⟩
  ·intro m hm
   obtain⟨i,hi,rfl⟩:=List.mem_map.1 hm
   have hi3:=zP hi
   have h4:=Lj0 hk2 (UO r).log.length
   refine⟨DL0 (by show inI (0:Int);exact dE (by omega) (by omega)) (iu0 hk2) (by unfold I3 at hi3;exact dE (by show -1≤i;omega) (by show i≤_;omega)) (gV hk2) (dE (by show (-1:Int)≤(UO r).log.length;omega) (by show ((UO r).log.length:Int)≤_;omega)) (dE (by show -1≤YE (UO r).log (UO r).log.length;omega) (by show YE (UO r).log (UO r).log.length≤_;omega)) (by show inI (0:Int);exact dE (by omega) (by omega)),Nat.zero_le _,fun x hx=>by cases hx⟩
  ·show ((Q7 r.id).map _).length≤1000
   rw[List.length_map]
   have:=rT r.id
   omega
theorem bU{r:H7}(hk:H8 r)(ht:r.role=2→1≤r.hard.term)(data:ByteArray):gN (G7 r data).o:=by
 have hk2:=(CP hk ht data).1
 unfold G7 at hk2 ⊢
 split
 ·exact MK
 split
 ·exact MK
 split
 ·exact MK
 ·rename_i h1 h2 h3
  rw[if_neg h1,if_neg h2,if_neg h3] at hk2
  have hl:r.role=2:=Classical.byContradiction h1
  have hlen:=hk.len
  have hk2:H8 (uT r data):=hk2
  refine⟨⟨⟨dE (by show (-1:Int)≤0;omega) (by show (0:Int)≤_;omega),dE (by show (-1:Int)≤0;omega) (by show (0:Int)≤_;omega)⟩,by show (r.log.length:Int)+1≤1000000;omega,by show 1≤100;omega,fun x hx=>?_⟩,Bn0 hk2 hl,?_⟩
  ·rw[List.mem_singleton.1 hx]
   exact⟨gV hk,by show data.size≤_;omega⟩
  ·have:=Qm0 (uT r data)
   show (zR (uT r data)).length≤1000
   omega
theorem ZX{r:H7}(hk:H8 r){m:U8}(hf:I3 m.from_){k i:Int}(hkk:0≤k∧k≤3)(hi : -1≤i∧i≤100000)(yes:Bool):gL ⟨k,r.id,m.from_,r.hard.term,i,0,0,yes,[]⟩:=by
 refine⟨DL0 (dE (by show -1≤k;omega) (by show k≤_;omega)) (iu0 hk) (by unfold I3 at hf;exact dE (by show -1≤m.from_;omega) (by show m.from_≤_;omega)) (gV hk) (dE (by show -1≤i;omega) (by show i≤_;omega)) (by show inI (0:Int);exact dE (by omega) (by omega)) (by show inI (0:Int);exact dE (by omega) (by omega)),Nat.zero_le _,fun x hx=>by cases hx⟩
theorem rD0{r:H7}(hk:H8 r){m:U8}(hm:gI r m)(hle:m.term≤r.hard.term)(ht:r.role=2→1≤r.hard.term):gN (yQ r m).2:=by
 have hf:I3 m.from_:=by have:=hm.from3;unfold I3;omega
 have hk2:=(jb0 hk hm hle ht).1
 have hlen:=hk.len
 have hix:=hm.index
 unfold yQ at hk2 ⊢
 split
 ·unfold Ec0
  split
  ·exact RV (ZX hk hf (by omega) (by omega) true)
  ·exact RV (ZX hk hf (by omega) (by omega) false)
 split
 ·unfold NU
  split
  ·exact MK
  split
  ·exact MK
  ·refine Mg0 rfl rfl rfl (Bn0 (Oi0 (Gc0 hk _)) rfl) ?_
   have:=Qm0 (yX { r with votes:=r.votes.set m.from_ true })
   show (zR (yX { r with votes:=r.votes.set m.from_ true })).length≤1000
   omega
 split
 ·unfold AR
  split
  ·exact RV (ZX hk hf (by omega) (by omega) false)
  split
  ·exact MK
  ·unfold JW
   have hroom:=hm.room
   have hsl:=qc0 r.log m.recs m.index.toNat
   split
   ·exact RV (ZX (r:=r) hk hf (by omega) (by show -1≤min (r.log.length:Int) (m.index-1)∧min (r.log.length:Int) (m.index-1)≤100000;omega) false)
   split
   ·exact RV (ZX (r:=r) hk hf (by omega) (by omega) true)
   split
   ·exact MK
   ·refine⟨⟨⟨dE (by show (-1:Int)≤0;omega) (by show (0:Int)≤_;omega),dE (by show (-1:Int)≤0;omega) (by show (0:Int)≤_;omega)⟩,?_,?_,fun x hx=>?_⟩,fun x hx=>?_,by show 1≤1000;omega⟩
    ·show m.index+(gB r.log m.index.toNat m.recs:Nat)+1≤1000000
     omega
    ·show (m.recs.drop _).length≤100
     rw[List.length_drop]
     have:=hm.few
     omega
    ·have hx:x∈m.recs:=List.mem_of_mem_drop hx
     exact Gw0 hm.sound (by omega) hm.term.2 hx
    ·rw[List.mem_singleton.1 hx]
     exact ZX (r:=r) hk hf (by omega) (by omega) true
 ·unfold FJ at hk2 ⊢
  split
  ·exact MK
  rename_i h1
  have hlead:r.role=2:=Classical.byContradiction fun h=>h1 (.inl h)
  split
  ·rename_i h2
   rw[if_neg (by assumption),if_neg (by assumption),if_neg (by assumption),if_neg h1,if_pos h2] at hk2
   exact RV (pX (r:=af0 r m) hk2 hlead hf)
  split
  ·rename_i h2 h3
   rw[if_neg (by assumption),if_neg (by assumption),if_neg (by assumption),if_neg h1,if_neg h2,if_pos h3] at hk2
   refine RV (pX (r:=TN r m) hk2 ?_ hf)
   unfold TN KF
   split<;>exact hlead
  ·exact MK
theorem yD0{hd:EB}{q:H7×LC}(hk:H8 q.1)(h:gN q.2):gN (rV hd q).2:=by
 unfold rV
 split
 ·exact h
 ·have:=hk.C_
  exact⟨⟨⟨gV hk,dE (by show -1≤q.1.hard.C_;omega) (by show q.1.hard.C_≤_;omega)⟩,h.st.from_,h.st.few,h.st.recs⟩,h.send,h.few⟩
theorem Sa0{r:H7}(hk:H8 r)(ht:r.role=2→1≤r.hard.term)(m:U8):gN (MF r m).2:=by
 unfold MF
 split
 ·rename_i hm
  obtain⟨hk1,hm1⟩:=ah0 hk hm
  have h1:(NF r m).role=2→1≤(NF r m).hard.term:=by
   unfold NF
   split
   ·intro h;cases h
   ·exact ht
  exact yD0 (jb0 hk1 hm1 (rY r m) h1).1 (rD0 hk1 hm1 (rY r m) h1)
 ·exact MK
def zC(g:L8)(id:Int)(u:UpP)(r:H7):L8:=MB g id { (g.mem.get id) with up:=some { u with r:=r } }
def DT(g:L8)(id:Int)(f:H7→H7×LC):L8×Int :=
 if upE g id≠0 then(g,upE g id)
 else match (g.mem.get id).up with
  | none=>(g,9)
  | some u=>doS (zC g id u (f u.r).1) id { u with r:=(f u.r).1 } (f u.r).2
structure GOk (g:L8):Prop where
 ups:RY g.mem
 net:NS g.net
 com:g.committed.length≤1000000
theorem LQ{g:L8}{id:Int}(h:upE g id=0):I3 id∧∃u,(g.mem.get id).up=some u:=by
 unfold upE at h
 split at h
 ·cases h
 rename_i c
 split at h
 ·rename_i hu
  exact⟨by unfold I3;omega,Option.isSome_iff_exists.1 hu⟩
 ·cases h
theorem GAt.same{cs:Array Value}{q:GQ}{mem mem':T3 aB}{cv:Value}(h:GAt cs q mem cv)(he:∀i,I3 i→(mem'.get i).up.isSome=(mem.get i).up.isSome):GAt cs q mem' cv :=
 ⟨h.size,fun i hi=>by rw[he i hi];exact h.mem i hi,h.np,h.cv⟩
theorem Rj0{g:L8}{id:Int}{u:UpP}{r:H7}(hi:I3 id)(hu:(g.mem.get id).up=some u)(i:Int)(hi2:I3 i):((zC g id u r).mem.get i).up.isSome=(g.mem.get i).up.isSome:=by
 by_cases c:i=id
 ·subst c
  show ((g.mem.set i _).get i).up.isSome=_
  rw[T3.Z9 _ hi,hu]
  rfl
 ·show ((g.mem.set id _).get i).up.isSome=_
  rw[T3.LB _ hi hi2 _ c]
theorem DC.set{mem:T3 aB}{B:Base}(h:DC mem B){i:Int}(hi:I3 i){m:aB}(hm:Q4 m.kv m.d.keep B∧m.d.keep.length≤1000000):DC (mem.set i m) B:=fun j hj=>by
 by_cases c:j=i
 ·subst c
  rw[T3.Z9 _ hi]
  exact hm
 ·rw[T3.LB _ hi hj _ c]
  exact h j hj
theorem DC.mono{mem:T3 aB}{B B':Base}(h:DC mem B)(base:∀{d:Dat},d B→d B'):DC mem B':=fun i hi=>⟨base (h i hi).1,(h i hi).2⟩
section
variable {B:Base} {w:World} {σ τ:List Dat} {pg:Nat} {g:L8} {K:PtK}
theorem bC0{q:GQ}{cs:Array Value}{cv:Value}{i:Int}{u:UpP}{s:Sem Next}{post:Value→H7→Dat→Prop}(h:Rel B w (WV pg g q cs cv))(hi:I3 i)(hu:(g.mem.get i).up=some u)
  (G:∀B':Base,(∀{d:Dat},d B→d B')→Does prog B' (U_ (q.m.get i).rp u.r) s fun v e' τ=>∃r' d,e'=U_ (q.m.get i).rp r'∧τ=[d]∧post v r' d)
  (k:∀v r' d w',post v r' d→Rel B w' (WV pg (zC g i u r') q cs cv++[d])→K v w'):upK prog s w K:=by
 have hL:G8 (q.m.get i) (g.mem.get i)=eD [Y5 (q.m.get i).dp (g.mem.get i).d (g.mem.get i).kv,vB (q.m.get i).dp (q.m.get i).jc (q.m.get i).jp u.j,O1 (q.m.get i).cp M4 (ccs (q.m.get i).dp 2 u.c),U_ (q.m.get i).rp u.r]:=by
  unfold G8 Fk0
  rw[hu]
 have hR:∀r',G8 (q.m.get i) { (g.mem.get i) with up:=some { u with r:=r' } }=eD [Y5 (q.m.get i).dp (g.mem.get i).d (g.mem.get i).kv,vB (q.m.get i).dp (q.m.get i).jc (q.m.get i).jp u.j,O1 (q.m.get i).cp M4 (ccs (q.m.get i).dp 2 u.c),U_ (q.m.get i).rp r']:=fun _=>rfl
 rcases hi.cases with rfl | rfl | rfl
 ·have h:Rel B w (G8 (q.m.get 0) (g.mem.get 0) :: [O1 pg Q3 cs,G8 q.m.b g.mem.b,G8 q.m.c g.mem.c,XA q.np g.net,V3 U2 cv (g.committed.map ofL)]):=h.pick [1,0,2,3,4,5] (by decide)
  rw[hL] at h
  have h:=Rel.BQ h
  refine h.act 3 rfl (fun B2 own base2=>G B2 base2) fun v e' τ w' hp h=>?_
  obtain⟨r',d,rfl,rfl,hp⟩:=hp
  refine k v r' d w' hp ?_
  have h:Rel B w' ([Y5 (q.m.get 0).dp (g.mem.get 0).d (g.mem.get 0).kv,vB (q.m.get 0).dp (q.m.get 0).jc (q.m.get 0).jp u.j,O1 (q.m.get 0).cp M4 (ccs (q.m.get 0).dp 2 u.c),U_ (q.m.get 0).rp r']++[O1 pg Q3 cs,G8 q.m.b g.mem.b,G8 q.m.c g.mem.c,XA q.np g.net,V3 U2 cv (g.committed.map ofL),d]):=h
  have h:=Rel.QJ h
  rw[←hR] at h
  exact h.pick [1,0,2,3,4,5,6] (by decide)
 ·have h:Rel B w (G8 (q.m.get 1) (g.mem.get 1) :: [O1 pg Q3 cs,G8 q.m.a g.mem.a,G8 q.m.c g.mem.c,XA q.np g.net,V3 U2 cv (g.committed.map ofL)]):=h.pick [2,0,1,3,4,5] (by decide)
  rw[hL] at h
  have h:=Rel.BQ h
  refine h.act 3 rfl (fun B2 own base2=>G B2 base2) fun v e' τ w' hp h=>?_
  obtain⟨r',d,rfl,rfl,hp⟩:=hp
  refine k v r' d w' hp ?_
  have h:Rel B w' ([Y5 (q.m.get 1).dp (g.mem.get 1).d (g.mem.get 1).kv,vB (q.m.get 1).dp (q.m.get 1).jc (q.m.get 1).jp u.j,O1 (q.m.get 1).cp M4 (ccs (q.m.get 1).dp 2 u.c),U_ (q.m.get 1).rp r']++[O1 pg Q3 cs,G8 q.m.a g.mem.a,G8 q.m.c g.mem.c,XA q.np g.net,V3 U2 cv (g.committed.map ofL),d]):=h
  have h:=Rel.QJ h
  rw[←hR] at h
  exact h.pick [1,2,0,3,4,5,6] (by decide)
 ·have h:Rel B w (G8 (q.m.get 2) (g.mem.get 2) :: [O1 pg Q3 cs,G8 q.m.a g.mem.a,G8 q.m.b g.mem.b,XA q.np g.net,V3 U2 cv (g.committed.map ofL)]):=h.pick [3,0,1,2,4,5] (by decide)
  rw[hL] at h
  have h:=Rel.BQ h
  refine h.act 3 rfl (fun B2 own base2=>G B2 base2) fun v e' τ w' hp h=>?_
  obtain⟨r',d,rfl,rfl,hp⟩:=hp
  refine k v r' d w' hp ?_
  have h:Rel B w' ([Y5 (q.m.get 2).dp (g.mem.get 2).d (g.mem.get 2).kv,vB (q.m.get 2).dp (q.m.get 2).jc (q.m.get 2).jp u.j,O1 (q.m.get 2).cp M4 (ccs (q.m.get 2).dp 2 u.c),U_ (q.m.get 2).rp r']++[O1 pg Q3 cs,G8 q.m.a g.mem.a,G8 q.m.b g.mem.b,XA q.np g.net,V3 U2 cv (g.committed.map ofL),d]):=h
  have h:=Rel.QJ h
  rw[←hR] at h
  exact h.pick [1,2,3,0,4,5,6] (by decide)
theorem fG0(hT:bR B)(hP:kH B)(hok:GOk g)(hke:DC g.mem B){id:Int}{fv:Value}{f:H7→H7×LC}
  (hf:∀u,(g.mem.get id).up=some u→I3 id→UOk id { u with r:=(f u.r).1 }∧gN (f u.r).2∧∀(B':Base) (p:Nat),(∀{d:Dat},d B→d B')→Does prog B' (U_ p u.r) (aA fv #[ptr p]) fun v e' τ=>e'=U_ p (f u.r).1∧τ=[rG v (f u.r).2]) :
  Does prog B (Y8 pg g) (Z0 OI #[ptr pg,.int .i64 id,fv]) fun v e' τ=>v = .int .i64 (DT g id f).2∧e'=Y8 pg (DT g id f).1∧τ=[]:=by
 refine Does.intro fun B' w K base h k=>?_
 replace hT:=base hT
 replace hP:=base hP
 replace hke:=hke.mono base
 refine AL.up ?_
 unfold AL.pt
 unfold DT at k
 refine h.ask (fun B2 own base2=>FM0 (own (i:=0) rfl) id) fun w1 h=>?_
 rw[X7,K5,K3]
 refine⟨fun c=>?_,fun c=>?_⟩
 case refine_2 =>
  rw[if_pos c] at k
  exact k _ _ [] _ ⟨rfl,rfl,rfl⟩ h
 rw[if_neg (fun hh=>hh c)] at k
 obtain⟨hi,u,hu⟩:=LQ c
 rw[hu] at k
 simp only at k
 obtain⟨hu2,hfo,hG⟩:=hf u hu hi
 obtain⟨q,cs,cv,ha,h⟩:=Y8.open h
 rw[List.append_nil] at h
 have hat:=ha.mem id hi
 rw[hu] at hat
 simp -zeta only[y5,U0 bC,Nat.zero_add]
 rw[tX hi,U0 DD,h.ld 0 rfl U7 (o:=4 * id.toNat+3) hat.at3]
 refine bC0 (post:=fun v r' d=>r'=(f u.r).1∧d=rG v (f u.r).2) h hi hu (fun B2 base2=>?_) fun v r' d w2 hp h=>?_
 ·intro w σ i K h0 h1 h2
  refine hG B2 (q.m.get id).rp (fun hd=>base2 (base hd)) w σ i K h0 h1 fun v e' τ w' hp=>h2 v e' τ w' ?_
  obtain⟨rfl,rfl⟩:=hp
  exact⟨_,_,rfl,rfl,rfl,rfl⟩
 obtain⟨rfl,rfl⟩:=hp
 obtain⟨B2,ext2,h9,ho⟩:=h.Bk0
 have up2:∀{d:Dat},d B'→d B2:=fun hd=>Dat.mono _ ext2.le hd
 obtain⟨⟨rv,sv⟩,ev,qr,qs⟩:=ho
 have ev:v = .agg (g_ (f u.r).2 rv.1 sv.1):=ev
 subst ev
 have h:Rel B2 w2 [Y8 pg (zC g id u (f u.r).1)]:=Y8.close (τ:=[]) (ha.same (Rj0 hi hu)) (by rw[List.append_nil];exact h9)
 have hok2:RY (zC g id u (f u.r).1).mem:=hok.ups.set hi fun u' hu'=>by cases hu';exact hu2
 have hke2:DC (zC g id u (f u.r).1).mem B2:=(hke.mono up2).set hi ((hke.mono up2) id hi)
 have hsome:((zC g id u (f u.r).1).mem.get id).up=some { u with r:=(f u.r).1 }:=by
  show ((g.mem.set id _).get id).up=_
  rw[T3.Z9 _ hi]
 refine h.act 0 rfl (fun B3 own base3=>lK0 (base3 (up2 hT)) (base3 (up2 hP)) hok2 (hke2.mono base3) hok.net hok.com hi hsome hfo.st hfo.send hfo.few (base3 qr) (base3 qs)) fun v e' τ w3 hp h=>?_
 obtain⟨rfl,rfl,rfl⟩:=hp
 exact k _ _ [] _ ⟨rfl,rfl,rfl⟩ (ext2.rel h)
def PX(g:L8)(id:Int):L8×Int:=DT g id uF
theorem by0(hT:bR B)(hP:kH B)(hok:GOk g)(hke:DC g.mem B)(id:Int):Does prog B (Y8 pg g) (Z0 NI #[ptr pg,.int .i64 id]) fun v e' τ=>v = .int .i64 (PX g id).2∧e'=Y8 pg (PX g id).1∧τ=[]:=by
 refine Does.intro fun B' w K base h k=>?_
 refine yL.up ?_
 unfold yL.pt
 refine h.act 0 rfl (fun B2 own base2=>fG0 (f:=uF) (base2 (base hT)) (base2 (base hP)) hok (hke.mono fun hd=>base2 (base hd)) fun u hu hi=>?_) fun v e' τ w1 hp h=>?_
 ·have huok:=hok.ups id hi u hu
  obtain⟨a,b,c⟩:=Bc0 huok.r
  refine⟨⟨huok.j,a,b.trans huok.id,c huok.term⟩,Ua0 huok.r,fun B3 p base3=>?_⟩
  intro w σ i K h0 h1 h2
  exact dH (CM0 (p:=p) huok.r w σ i K h0 h1 h2)
 ·exact k _ _ _ _ hp h
end
def DJ(g:L8)(n:zI):L8:={ g with net:=n }
def kM(g:L8)(i:Int)(m:U8):L8×Int :=
 if(M9 g.net i).1.2≠0 then(DJ g (M9 g.net i).2,(M9 g.net i).1.2)
 else DT (DJ g (M9 g.net i).2) (M9 g.net i).1.1.to_ fun r=>MF r m
structure cK0 where
 g:L8
 n:Int
 e:Int
def TK(g:L8)(id:Int)(u:UpP)(x:jK0):cK0 :=
 if x.e≠0 then⟨zC g id u x.r,0,x.e⟩
 else if(doS (zC g id u x.r) id { u with r:=x.r } x.o).2≠0 then⟨(doS (zC g id u x.r) id { u with r:=x.r } x.o).1,0,(doS (zC g id u x.r) id { u with r:=x.r } x.o).2⟩
 else⟨(doS (zC g id u x.r) id { u with r:=x.r } x.o).1,x.n,0⟩
def fE(g:L8)(id:Int)(data:ByteArray):cK0 :=
 if upE g id≠0 then⟨g,0,upE g id⟩
 else match (g.mem.get id).up with
  | none=>⟨g,0,9⟩
  | some u=>TK g id u (G7 u.r data)
theorem uF0{s:zI}{n:Nat}(h:NS s):NS (rmS s n):=⟨iJ0 h.1,fun p hp=>by
 rcases List.mem_append.1 hp with hp | hp
 ·exact h.2 p (List.mem_of_mem_take hp)
 ·exact h.2 p (List.mem_of_mem_drop hp)⟩
theorem MV{s:zI}{i:Int}(h:NS s):NS (M9 s i).2:=by
 unfold M9
 split
 ·split
  ·exact uF0 h
  ·exact uF0 h
 ·exact h
section
variable {B:Base} {w:World} {σ τ:List Dat} {pg:Nat} {g:L8} {K:PtK}
theorem aI0{p o:Nat}{r:H7}{m:U8}{pk:KT}(hW:lC B)(hP:kH B)(hk:H8 r)(hm:gL m)(hb:pk.body=ofL (nM m))(hc:O1 o U4 pk.cs.toArray B):Does prog B (U_ p r) (Z0 ZH #[ptr p,ptr o]) fun v e' τ=>e'=U_ p (MF r m).1∧τ=[rG v (MF r m).2]:=by
 refine Does.intro fun B' w K base h k=>?_
 replace hW:=base hW
 replace hP:=base hP
 replace hc:=base hc
 refine eG.up ?_
 unfold eG.pt
 have hmf:=hm.few
 refine h.alloc BF fun t w1 h=>?_
 have h:Rel B' w1 [U_ p r,O1 t Y2 (g_ o0 (.slice none 0 0) (.slice none 0 0))]:=h
 simp -zeta only[U0 ji0,Nat.zero_add]
 rw[O1.ld (h.K6 hc) V6 (o:=2) (v := .string pk.body) rfl,hb]
 refine h.make (fun B2 own base2=>tM0 (base2 hW) (base2 hP) hm) fun v τ w2 hp h=>?_
 obtain⟨mv,rfl,rfl⟩:=hp
 rw[h_,Y9]
 have h:Rel B' w2 [U_ p r,O1 t Y2 (g_ o0 (.slice none 0 0) (.slice none 0 0)),V3 U3 mv.1 m.recs]:=h
 refine h.r9 (ds:=(m.raw mv).cs.toArray) JJ rfl Q8 rfl (fun v hv=>Enc.one (m.raw mv) v hv) fun m4 w3 h=>?_
 rw[h.Q9 3 rfl Q8 rfl]
 refine h.act 0 rfl (fun B2 own base2=>FK0 hk (V3.read (own (j:=2) (by decide) rfl)) (by omega)) fun v e' τ w4 hp h=>?_
 obtain⟨rfl,rfl⟩:=hp
 have h:Rel B' w4 ([U_ p (MF r m).1,O1 t Y2 (g_ o0 (.slice none 0 0) (.slice none 0 0)),V3 U3 mv.1 m.recs,O1 m4 U1 (m.raw mv).cs.toArray]++[rG v (MF r m).2]):=h
 obtain⟨rv,sv,ev,h2⟩:=rG.FO h
 subst ev
 refine SK (i:=1) h2 rfl rfl rfl (UE rv.2 sv.2) fun w5 h3=>?_
 refine k _ _ _ _ ⟨rfl,rfl⟩ ?_
 have h3:=h3.pick [0,4] (by decide)
 exact h3.imp (i:=1) (e:=rG (.agg (g_ (MF r m).2 rv.1 sv.1)) (MF r m).2) rfl fun B hB=>rG.of rv.2 sv.2 hB.1 hB.2
theorem wi0(h:Rel B w [Y8 pg g]):∃q cs cv,GAt cs q g.mem cv∧Rel B w [O1 pg Q3 cs,G8 q.m.a g.mem.a,G8 q.m.b g.mem.b,G8 q.m.c g.mem.c,XA q.np g.net,V3 U2 cv (g.committed.map ofL)]:=by
 obtain⟨q,cs,cv,ha,h⟩:=Y8.open h
 exact⟨q,cs,cv,ha,h⟩
theorem qX{q:GQ}{cs:Array Value}{cv:Value}{n:zI}(ha:GAt cs q g.mem cv)(h:Rel B w [O1 pg Q3 cs,G8 q.m.a g.mem.a,G8 q.m.b g.mem.b,G8 q.m.c g.mem.c,XA q.np n,V3 U2 cv (g.committed.map ofL)]):Rel B w [Y8 pg (DJ g n)] :=
 Y8.close (g:=DJ g n) (τ:=[]) ha (by rw[List.append_nil];exact h)
theorem Wh0(hT:bR B)(hW:lC B)(hP:kH B)(hok:GOk g)(hke:DC g.mem B)(i:Int){m:U8}(hm:(M9 g.net i).1.2=0→gL m∧(M9 g.net i).1.1.body=ofL (nM m)):Does prog B (Y8 pg g) (Z0 UF #[ptr pg,.int .i64 i]) fun v e' τ=>v = .int .i64 (kM g i m).2∧e'=Y8 pg (kM g i m).1∧τ=[]:=by
 refine Does.intro fun B' w K base h k=>?_
 replace hT:=base hT
 replace hW:=base hW
 replace hP:=base hP
 replace hke:=hke.mono base
 refine yH.up ?_
 unfold yH.pt
 obtain⟨q,cs,cv,ha,h⟩:=wi0 h
 simp -zeta only[y5,U0 JE,Nat.zero_add]
 rw[h.ld 0 rfl TG (o:=12) ha.np]
 refine h.act 4 rfl (fun B2 own base2=>Ry0 hok.net.1 i) fun v e' τ w1 hp h=>?_
 obtain⟨rfl,rfl,rfl⟩:=hp
 have hn2:=MV (i:=i) hok.net
 unfold kM at k
 have h:Rel B' w1 [Y8 pg (DJ g (M9 g.net i).2)]:=qX ha h
 generalize M9 g.net i=x at *
 obtain⟨⟨pk,e⟩,n⟩:=x
 simp only at h hn2 hm k ⊢
 rw[h_,Y9]
 refine h.r9 (ds:=pk.cs.toArray) VG rfl Z8 rfl (fun v hv=>Enc.one pk v hv) fun p5 w2 h=>?_
 have h:Rel B' w2 ([Y8 pg (DJ g n)]++[O1 p5 U4 pk.cs.toArray]):=h
 rw[X7,K5,K3]
 refine⟨fun c=>?_,fun c=>?_⟩
 case refine_2 =>
  rw[if_pos c] at k
  exact k _ _ [] _ ⟨rfl,rfl,rfl⟩ (h.take 1)
 rw[if_neg (fun hh=>hh c)] at k
 obtain⟨hfm,hb⟩:=hm c
 simp -zeta only[U0 lX,Nat.zero_add]
 rw[h.ld 1 rfl F3 (o:=1) (v := .int .i64 pk.to_) rfl,OG]
 have hok2:GOk (DJ g n):=⟨hok.ups,hn2,hok.com⟩
 refine h.act 0 rfl (fun B2 own base2=>fG0 (f:=fun r=>MF r m) (base2 hT) (base2 hP) hok2 (hke.mono base2) fun u hu hi=>?_) fun v e' τ w3 hp h=>?_
 ·have huok:=hok.ups pk.to_ hi u hu
  obtain⟨a,b,c⟩:=Og0 huok.r huok.term m
  refine⟨⟨huok.j,a,b.trans huok.id,c⟩,Sa0 huok.r huok.term m,fun B3 p base3=>?_⟩
  have hc:=base3 (own (j:=1) (by decide) rfl)
  intro w σ i K h0 h1 h2
  exact dH (aI0 (p:=p) (base3 (base2 hW)) (base3 (base2 hP)) huok.r hfm hb hc w σ i K h0 h1 h2)
 ·obtain⟨rfl,rfl,rfl⟩:=hp
  exact k _ _ [] _ ⟨rfl,rfl,rfl⟩ (h.take 1)
theorem em0(h0:Y8 pg g B):Gives prog B (Z0 VF #[ptr pg]) (.int .i64 g.net.fl.length):=by
 refine Gives.intro fun B' w K base h k=>?_
 obtain⟨q,cs,cv,ha,c0,c1,c2,c3⟩:=Y8.FO (base h0)
 refine zH.up ?_
 unfold zH.pt
 simp -zeta only[y5,U0 JE,Nat.zero_add]
 rw[O1.ld (h.K6 c0) TG (o:=12) ha.np]
 refine h.ask (fun B2 own base2=>eH0 (base2 c1)) fun w1 h=>?_
 exact k _ _ h
theorem df0(h0:Y8 pg g B)(hc:g.committed.length≤1000000):Makes prog B (Z0 nE #[ptr pg]) fun u τ=>τ=[V3 U2 u (g.committed.map ofL)]:=by
 refine Makes.intro fun B' w K base h k=>?_
 obtain⟨q,cs,cv,ha,c0,c1,c2,c3⟩:=Y8.FO (base h0)
 refine dG.up ?_
 unfold dG.pt
 have hl:(g.committed.map ofL).length=g.committed.length:=List.length_map ..
 simp -zeta only[y5,U0 FW,Nat.zero_add]
 rw[O1.ld (h.K6 c0) J9 (o:=13) ha.cv]
 refine h.make (fun B2 own base2=>wQ (base2 c2) (by omega) (by omega)) fun u τ w1 hp h=>?_
 exact k _ _ _ hp h
theorem lH0(hok:GOk g)(i:Int):Does prog B (Y8 pg g) (Z0 ZM #[ptr pg,.int .i64 i]) fun _ e' τ=>e'=Y8 pg (DJ g (Fa0 g.net i).2)∧τ=[]:=by
 refine Does.intro fun B' w K base h k=>?_
 refine vL.up ?_
 unfold vL.pt
 obtain⟨q,cs,cv,ha,h⟩:=wi0 h
 simp -zeta only[y5,U0 JE,Nat.zero_add]
 rw[h.ld 0 rfl TG (o:=12) ha.np]
 refine h.act 4 rfl (fun B2 own base2=>mH0 hok.net.1 i) fun v e' τ w1 hp h=>?_
 obtain⟨rfl,rfl,rfl⟩:=hp
 exact k _ _ [] _ ⟨rfl,rfl⟩ (qX ha h)
theorem az0(hok:GOk g)(i:Int):Does prog B (Y8 pg g) (Z0 xK #[ptr pg,.int .i64 i]) fun _ e' τ=>e'=Y8 pg (DJ g (sO g.net i).2)∧τ=[]:=by
 refine Does.intro fun B' w K base h k=>?_
 refine fJ.up ?_
 unfold fJ.pt
 obtain⟨q,cs,cv,ha,h⟩:=wi0 h
 simp -zeta only[y5,U0 JE,Nat.zero_add]
 rw[h.ld 0 rfl TG (o:=12) ha.np]
 refine h.act 4 rfl (fun B2 own base2=>YC0 hok.net.1 i) fun v e' τ w1 hp h=>?_
 obtain⟨rfl,rfl,rfl⟩:=hp
 exact k _ _ [] _ ⟨rfl,rfl⟩ (qX ha h)
theorem RF0(i:Int):Does prog B (Y8 pg g) (Z0 RL #[ptr pg,.int .i64 i]) fun _ e' τ=>e'=Y8 pg (DJ g { g.net with sp:=Yw0 i })∧τ=[]:=by
 refine Does.intro fun B' w K base h k=>?_
 refine bK.up ?_
 unfold bK.pt
 obtain⟨q,cs,cv,ha,h⟩:=wi0 h
 simp -zeta only[y5,U0 JE,Nat.zero_add]
 rw[h.ld 0 rfl TG (o:=12) ha.np]
 refine h.act 4 rfl (fun B2 own base2=>yJ0 i) fun v e' τ w1 hp h=>?_
 obtain⟨rfl,rfl⟩:=hp
 exact k _ _ [] _ ⟨rfl,rfl⟩ (qX ha h)
theorem YH0:Does prog B (Y8 pg g) (Z0 aN #[ptr pg]) fun _ e' τ=>e'=Y8 pg (DJ g { g.net with sp:=0 })∧τ=[]:=by
 refine Does.intro fun B' w K base h k=>?_
 refine wL.up ?_
 unfold wL.pt
 obtain⟨q,cs,cv,ha,h⟩:=wi0 h
 simp -zeta only[y5,U0 JE,Nat.zero_add]
 rw[h.ld 0 rfl TG (o:=12) ha.np]
 refine h.act 4 rfl (fun B2 own base2=>RL0) fun v e' τ w1 hp h=>?_
 obtain⟨rfl,rfl⟩:=hp
 exact k _ _ [] _ ⟨rfl,rfl⟩ (qX ha h)
theorem LZ(hT:bR B)(hP:kH B)(hok:GOk g)(hke:DC g.mem B)(id:Int)(data:ByteArray):Does prog B (Y8 pg g) (Z0 lD #[ptr pg,.int .i64 id,.string data]) fun v e' τ=>v = .tuple #[.int .i64 (fE g id data).n,.int .i64 (fE g id data).e]∧e'=Y8 pg (fE g id data).g∧τ=[]:=by
 refine Does.intro fun B' w K base h k=>?_
 replace hT:=base hT
 replace hP:=base hP
 replace hke:=hke.mono base
 refine BH.up ?_
 unfold BH.pt
 unfold fE at k
 refine h.ask (fun B2 own base2=>FM0 (own (i:=0) rfl) id) fun w1 h=>?_
 rw[X7,K5,K3]
 refine⟨fun c=>?_,fun c=>?_⟩
 case refine_2 =>
  rw[if_pos c] at k
  exact k _ _ [] _ ⟨rfl,rfl,rfl⟩ h
 rw[if_neg (fun hh=>hh c)] at k
 obtain⟨hi,u,hu⟩:=LQ c
 rw[hu] at k
 simp only at k
 have huok:=hok.ups id hi u hu
 obtain⟨q,cs,cv,ha,h⟩:=Y8.open h
 rw[List.append_nil] at h
 have hat:=ha.mem id hi
 rw[hu] at hat
 simp -zeta only[y5,U0 bC,Nat.zero_add]
 rw[tX hi,U0 DD,h.ld 0 rfl U7 (o:=4 * id.toNat+3) hat.at3]
 refine bC0 (post:=fun v r' d=>r'=(G7 u.r data).r∧∃o,v = .tuple #[.int .i64 (G7 u.r data).n,.int .i64 (G7 u.r data).e,o]∧d=rG o (G7 u.r data).o) h hi hu (fun B2 base2=>?_) fun v r' d w2 hp h=>?_
 ·intro w σ i K h0 h1 h2
  refine oy0 huok.r huok.term data w σ i K h0 h1 fun v e' τ w' hp=>h2 v e' τ w' ?_
  obtain⟨rfl,o,rfl,rfl⟩:=hp
  exact⟨_,_,rfl,rfl,rfl,o,rfl,rfl⟩
 obtain⟨rfl,o,rfl,rfl⟩:=hp
 obtain⟨a,b,c2⟩:=CP huok.r huok.term data
 have hfo:=bU huok.r huok.term data
 obtain⟨B2,ext2,h9,ho⟩:=h.Bk0
 have up2:∀{d:Dat},d B'→d B2:=fun hd=>Dat.mono _ ext2.le hd
 obtain⟨⟨rv,sv⟩,ev,qr,qs⟩:=ho
 have ev:o = .agg (g_ (G7 u.r data).o rv.1 sv.1):=ev
 subst ev
 generalize G7 u.r data=x at *
 rw[PV,Kg0,Lg0]
 have h:Rel B2 w2 [Y8 pg (zC g id u x.r)]:=Y8.close (τ:=[]) (ha.same (Rj0 hi hu)) (by rw[List.append_nil];exact h9)
 refine h.r9 (ds:=g_ x.o rv.1 sv.1) BF rfl SC rfl (UE rv.2 sv.2) fun o11 w3 h=>?_
 unfold TK at k
 refine Q6 fun J hJ=>?_
 rw[O6,K3]
 refine⟨fun c=>?_,fun c=>?_⟩
 case refine_2 =>
  rw[if_pos c] at k
  refine hJ _ _ ?_
  rw[X7,K5,K3]
  exact⟨fun hh=>absurd hh c,fun _=>k _ _ [] _ ⟨rfl,rfl,rfl⟩ (ext2.rel (h.take 1))⟩
 rw[if_neg (fun hh=>hh c)] at k
 rw[h.Q9 1 rfl SC rfl]
 have hok2:RY (zC g id u x.r).mem:=hok.ups.set hi fun u' hu'=>by cases hu';exact⟨huok.j,a,b.trans huok.id,c2⟩
 have hke2:DC (zC g id u x.r).mem B2:=(hke.mono up2).set hi ((hke.mono up2) id hi)
 have hsome:((zC g id u x.r).mem.get id).up=some { u with r:=x.r }:=by
  show ((g.mem.set id _).get id).up=_
  rw[T3.Z9 _ hi]
 refine h.act 0 rfl (fun B3 own base3=>lK0 (base3 (up2 hT)) (base3 (up2 hP)) hok2 (hke2.mono base3) hok.net hok.com hi hsome hfo.st hfo.send hfo.few (base3 qr) (base3 qs)) fun v e' τ w4 hp h=>?_
 obtain⟨rfl,rfl,rfl⟩:=hp
 refine hJ _ _ ?_
 rw[X7,K5,K3]
 refine⟨fun c=>?_,fun c=>?_⟩
 ·rw[if_neg (fun hh=>hh c)] at k
  exact k _ _ [] _ ⟨rfl,rfl,rfl⟩ (ext2.rel (h.take 1))
 ·rw[if_pos c] at k
  exact k _ _ [] _ ⟨rfl,rfl,rfl⟩ (ext2.rel (h.take 1))
end
section
variable {B:Base} {w:World} {σ τ:List Dat} {pg:Nat} {g:L8} {K:PtK}
def DW(pg:Nat)(B:Base)(cs:Array Value)(o:Nat)(q:MQ)(m:aB)(s:Sem Next)(out:Int→aB→Dat→Prop):Prop :=
 Does prog B (yT [O1 pg Q3 cs,G8 q m]) s fun v e' τ=>∃cs' q' m' e d,v = .int .i64 e∧e'=yT [O1 pg Q3 cs',G8 q' m']∧τ=[d]∧RA cs' o q' m'.up.isSome∧XB cs cs' o∧out e m' d
theorem UG0{q:GQ}{cs:Array Value}{cv:Value}{i:Int}{s:Sem Next}{out:Int→aB→Dat→Prop}(h:Rel B w (WV pg g q cs cv))(ha:GAt cs q g.mem cv)(hi:I3 i)
  (G:∀B':Base,(∀{d:Dat},d B→d B')→DW pg B' cs (4 * i.toNat) (q.m.get i) (g.mem.get i) s out)
  (k:∀e m' d w',out e m' d→Rel B w' [Y8 pg (MB g i m'),d]→K (.int .i64 e) w'):upK prog s w K:=by
 have fin:∀(e:Int) (cs':Array Value) (q':MQ) (m':aB) (d:Dat) (w':World),out e m' d→GAt cs' { q with m:=q.m.set i q' } (g.mem.set i m') cv→Rel B w' (WV pg (MB g i m') { q with m:=q.m.set i q' } cs' cv++[d])→K (.int .i64 e) w':=fun e cs' q' m' d w' ho ha h=>k e m' d w' ho (Y8.close (τ:=[d]) ha h)
 rcases hi.cases with rfl | rfl | rfl
 ·have h:Rel B w ([G8 q.m.b g.mem.b,G8 q.m.c g.mem.c,XA q.np g.net,V3 U2 cv (g.committed.map ofL)]++[O1 pg Q3 cs,G8 q.m.a g.mem.a]):=h.pick [2,3,4,5,0,1] (by decide)
  have h:=Rel.VM h
  refine h.act 4 rfl (fun B2 own base2=>G B2 base2) fun v e' τ w' hp h=>?_
  obtain⟨cs',q',m',e,d,rfl,rfl,rfl,h1,h2,ho⟩:=hp
  have h:Rel B w' ([G8 q.m.b g.mem.b,G8 q.m.c g.mem.c,XA q.np g.net,V3 U2 cv (g.committed.map ofL),d]++[yT [O1 pg Q3 cs',G8 q' m']]):=h.pick [0,1,2,3,5,4] (by decide)
  have h:=Rel.dS h
  exact fin _ _ _ _ _ _ ho (ha.put hi h1 h2) (h.pick [5,6,0,1,2,3,4] (by decide))
 ·have h:Rel B w ([G8 q.m.a g.mem.a,G8 q.m.c g.mem.c,XA q.np g.net,V3 U2 cv (g.committed.map ofL)]++[O1 pg Q3 cs,G8 q.m.b g.mem.b]):=h.pick [1,3,4,5,0,2] (by decide)
  have h:=Rel.VM h
  refine h.act 4 rfl (fun B2 own base2=>G B2 base2) fun v e' τ w' hp h=>?_
  obtain⟨cs',q',m',e,d,rfl,rfl,rfl,h1,h2,ho⟩:=hp
  have h:Rel B w' ([G8 q.m.a g.mem.a,G8 q.m.c g.mem.c,XA q.np g.net,V3 U2 cv (g.committed.map ofL),d]++[yT [O1 pg Q3 cs',G8 q' m']]):=h.pick [0,1,2,3,5,4] (by decide)
  have h:=Rel.dS h
  exact fin _ _ _ _ _ _ ho (ha.put hi h1 h2) (h.pick [5,0,6,1,2,3,4] (by decide))
 ·have h:Rel B w ([G8 q.m.a g.mem.a,G8 q.m.b g.mem.b,XA q.np g.net,V3 U2 cv (g.committed.map ofL)]++[O1 pg Q3 cs,G8 q.m.c g.mem.c]):=h.pick [1,2,4,5,0,3] (by decide)
  have h:=Rel.VM h
  refine h.act 4 rfl (fun B2 own base2=>G B2 base2) fun v e' τ w' hp h=>?_
  obtain⟨cs',q',m',e,d,rfl,rfl,rfl,h1,h2,ho⟩:=hp
  have h:Rel B w' ([G8 q.m.a g.mem.a,G8 q.m.b g.mem.b,XA q.np g.net,V3 U2 cv (g.committed.map ofL),d]++[yT [O1 pg Q3 cs',G8 q' m']]):=h.pick [0,1,2,3,5,4] (by decide)
  have h:=Rel.dS h
  exact fin _ _ _ _ _ _ ho (ha.put hi h1 h2) (h.pick [5,0,1,6,2,3,4] (by decide))
theorem dy0{g:L8}{id:Int}:upE g id=1↔¬I3 id:=by
 unfold upE I3
 split
 ·exact⟨fun _=>by omega,fun _=>rfl⟩
 ·split
  ·exact⟨(fun h=>by cases h),fun h=>by omega⟩
  ·exact⟨(fun h=>by cases h),fun h=>by omega⟩
theorem jY(hok:GOk g){id:Int}{fv:Value}{out:Int→aB→Dat→Prop}
  (hU:∀e m' d,I3 id→out e m' d→∀u,m'.up=some u→UOk id u)
  (hG:I3 id→∀(B':Base) (cs:Array Value) (q:MQ),(∀{d:Dat},d B→d B')→cs.size=14→RA cs (4 * id.toNat) q (g.mem.get id).up.isSome→DW pg B' cs (4 * id.toNat) q (g.mem.get id) (aA fv #[.pointer (some ⟨pg,4 * id.toNat,none⟩)]) out) :
  Does prog B (Y8 pg g) (Z0 SB #[ptr pg,.int .i64 id,fv]) fun v e' τ=>(¬I3 id∧v = .int .i64 1∧e'=Y8 pg g∧τ=[emp])∨(I3 id∧∃e m' d,v = .int .i64 e∧e'=Y8 pg (jZ (MB g id m'))∧τ=[d]∧out e m' d):=by
 refine Does.intro fun B' w K base h k=>?_
 refine FH.up ?_
 unfold FH.pt
 refine h.ask (fun B2 own base2=>FM0 (own (i:=0) rfl) id) fun w1 h=>?_
 rw[O6,K3]
 refine⟨fun c=>?_,fun c=>?_⟩
 ·exact k _ _ [emp] _ (.inl ⟨dy0.1 c,rfl,rfl,rfl⟩) h.jI
 have hi:I3 id:=Classical.byContradiction fun hh=>c (dy0.2 hh)
 obtain⟨q,cs,cv,ha,h⟩:=Y8.open h
 rw[List.append_nil] at h
 simp -zeta only[y5,U0 bC,Nat.zero_add]
 rw[tX hi]
 refine UG0 (out:=out) h ha hi (fun B2 base2=>hG hi B2 cs (q.m.get id) (fun hd=>base2 (base hd)) ha.size (ha.mem id hi)) fun e m' d w2 ho h=>?_
 have hok2:RY (MB g id m').mem:=hok.ups.set hi (hU e m' d hi ho)
 refine h.act 0 rfl (fun B3 own base3=>OE0 hok2 hok.com) fun v e' τ w3 hp h=>?_
 obtain⟨rfl,rfl⟩:=hp
 exact k _ _ [d] _ (.inr ⟨hi,e,m',d,rfl,rfl,rfl,ho⟩) h
theorem G8.disk{q:MQ}{m:aB}(h:G8 q m B):Y5 q.dp m.d m.kv B:=by
 unfold G8 Fk0 at h
 cases hu:m.up with
 | none=>rw[hu] at h;exact eD.get (j:=0) h rfl
 | some u=>rw[hu] at h;exact eD.get (j:=0) h rfl
theorem Yn0{q:MQ}{m:aB}{s:Sem Next}{post:Value→DS→Value→Dat→Prop}{ρ:Dat}(h:Rel B w [ρ,G8 q m])
  (G:∀B':Base,(∀{d:Dat},d B→d B')→Does prog B' (Y5 q.dp m.d m.kv) s fun v e' τ=>∃s' kv' d,e'=Y5 q.dp s' kv'∧τ=[d]∧post v s' kv' d)
  (k:∀v s' kv' d w',post v s' kv' d→Rel B w' [ρ,G8 q { m with d:=s',kv:=kv' },d]→K v w'):upK prog s w K:=by
 have h:=h.pick [1,0] (by decide)
 have h:Rel B w [G8 q m,ρ]:=h
 cases hu:m.up with
 | none =>
  have hL:G8 q m=eD [Y5 q.dp m.d m.kv]:=by unfold G8 Fk0;rw[hu]
  have hR:∀s' kv',G8 q { m with d:=s',kv:=kv' }=eD [Y5 q.dp s' kv']:=fun s' kv'=>by unfold G8 Fk0;rw[hu]
  rw[hL] at h
  have h:=Rel.BQ h
  refine h.act 0 rfl (fun B2 own base2=>G B2 base2) fun v e' τ w' hp h=>?_
  obtain⟨s',kv',d,rfl,rfl,hp⟩:=hp
  refine k v s' kv' d w' hp ?_
  have h:Rel B w' ([Y5 q.dp s' kv']++[ρ,d]):=h
  have h:=Rel.QJ h
  rw[←hR] at h
  exact h.pick [1,0,2] (by decide)
 | some u =>
  have hL:G8 q m=eD [Y5 q.dp m.d m.kv,vB q.dp q.jc q.jp u.j,O1 q.cp M4 (ccs q.dp 2 u.c),U_ q.rp u.r]:=by unfold G8 Fk0;rw[hu]
  have hR:∀s' kv',G8 q { m with d:=s',kv:=kv' }=eD [Y5 q.dp s' kv',vB q.dp q.jc q.jp u.j,O1 q.cp M4 (ccs q.dp 2 u.c),U_ q.rp u.r]:=fun s' kv'=>by unfold G8 Fk0;rw[hu]
  rw[hL] at h
  have h:=Rel.BQ h
  refine h.act 0 rfl (fun B2 own base2=>G B2 base2) fun v e' τ w' hp h=>?_
  obtain⟨s',kv',d,rfl,rfl,hp⟩:=hp
  refine k v s' kv' d w' hp ?_
  have h:Rel B w' ([Y5 q.dp s' kv',vB q.dp q.jc q.jp u.j,O1 q.cp M4 (ccs q.dp 2 u.c),U_ q.rp u.r]++[ρ,d]):=h
  have h:=Rel.QJ h
  rw[←hR] at h
  exact h.pick [1,0,2] (by decide)
theorem DW.intro{cs:Array Value}{o:Nat}{q:MQ}{m:aB}{s:Sem Next}{out:Int→aB→Dat→Prop}
  (h:∀(B':Base) (w:World) (K:PtK),(∀{d:Dat},d B→d B')→Rel B' w [O1 pg Q3 cs,G8 q m]→(∀cs' q' m' e d w',RA cs' o q' m'.up.isSome→XB cs cs' o→out e m' d→Rel B' w' [O1 pg Q3 cs',G8 q' m',d]→K (.int .i64 e) w')→upK prog s w K):DW pg B cs o q m s out:=by
 refine Does.intro fun B' w K base h0 k=>?_
 have h0:=Rel.dS (σ:=[]) (L:=[O1 pg Q3 cs,G8 q m]) h0
 refine h B' w K base h0 fun cs' q' m' e d w' h1 h2 ho h3=>?_
 have h3:Rel B' w' ([d]++[O1 pg Q3 cs',G8 q' m']):=h3.pick [2,0,1] (by decide)
 have h3:=Rel.VM h3
 exact k _ _ [d] w' ⟨cs',q',m',e,d,rfl,rfl,rfl,h1,h2,ho⟩ (h3.pick [1,0] (by decide))
def Vw0(m:aB)(n:Int):aB:={ m with d:={ m.d with lost:=max n 0 } }
theorem oI0{cs:Array Value}{o n5:Nat}{q:MQ}{m:aB}{n:Int}(hn:n≤9223372036854775807)(hat:RA cs o q m.up.isSome)(hc:O1 n5 Q0 #[.int .i64 n] B) :
  DW pg B cs o q m (aA (.func (.func wG) #[] #[ptr n5]) #[.pointer (some ⟨pg,o,none⟩)]) fun e m' d=>e=0∧m'=Vw0 m n∧d=emp:=by
 refine DW.intro fun B' w K base h k=>?_
 replace hc:=base hc
 refine dH (?_:upK prog (Z0 wG #[.pointer (some ⟨pg,o,none⟩),ptr n5]) w K)
 refine gJ.up ?_
 unfold gJ.pt
 have h:=h.tick
 generalize tick w=w at *
 simp -zeta only[y5,U0 QA,Nat.add_zero]
 rw[h.ld 0 rfl o9 (o:=o) hat.at0,O1.ld (h.K6 hc) F3 (o:=0) (v := .int .i64 n) rfl]
 refine Yn0 (post:=fun v s' kv' d=>s'={ m.d with lost:=max n 0 }∧kv'=m.kv∧d=emp) h (fun B2 base2=>?_) fun v s' kv' d w1 hp h=>?_
 ·intro w σ i K h0 h1 h2
  refine KK0 hn w σ i K h0 h1 fun v e' τ w' hp h3=>?_
  obtain⟨rfl,rfl,rfl⟩:=hp
  rw[List.append_nil] at h3
  exact h2 _ _ [emp] w' ⟨_,_,emp,rfl,rfl,rfl,rfl,rfl⟩ h3.jI
 ·obtain⟨rfl,rfl,rfl⟩:=hp
  exact k cs q (Vw0 m n) 0 emp _ hat (XB.refl _ _) ⟨rfl,rfl,rfl⟩ h
def kC0(m:aB)(n:Int)(keep:List Int)(kv:Value):aB:={ m with d:={ m.d with armed:=max n 0,keep:=keep },kv:=kv }
theorem dL0{cs:Array Value}{o n6 k7:Nat}{q:MQ}{m:aB}{n:Int}{kv:Value}{keep:List Int}(hn:n≤9223372036854775807)(r:Q4 kv keep B)(hl:keep.length≤1000000)(hat:RA cs o q m.up.isSome)(hc:O1 n6 Q0 #[.int .i64 n] B)(hc2:O1 k7 J6 #[kv] B) :
  DW pg B cs o q m (aA (.func (.func nH) #[] #[ptr n6,ptr k7]) #[.pointer (some ⟨pg,o,none⟩)]) fun e m' d=>e=0∧∃kv',m'=kC0 m n keep kv'∧d=V3 Q0 kv' keep:=by
 refine DW.intro fun B' w K base h k=>?_
 replace hc:=base hc
 replace hc2:=base hc2
 replace r:=base r
 refine dH (?_:upK prog (Z0 nH #[.pointer (some ⟨pg,o,none⟩),ptr n6,ptr k7]) w K)
 refine ZJ.up ?_
 unfold ZJ.pt
 have h:=h.tick
 generalize tick w=w at *
 simp -zeta only[y5,U0 QA,Nat.add_zero]
 rw[h.ld 0 rfl o9 (o:=o) hat.at0,O1.ld (h.K6 hc) F3 (o:=0) (v := .int .i64 n) rfl,O1.ld (h.K6 hc2) XC (o:=0) (v:=kv) rfl]
 refine Yn0 (post:=fun v s' kv' d=>s'={ m.d with armed:=max n 0,keep:=keep }∧d=V3 Q0 kv' keep) h (fun B2 base2=>?_) fun v s' kv' d w1 hp h=>?_
 ·intro w σ i K h0 h1 h2
  refine QM0 (base2 r) hl hn w σ i K h0 h1 fun v e' τ w' hp h3=>?_
  obtain⟨rfl,kv',rfl,rfl⟩:=hp
  exact h2 _ _ _ w' ⟨_,kv',_,rfl,rfl,rfl,rfl⟩ h3
 ·obtain⟨rfl,rfl⟩:=hp
  exact k cs q (kC0 m n keep kv') 0 _ _ hat (XB.refl _ _) ⟨rfl,kv',rfl,rfl⟩ h
def sd0(m:aB)(keep:List Int):aB:={ m with d:=rA m.d keep,up:=none }
theorem IC0{cs:Array Value}{o k5:Nat}{q:MQ}{m:aB}{kv:Value}{keep:List Int}(hcs:cs.size=14)(ho:o+4≤14)(r:Q4 kv keep B)(hl:keep.length≤1000000)(hat:RA cs o q m.up.isSome)(hc:O1 k5 J6 #[kv] B) :
  DW pg B cs o q m (aA (.func (.func TF) #[] #[ptr k5]) #[.pointer (some ⟨pg,o,none⟩)]) fun e m' d=>e=0∧m'=sd0 m keep∧d=emp:=by
 refine DW.intro fun B' w K base h k=>?_
 replace hc:=base hc
 replace r:=base r
 refine dH (?_:upK prog (Z0 TF #[.pointer (some ⟨pg,o,none⟩),ptr k5]) w K)
 refine xH.up ?_
 unfold xH.pt
 have h:=h.tick
 generalize tick w=w at *
 simp -zeta only[y5,U0 QA,Nat.add_zero]
 rw[h.ld 0 rfl o9 (o:=o) hat.at0,O1.ld (h.K6 hc) XC (o:=0) (v:=kv) rfl]
 refine Yn0 (post:=fun v s' kv' d=>s'=rA m.d keep∧kv'=m.kv∧d=emp) h (fun B2 base2=>?_) fun v s' kv' d w1 hp h=>?_
 ·intro w σ i K h0 h1 h2
  refine mn0 (base2 r) (by omega) w σ i K h0 h1 fun v e' τ w' hp h3=>?_
  obtain⟨rfl,rfl,rfl⟩:=hp
  rw[List.append_nil] at h3
  exact h2 _ _ [emp] w' ⟨_,_,emp,rfl,rfl,rfl,rfl,rfl⟩ h3.jI
 ·obtain⟨rfl,rfl,rfl⟩:=hp
  refine h.act 0 rfl (fun B2 own base2=>ZF0 hcs ho) fun u2 e' τ w5 hp h=>?_
  obtain⟨rfl,cs',rfl,h1,h2,h4,h5,h3⟩:=hp
  have hd:Rel B' w5 [O1 pg Q3 cs',G8 q (sd0 m keep),emp]:=h.imp (i:=1) (e:=G8 q (sd0 m keep)) rfl fun B hB=>by
   have hh:=G8.disk hB
   exact⟨fun _=>0,fun j d hj=>by
    cases j with
    | zero =>
     cases hj
     exact Dat.mono _ (B:=B) (fun k hk _=>⟨⟨hk,rfl⟩,rfl⟩) hh
    | succ j=>cases hj⟩
  exact k cs' q (sd0 m keep) 0 emp _ (RA.no (h2.trans hat.at0) ⟨_,h4⟩ ⟨_,h5⟩ h3) h1 ⟨rfl,rfl,rfl⟩ hd
end
theorem Wd0{c:List Bs}{m:aB}{i:Int}(hm:∀u,m.up=some u→UOk i u)(hc:c.length≤1000000):(dP c m).length≤1000000:=by
 unfold dP
 cases hu:m.up with
 | none=>exact hc
 | some u =>
  have h1:=(hm u hu).r.len
  show (if u.r.commit≤c.length then c else(u.r.log.take u.r.commit.toNat).map fun x=>bl x.data).length≤1000000
  split
  ·exact hc
  ·rw[List.length_map,List.length_take]
   omega
theorem kx0{g:L8}(h:GOk g):GOk (jZ g):=by
 refine⟨h.ups,h.net,?_⟩
 have h0:=Wd0 (h.ups 0 (by unfold I3;omega)) h.com
 have h1:=Wd0 (h.ups 1 (by unfold I3;omega)) h0
 exact Wd0 (h.ups 2 (by unfold I3;omega)) h1
theorem uY{g:L8}(h:GOk g){i:Int}(hi:I3 i){m:aB}(hm:∀u,m.up=some u→UOk i u):GOk (MB g i m):=⟨h.ups.set hi hm,h.net,h.com⟩
theorem Ot0{g:L8}(h:GOk g){i:Int}(hi:I3 i){u:UpP}(hu:UOk i u){o:LC}(hf:∀m∈o.send,gL m):GOk (doS g i u o).1:=by
 refine kx0 ?_
 unfold do2
 have h1:GOk (MB g i (IC (g.mem.get i) u o).1):=uY h hi (Tr0 hu)
 split
 ·exact⟨h1.ups,TZ h.net hf,h1.com⟩
 ·exact h1
theorem bs0{g:L8}(h:GOk g){id:Int}{f:H7→H7×LC}(hf:∀u,(g.mem.get id).up=some u→I3 id→UOk id { u with r:=(f u.r).1 }∧gN (f u.r).2):GOk (DT g id f).1:=by
 unfold DT
 split
 ·exact h
 rename_i c
 obtain⟨hi,u,hu⟩:=LQ (Classical.byContradiction c)
 rw[hu]
 obtain⟨h1,h2⟩:=hf u hu hi
 exact Ot0 (uY h hi fun u' hu'=>by cases hu';exact h1) hi h1 h2.send
theorem rB0{g:L8}(h:GOk g)(id:Int):∀u,(g.mem.get id).up=some u→I3 id→UOk id { u with r:=(uF u.r).1 }∧gN (uF u.r).2:=fun u hu hi=>by
 have huok:=h.ups id hi u hu
 obtain⟨a,b,c⟩:=Bc0 huok.r
 exact⟨⟨huok.j,a,b.trans huok.id,c huok.term⟩,Ua0 huok.r⟩
theorem zz0{g:L8}(h:GOk g)(id:Int)(m:U8):∀u,(g.mem.get id).up=some u→I3 id→UOk id { u with r:=(MF u.r m).1 }∧gN (MF u.r m).2:=fun u hu hi=>by
 have huok:=h.ups id hi u hu
 obtain⟨a,b,c⟩:=Og0 huok.r huok.term m
 exact⟨⟨huok.j,a,b.trans huok.id,c⟩,Sa0 huok.r huok.term m⟩
theorem wV{g:L8}(h:GOk g)(id:Int):GOk (PX g id).1:=bs0 h (rB0 h id)
theorem FT{g:L8}(h:GOk g){n:zI}(hn:NS n):GOk (DJ g n):=⟨h.ups,hn,h.com⟩
theorem tQ{g:L8}(h:GOk g)(i:Int)(m:U8):GOk (kM g i m).1:=by
 unfold kM
 have h1:GOk (DJ g (M9 g.net i).2):=FT h (MV h.net)
 split
 ·exact h1
 ·exact bs0 h1 (zz0 h1 _ m)
theorem CQ{g:L8}(h:GOk g)(id:Int)(data:ByteArray):GOk (fE g id data).g:=by
 unfold fE
 split
 ·exact h
 rename_i c
 obtain⟨hi,u,hu⟩:=LQ (Classical.byContradiction c)
 rw[hu]
 show GOk (TK g id u (G7 u.r data)).g
 have huok:=h.ups id hi u hu
 obtain⟨a,b,c2⟩:=CP huok.r huok.term data
 have hfo:=bU huok.r huok.term data
 have hu2:UOk id { u with r:=(G7 u.r data).r }:=⟨huok.j,a,b.trans huok.id,c2⟩
 have h1:GOk (zC g id u (G7 u.r data).r):=uY h hi fun u' hu'=>by cases hu';exact hu2
 unfold TK
 split
 ·exact h1
 split
 ·exact Ot0 h1 hi hu2 hfo.send
 ·exact Ot0 h1 hi hu2 hfo.send
def X8(g g':L8):Prop:=∀i,I3 i→(g'.mem.get i).kv=(g.mem.get i).kv∧(g'.mem.get i).d.keep=(g.mem.get i).d.keep
theorem X8.refl(g:L8):X8 g g:=fun _ _=>⟨rfl,rfl⟩
theorem X8.trans{a b c:L8}(h:X8 a b)(h':X8 b c):X8 a c:=fun i hi=>⟨(h' i hi).1.trans (h i hi).1,(h' i hi).2.trans (h i hi).2⟩
theorem X8.keep{g g':L8}{B:Base}(h:X8 g g')(hk:DC g.mem B):DC g'.mem B:=fun i hi=>by rw[(h i hi).1,(h i hi).2];exact hk i hi
theorem X8.MB(g:L8){i:Int}(hi:I3 i){m:aB}(h:m.kv=(g.mem.get i).kv∧m.d.keep=(g.mem.get i).d.keep):X8 g (MB g i m):=fun j hj=>by
 by_cases c:j=i
 ·subst c
  show ((g.mem.set j m).get j).kv=_∧((g.mem.set j m).get j).d.keep=_
  rw[T3.Z9 _ hi]
  exact h
 ·show ((g.mem.set i m).get j).kv=_∧((g.mem.set i m).get j).d.keep=_
  rw[T3.LB _ hi hj _ c]
  exact⟨rfl,rfl⟩
theorem Up0(g:L8){i:Int}(hi:I3 i)(u:UpP)(o:LC):X8 g (doS g i u o).1:=by
 have h1:=X8.MB g hi (oB0 (g.mem.get i) u o)
 unfold doS do2
 split
 ·exact fun j hj=>h1 j hj
 ·exact fun j hj=>h1 j hj
theorem wW(g:L8)(id:Int)(f:H7→H7×LC):X8 g (DT g id f).1:=by
 unfold DT
 split
 ·exact X8.refl g
 rename_i c
 obtain⟨hi,u,hu⟩:=LQ (Classical.byContradiction c)
 rw[hu]
 have h1:X8 g (zC g id u (f u.r).1):=X8.MB g hi ⟨rfl,rfl⟩
 have h2:X8 (zC g id u (f u.r).1) (doS (zC g id u (f u.r).1) id { u with r:=(f u.r).1 } (f u.r).2).1:=Up0 _ hi _ _
 exact h1.trans h2
theorem yU(g:L8)(i:Int)(m:U8):X8 g (kM g i m).1:=by
 unfold kM
 split
 ·exact X8.refl g
 ·exact fun j hj=>wW (DJ g (M9 g.net i).2) _ _ j hj
open Classical in
noncomputable def nV(b:ByteArray):U8:=if h:∃m,gL m∧b=ofL (nM m) then h.choose else⟨0,0,0,0,0,0,0,false,[]⟩
noncomputable def nO(g:L8)(i:Int):L8×Int:=kM g i (nV (M9 g.net i).1.1.body)
noncomputable def QF:Nat→L8→L8
 | 0,g=>g
 | k+1,g=>if g.net.fl=[] then g else QF k (nO g 0).1
noncomputable def nQ(g:L8)(id most:Int):L8:=QF most.toNat (PX g id).1
theorem ff0{g:L8}(h:GOk g)(i:Int)(hz:(M9 g.net i).1.2=0):gL (nV (M9 g.net i).1.1.body)∧(M9 g.net i).1.1.body=ofL (nM (nV (M9 g.net i).1.1.body)):=by
 have hex:∃m,gL m∧(M9 g.net i).1.1.body=ofL (nM m):=by
  unfold M9 at hz ⊢
  split at hz
  ·rename_i n p ha
   split at hz
   ·rename_i hh
    rw[if_pos hh]
    obtain⟨_,hn,hp⟩:=ta0 ha
    obtain⟨m,h1,h2⟩:=h.net.2 p (by rw[←hp];exact List.getElem_mem hn)
    exact⟨m,h1,h2⟩
   ·cases hz
  ·cases hz
 unfold nV
 rw[dif_pos hex]
 exact hex.choose_spec
noncomputable def jR(id:Int)(m:aB):aB×Int:=if m.up.isSome=true then(m,7) else upM id m.kv { m.d with down:=false }
section
variable {B:Base} {w:World} {σ τ:List Dat} {pg:Nat} {g:L8} {K:PtK}
theorem qe0(hT:bR B)(hW:lC B)(hP:kH B)(hok:GOk g)(hke:DC g.mem B)(id most:Int)(hmo:most≤1000000):Does prog B (Y8 pg g) (Z0 UD #[ptr pg,.int .i64 id,.int .i64 most]) fun _ e' τ=>e'=Y8 pg (nQ g id most)∧τ=[]:=by
 refine Does.intro fun B' w K base h k=>?_
 replace hT:=base hT
 replace hW:=base hW
 replace hP:=base hP
 replace hke:=hke.mono base
 refine iJ.up ?_
 unfold iJ.pt
 refine h.act 0 rfl (fun B2 own base2=>by0 (base2 hT) (base2 hP) hok (hke.mono base2) id) fun v e' τ w1 hp h=>?_
 obtain⟨rfl,rfl,rfl⟩:=hp
 have hok1:=wV hok id
 have hke1:DC (PX g id).1.mem B':=(wW g id uF).keep hke
 unfold nQ at k
 generalize (PX g id).1=g1 at *
 refine Q6 fun J hJ=>?_
 replace hJ:∀(n:Int) (g':L8) w',QF most.toNat g1=g'→Rel B' w' [Y8 pg g']→J (.int .i64 n,()) w':=fun n g' w' he h=>hJ _ _ (k _ _ [] _ ⟨by rw[he],rfl⟩ h)
 clear k hok hke
 refine M6 (fun z w'=>∃(n:Nat) (g':L8),z=(.int .i64 n,())∧(n:Int)≤max most 0∧QF most.toNat g1=QF (most.toNat-n) g'∧GOk g'∧DC g'.mem B'∧Rel B' w' [Y8 pg g'])
  (fun z _=>most.toNat-(match z.1 with | .int _ n=>n.toNat | _=>0)) ⟨0,g1,rfl,by omega,rfl,hok1,hke1,h⟩ ?_
 clear h hok1 hke1
 rintro z w2 ⟨n,g',rfl,hn,hs,hok,hke,h⟩ next hnext
 rw[D6,K3]
 refine⟨fun hlt=>?_,fun hge=>?_⟩
 case refine_2 =>
  refine hJ n g' _ ?_ h
  rw[hs,show most.toNat-n=0 by omega]
  rfl
 obtain⟨j,hj⟩:∃j,most.toNat-n=j+1:=⟨most.toNat-n-1,by omega⟩
 rw[hj,QF] at hs
 refine h.ask (fun B2 own base2=>em0 (own (i:=0) rfl)) fun w3 h=>?_
 rw[A_,K3]
 refine⟨fun c=>?_,fun c=>?_⟩
 case refine_2 =>
  rw[if_pos (List.eq_nil_of_length_eq_zero (by omega))] at hs
  exact hJ n g' _ hs h
 rw[if_neg (fun hh=>by rw[hh] at c;exact absurd c (by decide))] at hs
 refine h.act 0 rfl (fun B2 own base2=>Wh0 (base2 hT) (base2 hW) (base2 hP) hok (hke.mono base2) 0 (m:=nV (M9 g'.net 0).1.1.body) (ff0 hok 0)) fun v e' τ w4 hp h=>?_
 obtain⟨rfl,rfl,rfl⟩:=hp
 rw[V5,D5 (by omega) (by omega)]
 refine hnext _ _ ⟨n+1,(nO g' 0).1,rfl,by omega,?_,tQ hok 0 _,(yU g' 0 _).keep hke,h⟩ (by simp only;omega)
 rw[hs,show most.toNat-(n+1)=j by omega]
theorem VF0(hT:bR B)(hW:lC B)(hP:kH B){cs:Array Value}{o t1:Nat}{q:MQ}{m:aB}{id:Int}(hcs:cs.size=14)(ho:o+4≤14)(r:Q4 m.kv m.d.keep B)(hkl:m.d.keep.length≤1000000)(hat:RA cs o q m.up.isSome)(hc:O1 t1 Q0 #[.int .i64 id] B) :
  DW pg B cs o q m (aA (.func (.func WF) #[] #[ptr t1]) #[.pointer (some ⟨pg,o,none⟩)]) fun e m' d=>e=(jR id m).2∧m'=(jR id m).1∧d=emp:=by
 refine DW.intro fun B' w K base h k=>?_
 replace hT:=base hT
 replace hW:=base hW
 replace hP:=base hP
 replace hc:=base hc
 replace r:=base r
 refine dH (?_:upK prog (Z0 WF #[.pointer (some ⟨pg,o,none⟩),ptr t1]) w K)
 refine EH.up ?_
 unfold EH.pt
 unfold jR at k
 simp -zeta only[y5,U0 DD]
 cases hu:m.up with
 | some u =>
  rw[hu] at hat k
  rw[h.ld 0 rfl U7 (o:=o+3) hat.at3,cx0,Q5]
  refine⟨fun _=>?_,fun c=>by cases c⟩
  exact k cs q m 7 emp _ (by rw[hu];exact hat) (XB.refl _ _) ⟨rfl,rfl,rfl⟩ h.jI
 | none =>
  rw[hu] at hat k
  rw[h.ld 0 rfl U7 (o:=o+3) hat.LE0,cx0,Q5]
  refine⟨fun c=>(by cases c),fun _=>?_⟩
  simp -zeta only[U0 QA,Nat.add_zero]
  rw[h.ld 0 rfl o9 (o:=o) hat.at0]
  have hL:G8 q m=eD [Y5 q.dp m.d m.kv]:=by unfold G8 Fk0;rw[hu]
  rw[hL] at h
  have h:=h.pick [1,0] (by decide)
  have h:Rel B' w (eD [Y5 q.dp m.d m.kv] :: [O1 pg Q3 cs]):=h
  have h:=Rel.BQ h
  refine h.act 0 rfl (fun B2 own base2=>SG0) fun v e' τ w1 hp h=>?_
  obtain⟨rfl,rfl,rfl⟩:=hp
  rw[O1.ld (h.K6 hc) F3 (o:=0) (v := .int .i64 id) rfl]
  have h:Rel B' w1 ([]++[O1 pg Q3 cs,Y5 q.dp { m.d with down:=false } m.kv]):=h.pick [1,0] (by decide)
  refine h.uh0 (fun B2 own base2=>WE0 (s:={ m.d with down:=false }) (base2 hT) (base2 hW) (base2 hP) (base2 r) hkl id hcs ho hat.at0 hat.FN0 hat.HN0 hat.LE0) fun v d1 d2 w2 hp h=>?_
  obtain⟨rfl,q',cs',hq,rfl,rfl,h1,h2⟩:=hp
  exact k cs' q' _ _ emp _ h1 h2 ⟨rfl,rfl,rfl⟩ h.jI
end
instance (i:Int):Decidable (I3 i):=by unfold I3;exact inferInstance
def AQ(g:L8)(id:Int)(f:aB→aB):L8:=if I3 id then jZ (MB g id (f (g.mem.get id))) else g
def ln0(g:L8)(id:Int)(keep:List Int):L8:=AQ g id fun m=>sd0 m keep
def Uw0(g:L8)(id n:Int):L8:=AQ g id fun m=>Vw0 m n
def sp0(g:L8)(id n:Int)(keep:List Int)(kv:Value):L8:=AQ g id fun m=>kC0 m n keep kv
noncomputable def Mo0(g:L8)(id:Int):L8:=AQ g id fun m=>(jR id m).1
theorem UE0{s s':DS}{j:JP}{c:CS}{e:Int}(hd:DOk s)(h:pV s=(s',(some (j,c),e))):JOk j:=by
 unfold pV at h
 split at h
 ·cases h
 unfold Tl0 at h
 split at h
 ·cases h
 split at h
 ·cases h
 rename_i hoj _ _ _ _
 cases h
 exact(mr0 (hd.y7 2) hoj).1
theorem Uo0{s:DS}{kv:Value}{id:Int}(hi:I3 id)(hd:DOk s):∀u,(upM id kv s).1.up=some u→UOk id u:=by
 intro u hu
 unfold upM at hu
 split at hu
 ·cases hu
 ·rename_i hom
  have hj:=UE0 hd hom
  simp only at hu
  unfold qF0 at hu
  split at hu
  ·rename_i hn
   cases hu
   exact⟨hj,wI0 hn,rfl,fun h=>by cases h⟩
  ·cases hu
theorem Qr0{m:aB}{id:Int}(hi:I3 id)(hm:∀u,m.up=some u→UOk id u)(hd:DOk m.d):∀u,(jR id m).1.up=some u→UOk id u:=by
 unfold jR
 split
 ·exact hm
 ·exact Uo0 hi ⟨hd.now,hd.last,hd.q,hd.nd,hd.lost,hd.armed⟩
theorem nb0{g:L8}(h:GOk g){id:Int}{f:aB→aB}(hf:I3 id→∀u,(f (g.mem.get id)).up=some u→UOk id u):GOk (AQ g id f):=by
 unfold AQ
 split
 ·rename_i hi
  exact kx0 (uY h hi (hf hi))
 ·exact h
theorem HZ{g:L8}{id:Int}{f:aB→aB}(hf:I3 id→(f (g.mem.get id)).kv=(g.mem.get id).kv∧(f (g.mem.get id)).d.keep=(g.mem.get id).d.keep):X8 g (AQ g id f):=by
 unfold AQ
 split
 ·rename_i hi
  exact fun j hj=>X8.MB g hi (hf hi) j hj
 ·exact X8.refl g
theorem aa0(id:Int)(kv:Value)(s:DS):(upM id kv s).1.kv=kv∧(upM id kv s).1.d.keep=s.keep:=by
 have h1:(pV s).1.keep=s.keep:=by
  unfold pV
  split
  ·exact WA s 2
  ·have h2:=Gi0 (y7 s 2).1
   unfold Tl0
   split
   ·rename_i hq
    rw[hq] at h2
    exact h2.trans (WA s 2)
   ·rename_i hq
    rw[hq] at h2
    split
    ·exact h2.trans (WA s 2)
    ·exact h2.trans (WA s 2)
 unfold upM
 split
 ·rename_i hq
  rw[hq] at h1
  exact⟨rfl,h1⟩
 ·rename_i hq
  rw[hq] at h1
  exact⟨rfl,h1⟩
def gNil:Value := .slice none 0 0
noncomputable def Ud0:L8:=⟨⟨(upM 0 gNil wB).1,(upM 1 gNil wB).1,(upM 2 gNil wB).1⟩,⟨[],0⟩,[]⟩
section
variable {B:Base} {w:World} {σ τ:List Dat} {pg:Nat} {g:L8} {K:PtK}
theorem Nw0(h:Rel B w [Y8 pg g]){i:Int}(hi:I3 i):DOk (g.mem.get i).d:=by
 obtain⟨q,cs,cv,ha,c0,c1,c2,c3⟩:=Y8.FO (h.here (i:=0) rfl)
 exact(Y5.ok (G8.disk (c3 i hi))).1
theorem JC0(hok:GOk g)(id:Int){kv:Value}{keep:List Int}(r:Q4 kv keep B)(hl:keep.length≤1000000):Does prog B (Y8 pg g) (Z0 QL #[ptr pg,.int .i64 id,kv]) fun _ e' τ=>e'=Y8 pg (ln0 g id keep)∧τ=[]:=by
 refine Does.intro fun B' w K base h k=>?_
 replace r:=base r
 refine aK.up ?_
 unfold aK.pt
 have hkv:kv.cells=#[kv]:=by
  obtain⟨a,c,rfl,_⟩:=r
  rfl
 refine h.box fun k5 w1 h=>?_
 rw[hkv] at h
 rw[OG]
 refine h.act 0 rfl (fun B2 own base2=>jY (out:=fun e m' d=>e=0∧m'=sd0 (g.mem.get id) keep∧d=emp) hok (fun e m' d hi ho u hu=>?_) fun hi B3 cs q base3 hcs hat=>?_) fun v e' τ w2 hp h=>?_
 ·obtain⟨_,rfl,_⟩:=ho
  cases hu
 ·exact IC0 hcs (by unfold I3 at hi;omega) (base3 (base2 r)) hl hat (base3 (own (j:=1) (by decide) rfl))
 ·unfold ln0 AQ at k
  rcases hp with⟨hi,rfl,rfl,rfl⟩ | ⟨hi,e,m',d,rfl,rfl,rfl,_,rfl,rfl⟩
  ·rw[if_neg hi] at k
   exact k _ _ [] _ ⟨rfl,rfl⟩ (h.take 1)
  ·rw[if_pos hi] at k
   exact k _ _ [] _ ⟨rfl,rfl⟩ (h.take 1)
theorem qI0(hok:GOk g)(id:Int){n:Int}(hn:n≤9223372036854775807):Does prog B (Y8 pg g) (Z0 bN #[ptr pg,.int .i64 id,.int .i64 n]) fun _ e' τ=>e'=Y8 pg (Uw0 g id n)∧τ=[]:=by
 refine Does.intro fun B' w K base h k=>?_
 refine xL.up ?_
 unfold xL.pt
 refine h.box fun k5 w1 h=>?_
 rw[OG]
 refine h.act 0 rfl (fun B2 own base2=>jY (out:=fun e m' d=>e=0∧m'=Vw0 (g.mem.get id) n∧d=emp) hok (fun e m' d hi ho u hu=>?_) fun hi B3 cs q base3 hcs hat=>?_) fun v e' τ w2 hp h=>?_
 ·obtain⟨_,rfl,_⟩:=ho
  exact hok.ups id hi u hu
 ·exact oI0 hn hat (base3 (own (j:=1) (by decide) rfl))
 ·unfold Uw0 AQ at k
  rcases hp with⟨hi,rfl,rfl,rfl⟩ | ⟨hi,e,m',d,rfl,rfl,rfl,_,rfl,rfl⟩
  ·rw[if_neg hi] at k
   exact k _ _ [] _ ⟨rfl,rfl⟩ (h.take 1)
  ·rw[if_pos hi] at k
   exact k _ _ [] _ ⟨rfl,rfl⟩ (h.take 1)
theorem eL0(hok:GOk g)(id:Int){n:Int}{kv:Value}{keep:List Int}(hn:n≤9223372036854775807)(r:Q4 kv keep B)(hl:keep.length≤1000000):Does prog B (Y8 pg g) (Z0 YN #[ptr pg,.int .i64 id,.int .i64 n,kv]) fun _ e' τ=>∃kv',e'=Y8 pg (sp0 g id n keep kv')∧((I3 id∧τ=[V3 Q0 kv' keep])∨(¬I3 id∧τ=[emp])):=by
 refine Does.intro fun B' w K base h k=>?_
 replace r:=base r
 refine NM.up ?_
 unfold NM.pt
 have hkv:kv.cells=#[kv]:=by
  obtain⟨a,c,rfl,_⟩:=r
  rfl
 refine h.box fun n6 w1 h=>?_
 refine h.box fun k7 w2 h=>?_
 rw[hkv] at h
 rw[OG]
 refine h.act 0 rfl (fun B2 own base2=>jY (out:=fun e m' d=>e=0∧∃kv',m'=kC0 (g.mem.get id) n keep kv'∧d=V3 Q0 kv' keep) hok (fun e m' d hi ho u hu=>?_) fun hi B3 cs q base3 hcs hat=>?_) fun v e' τ w3 hp h=>?_
 ·obtain⟨_,kv',rfl,_⟩:=ho
  exact hok.ups id hi u hu
 ·exact dL0 hn (base3 (base2 r)) hl hat (base3 (own (j:=1) (by decide) rfl)) (base3 (own (j:=2) (by decide) rfl))
 ·rcases hp with⟨hi,rfl,rfl,rfl⟩ | ⟨hi,e,m',d,rfl,rfl,rfl,_,kv',rfl,rfl⟩
  ·exact k _ _ [emp] _ ⟨gNil,by unfold sp0 AQ;rw[if_neg hi],.inr ⟨hi,rfl⟩⟩ (h.take 1).jI
  ·have h:Rel B' w3 [Y8 pg (jZ (MB g id (kC0 (g.mem.get id) n keep kv'))),V3 Q0 kv' keep]:=h.pick [0,3] (by decide)
   exact k _ _ [V3 Q0 kv' keep] _ ⟨kv',by unfold sp0 AQ;rw[if_pos hi],.inl ⟨hi,rfl⟩⟩ h
theorem YF0(hT:bR B)(hW:lC B)(hP:kH B)(hok:GOk g)(hke:DC g.mem B)(id:Int):Does prog B (Y8 pg g) (Z0 SL #[ptr pg,.int .i64 id]) fun _ e' τ=>e'=Y8 pg (Mo0 g id)∧τ=[]:=by
 refine Does.intro fun B' w K base h k=>?_
 replace hT:=base hT
 replace hW:=base hW
 replace hP:=base hP
 replace hke:=hke.mono base
 refine cK.up ?_
 unfold cK.pt
 have hdk:∀i,I3 i→DOk (g.mem.get i).d:=fun i hi=>Nw0 h hi
 refine h.box fun t1 w1 h=>?_
 have h:Rel B' w1 [Y8 pg g,O1 t1 Q0 #[.int .i64 id]]:=h
 rw[h.ld 1 rfl F3 (o:=0) (v := .int .i64 id) rfl,OG]
 refine h.act 0 rfl (fun B2 own base2=>jY (out:=fun e m' d=>e=(jR id (g.mem.get id)).2∧m'=(jR id (g.mem.get id)).1∧d=emp) hok (fun e m' d hi ho u hu=>?_) fun hi B3 cs q base3 hcs hat=>?_) fun v e' τ w2 hp h=>?_
 ·obtain⟨_,rfl,_⟩:=ho
  exact Qr0 hi (hok.ups id hi) (hdk id hi) u hu
 ·exact VF0 (base3 (base2 hT)) (base3 (base2 hW)) (base3 (base2 hP)) hcs (by unfold I3 at hi;omega) (base3 (base2 (hke id hi).1)) (hke id hi).2 hat (base3 (own (j:=1) (by decide) rfl))
 ·unfold Mo0 AQ at k
  rcases hp with⟨hi,rfl,rfl,rfl⟩ | ⟨hi,e,m',d,rfl,rfl,rfl,_,rfl,rfl⟩
  ·rw[if_neg hi] at k
   exact k _ _ [] _ ⟨rfl,rfl⟩ (h.take 1)
  ·rw[if_pos hi] at k
   exact k _ _ [] _ ⟨rfl,rfl⟩ (h.take 1)
theorem XB.mem{cs cs':Array Value}{o o2:Nat}{q:MQ}{up:Bool}(h:XB cs cs' o)(hd:o2+4≤o∨o+4≤o2)(hm:RA cs o2 q up):RA cs' o2 q up:=by
 unfold RA at hm ⊢
 rw[h.2 _ (by omega),h.2 _ (by omega),h.2 _ (by omega),h.2 _ (by omega)]
 exact hm
theorem Ru0{ρ:List Dat}{cs:Array Value}{i:Nat}(hi:i<3)(hT:bR B)(hW:lC B)(hP:kH B)(hcs:cs.size=14)(hnil:∀k,4 * i≤k→k<12→cs.toList[k]? = some (.pointer none))
  {dp:Nat} (h:Rel B w (ρ++[O1 pg Q3 (cs.setIfInBounds (4 * i) (ptr dp)),Y5 dp wB gNil]))
  (k:∀v q cs' w',RA cs' (4 * i) q (upM i gNil wB).1.up.isSome→XB cs cs' (4 * i)→Rel B w' (ρ++[O1 pg Q3 cs',G8 q (upM i gNil wB).1])→K v w') :
  upK prog (Z0 PE #[.pointer (some ⟨pg,4 * i,none⟩),.int .i64 i]) w K:=by
 refine h.uh0 (fun B2 own base2=>WE0 (kv:=gNil) (s:=wB) (dp:=dp) (base2 hT) (base2 hW) (base2 hP) LY (Nat.zero_le _) i (by rw[Array.size_setIfInBounds];exact hcs) (by omega) (jL (by omega)) ⟨none,by rw[Y_ (by omega)];exact hnil _ (by omega) (by omega)⟩ ⟨none,by rw[Y_ (by omega)];exact hnil _ (by omega) (by omega)⟩ (by rw[Y_ (by omega)];exact hnil _ (by omega) (by omega))) fun v d1 d2 w' hp h=>?_
 obtain⟨rfl,q,cs',_,rfl,rfl,h1,h2⟩:=hp
 exact k _ q cs' w' h1 (((XB.refl cs _).set (by omega)).trans h2) h
set_option maxHeartbeats 2000000 in
theorem DE0(hT:bR B)(hW:lC B)(hP:kH B):Makes prog B (Z0 OT #[]) fun u τ=>∃pg,u=ptr pg∧τ=[Y8 pg Ud0]:=by
 refine Makes.intro fun B' w K base h k=>?_
 replace hT:=base hT
 replace hW:=base hW
 replace hP:=base hP
 refine bY.up ?_
 unfold bY.pt
 refine h.make (fun B2 own base2=>CE0) fun u τ w1 hp h=>?_
 obtain⟨np,rfl,rfl⟩:=hp
 rw[od0]
 refine h.box fun pg w2 h=>?_
 have h:Rel B' w2 [XA np ⟨[],0⟩,O1 pg Q3 #[.pointer none,.pointer none,.pointer none,.pointer none,.pointer none,.pointer none,.pointer none,.pointer none,.pointer none,.pointer none,.pointer none,.pointer none,ptr np,.slice none 0 0]]:=h
 generalize hcs0:(#[.pointer none,.pointer none,.pointer none,.pointer none,.pointer none,.pointer none,.pointer none,.pointer none,.pointer none,.pointer none,.pointer none,.pointer none,ptr np,.slice none 0 0]:Array Value)=cs0 at h
 have hs0:cs0.size=14:=by rw[←hcs0];rfl
 have hn0:∀k,k<12→cs0.toList[k]? = some (.pointer none):=fun k hk=>by
  rw[←hcs0]
  have:k=0∨k=1∨k=2∨k=3∨k=4∨k=5∨k=6∨k=7∨k=8∨k=9∨k=10∨k=11:=by omega
  rcases this with rfl | rfl | rfl | rfl | rfl | rfl | rfl | rfl | rfl | rfl | rfl | rfl<;>rfl
 have h12:cs0.toList[12]? = some (ptr np):=by rw[←hcs0];rfl
 have h13:cs0.toList[13]? = some (.slice none 0 0):=by rw[←hcs0];rfl
 clear hcs0
 refine⟨4,?_⟩
 rw[iter,D6,K3]
 refine⟨fun _=>?_,fun c=>absurd (show (0:Int)<3 by decide) c⟩
 have h:=h.tick
 generalize tick w2=w2 at *
 simp -zeta only[y5,U0 bC,Nat.zero_add]
 refine h.make (fun B2 own base2=>It0) fun u τ w3 hp h=>?_
 obtain⟨d0,rfl,rfl⟩:=hp
 rw[tX (show I3 (0:Int) by unfold I3;omega),U0 QA]
 refine h.st 1 rfl o9 (o:=4 * (0:Int).toNat+0) (show 4 * (0:Int).toNat+0<cs0.size by rw[hs0];decide) rfl fun w4 h=>?_
 rw[tX (show I3 (0:Int) by unfold I3;omega)]
 refine Ru0 (pg:=pg) (i:=0) (ρ:=[XA np ⟨[],0⟩]) (dp:=d0) (by omega) hT hW hP hs0 (fun k _ hk=>hn0 k hk) h fun v q0 cs1 w5 m0 e0 h=>?_
 have hs1:cs1.size=14:=e0.1.trans hs0
 have h:Rel B' w5 [XA np ⟨[],0⟩,O1 pg Q3 cs1,G8 q0 (upM 0 gNil wB).1]:=h
 rw[V5,D5 (by omega) (by omega)]
 rw[iter,D6,K3]
 refine⟨fun _=>?_,fun c=>absurd (show (0+1:Int)<3 by decide) c⟩
 rw[show (0+1:Int)=1 from rfl]
 have h:=h.tick
 generalize tick w5=w5 at *
 simp -zeta only[y5,U0 bC,Nat.zero_add]
 refine h.make (fun B2 own base2=>It0) fun u τ w3 hp h=>?_
 obtain⟨d1,rfl,rfl⟩:=hp
 rw[tX (show I3 (1:Int) by unfold I3;omega),U0 QA]
 refine h.st 1 rfl o9 (o:=4 * (1:Int).toNat+0) (show 4 * (1:Int).toNat+0<cs1.size by rw[hs1];decide) rfl fun w4 h=>?_
 rw[tX (show I3 (1:Int) by unfold I3;omega)]
 have h:Rel B' w4 ([XA np ⟨[],0⟩,G8 q0 (upM 0 gNil wB).1]++[O1 pg Q3 (cs1.setIfInBounds (4 * 1) (ptr d1)),Y5 d1 wB gNil]):=h.pick [0,2,1,3] (by decide)
 refine Ru0 (pg:=pg) (i:=1) (dp:=d1) (by omega) hT hW hP hs1 (fun k h1 hk=>by rw[e0.2 k (by omega)];exact hn0 k hk) h fun v q1 cs2 w5 m1 e1 h=>?_
 have hs2:cs2.size=14:=e1.1.trans hs1
 have h:Rel B' w5 [XA np ⟨[],0⟩,G8 q0 (upM 0 gNil wB).1,O1 pg Q3 cs2,G8 q1 (upM 1 gNil wB).1]:=h
 rw[V5,D5 (by omega) (by omega)]
 rw[iter,D6,K3]
 refine⟨fun _=>?_,fun c=>absurd (show (1+1:Int)<3 by decide) c⟩
 rw[show (1+1:Int)=2 from rfl]
 have h:=h.tick
 generalize tick w5=w5 at *
 simp -zeta only[y5,U0 bC,Nat.zero_add]
 refine h.make (fun B2 own base2=>It0) fun u τ w3 hp h=>?_
 obtain⟨d2,rfl,rfl⟩:=hp
 rw[tX (show I3 (2:Int) by unfold I3;omega),U0 QA]
 refine h.st 2 rfl o9 (o:=4 * (2:Int).toNat+0) (show 4 * (2:Int).toNat+0<cs2.size by rw[hs2];decide) rfl fun w4 h=>?_
 rw[tX (show I3 (2:Int) by unfold I3;omega)]
 have h:Rel B' w4 ([XA np ⟨[],0⟩,G8 q0 (upM 0 gNil wB).1,G8 q1 (upM 1 gNil wB).1]++[O1 pg Q3 (cs2.setIfInBounds (4 * 2) (ptr d2)),Y5 d2 wB gNil]):=h.pick [0,1,3,2,4] (by decide)
 refine Ru0 (pg:=pg) (i:=2) (dp:=d2) (by omega) hT hW hP hs2 (fun k h1 hk=>by rw[e1.2 k (by omega),e0.2 k (by omega)];exact hn0 k hk) h fun v q2 cs3 w5 m2 e2 h=>?_
 have hs3:cs3.size=14:=e2.1.trans hs2
 rw[V5,D5 (by omega) (by omega)]
 rw[iter,D6,K3]
 refine⟨fun c=>absurd c (show ¬(2+1:Int)<3 by decide),fun _=>?_⟩
 have h:Rel B' w5 [XA np ⟨[],0⟩,G8 q0 (upM 0 gNil wB).1,G8 q1 (upM 1 gNil wB).1,O1 pg Q3 cs3,G8 q2 (upM 2 gNil wB).1]:=h
 have h:=h.oG ByteArray U2
 have h:Rel B' w5 (WV pg Ud0 ⟨⟨q0,q1,q2⟩,np⟩ cs3 (.slice none 0 0)++[]):=h.pick [3,1,2,4,0,5] (by decide)
 refine k _ _ _ ⟨pg,rfl,rfl⟩ (Y8.close (g:=Ud0) ⟨hs3,fun i hi=>?_,?_,?_⟩ h)
 ·rcases hi.cases with rfl | rfl | rfl
  ·exact e2.mem (by omega) (e1.mem (by omega) m0)
  ·exact e2.mem (by omega) m1
  ·exact m2
 ·rw[e2.2 _ (by omega),e1.2 _ (by omega),e0.2 _ (by omega)];exact h12
 ·rw[e2.2 _ (by omega),e1.2 _ (by omega),e0.2 _ (by omega)];exact h13
theorem ub0:GOk Ud0∧∀B:Base,DC Ud0.mem B:=by
 have hd:DOk wB:=⟨fun _=>Nat.zero_le _,fun _=>Nat.zero_le _,(fun q hq=>by cases hq),List.nodup_nil,(show (0:Int)≤0∧(0:Int)≤9223372036854775807 by omega),(show (0:Int)≤0∧(0:Int)≤9223372036854775807 by omega)⟩
 refine⟨⟨fun i hi u hu=>?_,⟨Nat.zero_le _,(fun p hp=>by cases hp)⟩,Nat.zero_le _⟩,fun B i hi=>?_⟩
 ·rcases hi.cases with rfl | rfl | rfl
  ·exact Uo0 hi hd u hu
  ·exact Uo0 hi hd u hu
  ·exact Uo0 hi hd u hu
 ·rcases hi.cases with rfl | rfl | rfl
  ·show Q4 (upM 0 gNil wB).1.kv (upM 0 gNil wB).1.d.keep B∧(upM 0 gNil wB).1.d.keep.length≤1000000
   rw[(aa0 0 gNil wB).1,(aa0 0 gNil wB).2]
   exact⟨LY,Nat.zero_le _⟩
  ·show Q4 (upM 1 gNil wB).1.kv (upM 1 gNil wB).1.d.keep B∧(upM 1 gNil wB).1.d.keep.length≤1000000
   rw[(aa0 1 gNil wB).1,(aa0 1 gNil wB).2]
   exact⟨LY,Nat.zero_le _⟩
  ·show Q4 (upM 2 gNil wB).1.kv (upM 2 gNil wB).1.d.keep B∧(upM 2 gNil wB).1.d.keep.length≤1000000
   rw[(aa0 2 gNil wB).1,(aa0 2 gNil wB).2]
   exact⟨LY,Nat.zero_le _⟩
end
abbrev PrD:=QD
structure Pr where
 id:Int
 epoch:Int
 next:Int
 last:List Int
abbrev Pr.raw(p:Pr)(v:SV):PrD:=⟨p.id,p.epoch,p.next,v⟩
abbrev PrL:=List (Pr×SV)
def K_(L:PrL):List PrD:=L.map fun p=>p.1.raw p.2
def eP(L:PrL):Dat:=Dat.all L fun p=>Q4 p.2.1 p.1.last
abbrev prs(L:PrL):List Pr:=L.map (·.1)
def inP(n:Int):Prop:=0≤n∧n≤1099511627776
instance (n:Int):Decidable (inP n):=by unfold inP;infer_instance
structure Ge0 (p:Pr):Prop where
 id:inP p.id
 epoch:inP p.epoch
 next:inP p.next
 len:(p.last.length:Int)=min p.next 20
 each:∀i (h:i<p.last.length),inP p.last[i]
 asc:∀i (h:i<p.last.length),0<i→p.last[i-1]<p.last[i]
structure aH (s:List Pr):Prop where
 fine:∀p∈s,Ge0 p
 asc:∀i (h:i<s.length),0<i→s[i-1].id<s[i].id
 len:s.length≤50
open Classical in
open Classical in
section
variable {B:Base} {w:World}
theorem UL0(n:Int):Gives prog B (Z0 iM #[.int .i64 n]) (.bool (decide (inP n))):=by
 refine Gives.intro fun B' w K base h k=>?_
 refine fU.up ?_
 unfold fU.pt
 simp -zeta only[LD,gD,K3]
 refine⟨fun h1=>?_,fun h1=>?_⟩
 ·have:decide (inP n)=decide (n≤1099511627776):=decide_eq_decide.2 ⟨fun h=>h.2,fun h=>⟨h1,h⟩⟩
  rw[this] at k
  exact k _ _ h
 ·rw[decide_eq_false (fun hh:inP n=>h1 hh.1)] at k
  exact k _ _ h
end
def Ck0(id:Int)(p:Pr):Bool:=decide (p.id=id)
def w_(s:List Pr)(id:Int):Pr:=match s.find? (Ck0 id) with
 | some p=>p
 | none=>⟨id,0,0,[]⟩
def qG(s:List Pr)(id:Int):Bool:=(s.find? (Ck0 id)).isSome
theorem vQ{s:List Pr}{id:Int}(h:qG s id=true):w_ s id∈s∧(w_ s id).id=id:=by
 unfold qG at h
 unfold w_
 cases hf:s.find? (Ck0 id) with
 | none=>rw[hf] at h;cases h
 | some p =>
  have h1:=List.find?_some hf
  exact⟨List.mem_of_find?_eq_some hf,of_decide_eq_true h1⟩
theorem BN{s:List Pr}{id:Int}(h:qG s id=false):w_ s id=⟨id,0,0,[]⟩∧∀p∈s,p.id≠id:=by
 unfold qG at h
 unfold w_
 cases hf:s.find? (Ck0 id) with
 | none =>
  refine⟨rfl,fun p hp e=>?_⟩
  have:=List.find?_eq_none.1 hf p hp
  exact this (decide_eq_true e)
 | some p=>rw[hf] at h;cases h
theorem vz0{s:List Pr}{id:Int}(h:aH s)(hid:inP id):Ge0 (w_ s id)∧(w_ s id).id=id:=by
 cases e:qG s id
 ·rw[(BN e).1]
  exact⟨⟨hid,(show inP 0 by decide),(show inP 0 by decide),rfl,fun i h=>absurd h (Nat.not_lt_zero i),fun i h=>absurd h (Nat.not_lt_zero i)⟩,rfl⟩
 ·exact⟨h.fine _ (vQ e).1,(vQ e).2⟩
theorem UV{s:List Pr}{id:Int}(h:aH s):0≤(w_ s id).epoch∧(w_ s id).epoch≤1099511627776∧0≤(w_ s id).next∧(w_ s id).next≤1099511627776∧(w_ s id).last.length≤20:=by
 cases e:qG s id
 ·rw[(BN e).1]
  show (0:Int)≤0∧(0:Int)≤1099511627776∧(0:Int)≤0∧(0:Int)≤1099511627776∧(0:Nat)≤20
  decide
 ·have:=h.fine _ (vQ e).1
  have h1:=this.epoch
  have h2:=this.next
  have h3:=this.len
  unfold inP at h1 h2
  omega
def okN(n:Int):Prop:=0≤n∧n<1099511627776
instance (n:Int):Decidable (okN n):=by unfold okN;infer_instance
def EN(s:List Pr)(id e q:Int):Int×Int :=
 if ¬(okN id∧okN e∧okN q) then(0,1) else if e<(w_ s id).epoch then(0,18) else if(w_ s id).epoch<e then(0,25) else if(w_ s id).next<q then(0,19)
 else if qG s id=false∧50≤s.length then(0,6) else if q=(w_ s id).next then(0,0)
 else if 0≤(w_ s id).last.length-((w_ s id).next-q) then((w_ s id).last.getD (((w_ s id).last.length:Int)-((w_ s id).next-q)).toNat 0,5) else(-1,5)
theorem ol0{α:Type}(p:α→Bool)(l:List α):(kV p l = -1∧∀x∈l,p x=false)∨∃i:Nat,kV p l=i∧∃hi:i<l.length,p l[i]=true∧∀x∈l.take i,p x=false:=by
 unfold kV
 split
 ·rename_i i hi
  obtain⟨h1,h2,h3⟩:=List.findIdx?_eq_some_iff_getElem.1 hi
  refine .inr ⟨i,rfl,h1,h2,fun x hx=>?_⟩
  obtain⟨j,hj,rfl⟩:=List.getElem_of_mem hx
  have:=h3 j (by simp at hj;omega)
  simp at this ⊢
  exact this
 ·rename_i h
  exact .inl ⟨rfl,List.findIdx?_eq_none_iff.1 h⟩
theorem EH0{s:List Pr}{id:Int}{i:Nat}(hi:i<s.length)(h:Ck0 id s[i]=true)(hno:∀x∈s.take i,Ck0 id x=false):s.find? (Ck0 id)=some s[i]:=by
 rw[List.find?_eq_some_iff_getElem]
 refine⟨h,i,hi,rfl,fun j hj=>?_⟩
 have:=hno s[j] (List.mem_take_iff_getElem.2 ⟨j,by omega,rfl⟩)
 simp [this]
def sD:SV:=⟨.slice none 0 0,rfl⟩
section
variable {B:Base} {w:World}
theorem Ew0{b:Nat}{id:Int}(hc:O1 b Q0 #[.int .i64 id] B)(x:PrD):Gives prog B (aA (.func (.func xG) #[] #[ptr b]) #[Enc.val x]) (.bool (decide (x.id=id))):=by
 refine Gives.intro fun B' w K base h k=>?_
 replace hc:=base hc
 refine dH ?_
 refine dC.up (p0:=x.v) (t1:=ptr b) (dC.call ?_)
 unfold dC.pt
 refine h.box fun b2 w1 h=>?_
 have h:Rel B' w1 [O1 b2 M3 x.cs.toArray]:=h
 simp -zeta only[U0 oL,Nat.add_zero,h.ld 0 rfl F3 (o:=0) rfl,O1.ld (h.K6 hc) F3 (o:=0) rfl,O6]
 exact k _ _ h
theorem gu0{v:Value}{L:PrL}(r:Q4 v (K_ L) B)(q:eP L B)(hl:L.length≤4611686018427387904)(id:Int) :
  ∃sv:SV,Q4 sv.1 (w_ (prs L) id).last B∧Gives prog B (Z0 yJ #[v,.int .i64 id]) (.tuple #[((w_ (prs L) id).raw sv).v,.bool (qG (prs L) id)]):=by
 have hal:(K_ L).length=L.length:=List.length_map ..
 have hpl:(prs L).length=L.length:=List.length_map ..
 rcases ol0 (fun x:PrD=>decide (x.id=id)) (K_ L) with⟨hi,hno⟩ | ⟨i,hi,hil,hat,hno⟩
 ·have hh:qG (prs L) id=false:=by
   unfold qG
   have:(prs L).find? (Ck0 id)=none:=List.find?_eq_none.2 fun p hp=>by
    obtain⟨x,hx,rfl⟩:=List.mem_map.1 hp
    have:=hno (x.1.raw x.2) (List.mem_map_of_mem hx)
    simpa [Ck0] using this
   rw[this];rfl
  refine⟨sD,?_,?_⟩
  ·rw[(BN hh).1];exact⟨none,0,rfl,Nat.le_refl _,.inl rfl⟩
  ·rw[(BN hh).1,hh]
   refine Gives.intro fun B' w K base h k=>?_
   replace r:=base r
   refine IJ.up ?_
   unfold IJ.pt
   refine h.box fun b w1 h=>?_
   have h:Rel B' w1 [O1 b Q0 #[.int .i64 id]]:=h
   refine h.alloc yI fun o w2 h=>?_
   simp -zeta only[OG]
   refine h.ask (fun B2 own base2=>jC (base2 r) (by omega) (fun x=>decide (x.id=id)) fun B3 base3 x _=>Ew0 (base3 (own (i:=0) rfl)) x) fun w3 h=>?_
   rw[hi]
   have h:Rel B' w3 [O1 b Q0 #[.int .i64 id],O1 o M3 #[.int .i64 0,.int .i64 0,.int .i64 0,.slice none 0 0]]:=h
   simp -zeta only[D6,K3,h.ld 0 rfl F3 (o:=0) rfl,ua0]
   refine⟨fun _=>?_,fun hh=>absurd (by decide) hh⟩
   refine h.xI 1 (ds:=(⟨id,0,0,sD⟩:PrD).cs.toArray) rfl E8 rfl rfl (fun v hv=>Enc.one (⟨id,0,0,sD⟩:PrD) v hv) fun w4 h=>?_
   rw[CJ h 1 rfl E8 rfl]
   exact k _ _ h
 ·have hil':i<L.length:=by omega
  have hel:(K_ L)[i]=L[i].1.raw L[i].2:=by simp [K_]
  have hgp:(prs L).find? (Ck0 id)=some L[i].1:=by
   have:=EH0 (s:=prs L) (id:=id) (i:=i) (by omega) (by
    have e:(prs L)[i]'(by omega)=L[i].1:=by simp
    rw[e]
    rw[hel] at hat
    exact hat) fun x hx=>by
     have:x∈(L.take i).map (·.1):=by rw[List.map_take];exact hx
     obtain⟨y,hy,rfl⟩:=List.mem_map.1 this
     have hm:y.1.raw y.2∈(K_ L).take i:=by
      unfold K_
      rw[←List.map_take]
      exact List.mem_map_of_mem hy
     exact hno _ hm
   rw[this]
   simp
  have hg:w_ (prs L) id=L[i].1:=by unfold w_;rw[hgp]
  have hh:qG (prs L) id=true:=by unfold qG;rw[hgp];rfl
  refine⟨L[i].2,by rw[hg];exact q L[i] (List.getElem_mem hil'),?_⟩
  rw[hg,hh]
  refine Gives.intro fun B' w K base h k=>?_
  replace r:=base r
  refine IJ.up ?_
  unfold IJ.pt
  refine h.box fun b w1 h=>?_
  have h:Rel B' w1 [O1 b Q0 #[.int .i64 id]]:=h
  refine h.alloc yI fun o w2 h=>?_
  simp -zeta only[OG]
  refine h.ask (fun B2 own base2=>jC (base2 r) (by omega) (fun x=>decide (x.id=id)) fun B3 base3 x _=>Ew0 (base3 (own (i:=0) rfl)) x) fun w3 h=>?_
  rw[hi]
  have h:Rel B' w3 [O1 b Q0 #[.int .i64 id],O1 o M3 #[.int .i64 0,.int .i64 0,.int .i64 0,.slice none 0 0]]:=h
  obtain⟨g,oo,hx,hc⟩:=Q4.idx r L6 (P:=prog) (i:=i) (by omega)
  rw[hel] at hc
  have hc:F6 g oo (L[i].1.raw L[i].2).cs B':=hc
  simp -zeta only[D6,K3,hx,F6.Q9 (h.K6 hc) E8 rfl]
  refine⟨fun hh=>absurd hh (by omega),fun _=>?_⟩
  refine h.xI 1 (ds:=(L[i].1.raw L[i].2).cs.toArray) rfl E8 rfl rfl (fun v hv=>Enc.one (L[i].1.raw L[i].2) v hv) fun w4 h=>?_
  rw[CJ h 1 rfl E8 rfl]
  exact k _ _ h
theorem IB0{v:Value}{L:PrL}(r:Q4 v (K_ L) B)(q:eP L B)(hR:aH (prs L))(en:PD):Gives prog B (Z0 BM #[v,en.v]) (.tuple #[.int .i64 (EN (prs L) en.producer en.epoch en.seq).1,.int .i64 (EN (prs L) en.producer en.epoch en.seq).2]):=by
 refine Gives.intro fun B' w K base h k=>?_
 replace r:=base r
 replace q:=base q
 have hal:(K_ L).length=L.length:=List.length_map ..
 have hpl:(prs L).length=L.length:=List.length_map ..
 have hlen:=hR.len
 refine jQ.up ?_
 unfold jQ.pt
 refine h.box fun b w1 h=>?_
 have h:Rel B' w1 [O1 b Y1 en.cs.toArray]:=h
 have fin:∀(x:Int×Int) w' τ,EN (prs L) en.producer en.epoch en.seq=x→Rel B' w' τ→K (.tuple #[.int .i64 x.1,.int .i64 x.2]) w':=fun x w' τ e h=>by rw[e] at k;exact k _ _ h
 clear k
 simp -zeta only[U0 eH,U0 oM,U0 XP,Nat.add_zero,Nat.zero_add,h.ld 0 rfl F3 (o:=1) rfl,h.ld 0 rfl F3 (o:=2) rfl,h.ld 0 rfl F3 (o:=3) rfl]
 refine h.XW (α:=Int) [en.producer,en.epoch,en.seq] C9 fun u w2 h=>?_
 have h:Rel B' w2 [O1 b Y1 en.cs.toArray,V3 Q0 u ([en.producer,en.epoch,en.seq]:List Int)]:=h
 have hu:=V3.read (h.here (i:=1) rfl)
 simp -zeta only[Q4.len hu C9]
 clear hu
 refine M6 (fun x w'=>∃i:Nat,i≤3∧x=(.int .i64 i,())∧(∀j (hj:j<3),j<i→okN ([en.producer,en.epoch,en.seq]:List Int)[j])∧Rel B' w' [O1 b Y1 en.cs.toArray,V3 Q0 u ([en.producer,en.epoch,en.seq]:List Int)]) (fun x _=>3-(match x.1 with | .int _ n=>n.toNat | _=>0))
  ⟨0,Nat.zero_le _,rfl,fun j _ hj=>absurd hj (Nat.not_lt_zero j),h⟩ ?_
 clear h
 rintro x w3 ⟨i,hi,rfl,hin,h⟩ next hnext
 simp -zeta only[List.length_cons,List.length_nil,D6,K3]
 refine⟨fun hlt=>?_,fun hge=>?_⟩
 ·have hil:i<3:=by omega
  have hu:=V3.read (h.here (i:=1) rfl)
  have hu:Q4 u ([en.producer,en.epoch,en.seq]:List Int) ⟨w3,fun _=>True⟩:=hu
  have hbad:¬okN (([en.producer,en.epoch,en.seq]:List Int)[i])→¬(okN en.producer∧okN en.epoch∧okN en.seq):=fun hb hh=>by
   have:i=0∨i=1∨i=2:=by omega
   rcases this with rfl | rfl | rfl
   ·exact hb hh.1
   ·exact hb hh.2.1
   ·exact hb hh.2.2
  obtain⟨g,o,hx,hc⟩:=Q4.idx hu C9 (P:=prog) (i:=i) hil
  have hc:(F6 g o [.int .i64 ([en.producer,en.epoch,en.seq]:List Int)[i]]).here w3:=hc
  rw[hx,F6.ld0 hc F3 rfl]
  refine h.ask (fun B2 own base2=>UL0 _) fun w4 h=>?_
  rw[V8,K5,K3]
  refine⟨fun c1=>?_,fun c1=>fin (0,1) _ _ (by unfold EN;rw[if_pos (hbad fun hh=>c1 ⟨hh.1,by have:=hh.2;omega⟩)]) h⟩
  simp -zeta only[O6,K3]
  refine⟨fun c2=>fin (0,1) _ _ (by unfold EN;rw[if_pos (hbad fun hh=>by have:=hh.2;omega)]) h,fun c2=>?_⟩
  rw[V5,D5 (by omega) (by omega)]
  refine hnext _ _ ⟨i+1,hil,rfl,fun j hj hji=>?_,h⟩ (by simp only;omega)
  by_cases e:j=i
  ·subst e
   exact⟨c1.1,by have:=c1.2;omega⟩
  ·exact hin j hj (by omega)
 ·have h3:okN en.producer∧okN en.epoch∧okN en.seq:=⟨hin 0 (by decide) (by omega),hin 1 (by decide) (by omega),hin 2 (by decide) (by omega)⟩
  clear hnext hin hge
  have hq0:0≤en.seq∧en.seq<1099511627776:=h3.2.2
  unfold EN at fin
  rw[if_neg (fun hh=>hh h3)] at fin
  simp -zeta only[h.ld 0 rfl F3 (o:=1) rfl]
  obtain⟨sv,hsv,hfind⟩:=gu0 r q (by omega) en.producer
  refine hfind _ _ _ h fun w5 h=>?_
  simp -zeta only[h_,Y9]
  have hsm:=UV hR (id:=en.producer)
  generalize w_ (prs L) en.producer=p at *
  refine h.r9 (ds:=(p.raw sv).cs.toArray) yI rfl E8 rfl (fun v hv=>Enc.one (p.raw sv) v hv) fun o w7 h=>?_
  have h:Rel B' w7 [O1 b Y1 en.cs.toArray,V3 Q0 u ([en.producer,en.epoch,en.seq]:List Int),O1 o M3 (p.raw sv).cs.toArray]:=h
  simp -zeta only[U0 tL,U0 rP,U0 mI,Nat.zero_add]
  refine Q6 fun J hJ=>?_
  replace hJ:¬en.epoch<p.epoch→¬p.epoch<en.epoch→¬p.next<en.seq→¬(qG (prs L) en.producer=false∧50≤(prs L).length)→¬en.seq=p.next→J () w7:=by
   intro c1 c2 c3 c4 c5
   refine hJ _ _ ?_
   clear hJ
   rw[if_neg c1,if_neg c2,if_neg c3,if_neg c4,if_neg c5] at fin
   have hw1:IntKind.i64.wrap (p.next-en.seq)=p.next-en.seq:=D5 (by omega) (by omega)
   have hw2:IntKind.i64.wrap ((p.last.length:Int)-(p.next-en.seq))=(p.last.length:Int)-(p.next-en.seq):=D5 (by omega) (by omega)
   simp -zeta only[h.ld 2 rfl XC (o:=3) rfl,h.ld 2 rfl F3 (o:=2) rfl,h.ld 0 rfl F3 (o:=3) rfl,Q4.len hsv C9,eF,hw1,hw2,LD,K3]
   refine⟨fun c6=>?_,fun c6=>fin (-1,5) _ _ (by rw[if_neg c6]) h⟩
   obtain⟨m,hm⟩:∃m:Nat,(p.last.length:Int)-(p.next-en.seq)=m:=⟨((p.last.length:Int)-(p.next-en.seq)).toNat,by omega⟩
   rw[if_pos c6,hm] at fin
   rw[hm]
   have hml:m<p.last.length:=by omega
   obtain⟨a,q1,q2⟩:=Q4.Fh0 hsv h C9 hml F3 (x := .int .i64 p.last[m]) rfl
   rw[q1,q2]
   refine fin (p.last[m],5) _ _ ?_ h
   rw[Int.toNat_natCast,List.getD_eq_getElem?_getD,List.getElem?_eq_getElem hml]
   rfl
  simp -zeta only[h.ld 2 rfl F3 (o:=1) rfl,h.ld 2 rfl F3 (o:=2) rfl,h.ld 0 rfl F3 (o:=2) rfl,h.ld 0 rfl F3 (o:=3) rfl,D6,A_,O6,K3]
  refine⟨fun c1=>fin (0,18) _ _ (by rw[if_pos c1]) h,fun c1=>⟨fun c2=>fin (0,25) _ _ (by rw[if_neg c1,if_pos c2]) h,fun c2=>⟨fun c3=>fin (0,19) _ _ (by rw[if_neg c1,if_neg c2,if_pos c3]) h,fun c3=>?_⟩⟩⟩
  rw[V8,K5,Q5]
  refine⟨fun c4=>?_,fun c4=>?_⟩
  ·have c4':¬(qG (prs L) en.producer=false∧50≤(prs L).length):=fun hh=>by rw[c4] at hh;cases hh.1
   exact⟨fun c5=>fin (0,0) _ _ (by rw[if_neg c1,if_neg c2,if_neg c3,if_neg c4',if_pos c5]) h,fun c5=>hJ c1 c2 c3 c4' c5⟩
  ·simp -zeta only[Q4.len r L6,LD,K3]
   refine⟨fun c5=>fin (0,6) _ _ (by rw[if_neg c1,if_neg c2,if_neg c3,if_pos ⟨c4,by omega⟩]) h,fun c5=>?_⟩
   have c4':¬(qG (prs L) en.producer=false∧50≤(prs L).length):=fun hh=>c5 (by omega)
   exact⟨fun c6=>fin (0,0) _ _ (by rw[if_neg c1,if_neg c2,if_neg c3,if_neg c4',if_pos c6]) h,fun c6=>hJ c1 c2 c3 c4' c6⟩
end
end Go.Proofs.YtngbebnhegcokaaGreatDoor
namespace Go.Proofs.YtngbebnhegcokaaGreatDoor
open Go.Proofs.Tryz (prog)
open Go.RowKit
section
variable {α:Type} [Enc α] {P:Program} {K:PtK} {w:World} {T E:TypeId} {by_:Nat} {c:Nat→Nat} {t u:Nat}
theorem mA0{m n:Nat}(x:α)(hT:sliceB P T E (Enc.sz α) by_=true)(hx:((P.info? E).bind (·.zero)).map (·.cells)=some (Enc.cells x).toArray)(hmn:m≤n)(hn:n * by_≤140737488355328)(hn1:n≤140737488355328)
  (k:∀c' g w',Step nobody c w c' w'→nC c' t w' E (.slice (some ⟨g,0,none⟩) m n) (List.replicate m x)→K (.slice (some ⟨g,0,none⟩) m n) w'):upK P (IQ T (.int .i64 m) (.int .i64 n)) w K:=by
 obtain⟨hu,i,z,hinfo,hz,hs,hby,hzs⟩:=v_ hT
 have hzc:z.cells=(Enc.cells x).toArray:=by simpa [hinfo,hz] using hx
 have hw:IntKind.wrap .i64 (n:Int)=n:=IntWalk.i64_in _ (by omega)
 have hwm:IntKind.wrap .i64 (m:Int)=m:=IntWalk.i64_in _ (by omega)
 have h1:¬((n:Int)<0):=by omega
 have h1m:¬((m:Int)<0):=by omega
 have hmn':¬((n:Int)<(m:Int)):=by omega
 have hm:by_ * n≤140737488355328:=by rw[Nat.mul_comm];exact hn
 have hmm:by_ * m≤140737488355328:=Nat.le_trans (Nat.mul_le_mul_left _ hmn) hm
 have h2:¬((281474976710656:Int)<(by_:Int) * (n:Int)):=by
  have:((by_ * n:Nat):Int)≤140737488355328:=by omega
  rw[Int.natCast_mul] at this
  omega
 have h2m:¬((281474976710656:Int)<(by_:Int) * (m:Int)):=by
  have:((by_ * m:Nat):Int)≤140737488355328:=by omega
  rw[Int.natCast_mul] at this
  omega
 have h3:¬(140737488355328<n * by_):=by omega
 have hcells:∀z0:Array Value,(n=0→z0=#[])→(n≠0→z0=z.cells)→((Array.range (n * Enc.sz α)).map (z0[· % z0.size]!)).toList=flat (List.replicate n x):=by
  intro z0 _ hz1
  by_cases hn0:n=0
  ·subst hn0;simp [flat]
  ·rw[hz1 hn0]
   apply List.ext_getElem?
   intro j
   by_cases hj:j<n * Enc.sz α
   ·have hp:0<Enc.sz α:=Enc.pos
    have hq:j / Enc.sz α<n:=Nat.div_lt_of_lt_mul (by rw[Nat.mul_comm];exact hj)
    have hr:j % Enc.sz α<Enc.sz α:=Nat.mod_lt _ hp
    have:=flat_get (l:=List.replicate n x) (i:=j / Enc.sz α) (by simpa using hq) (f:=j % Enc.sz α) (v:=(Enc.cells x)[j % Enc.sz α]'(by rw[Enc.len];exact hr)) (by simp)
    rw[Nat.mul_comm (j / Enc.sz α),Nat.div_add_mod] at this
    rw[this]
    simp [hj,hzs,hzc,Enc.len]
    rw[List.getElem?_eq_getElem (by rw[Enc.len];exact hr)]
    rfl
   ·rw[List.getElem?_eq_none (by simp;omega),List.getElem?_eq_none (by rw[M7];simp;omega)]
 have hrun:∃cur:Array Value,cur.toList=flat (List.replicate n x)∧(Instr.makeSlice T (.int .i64 m) (.int .i64 n)).run P w = .ok (.slice (some ⟨w.heap.size,0,none⟩) m n) (w.alloc (.cells cur E)):=by
  by_cases hn0:n=0
  ·subst hn0
   obtain rfl:m=0:=by omega
   refine⟨_,hcells #[] (fun _=>rfl) (fun h=>absurd rfl h),?_⟩
   simp [Instr.makeSlice,run_underlying hu,asInt,asIntOf,typeInfo,hinfo,hby,show IntKind.wrap .i64 0=0 from rfl,askRoom,roomBytes,sizeOf,hs,newRow]
  ·refine⟨_,hcells z.cells (fun h=>absurd h hn0) (fun _=>rfl),?_⟩
   simp [Instr.makeSlice,run_underlying hu,asInt,asIntOf,typeInfo,hinfo,hby,hw,hwm,h1,h1m,h2,h2m,h3,hmn',hmn,askRoom,roomBytes,sizeOf,hs,newRow,hn0,zeroValue,hz,Nat.ne_of_gt (Enc.pos (α:=α))]
   intro h
   rcases Nat.mul_eq_zero.1 h with h | h
   ·exact absurd h hn0
   ·exact absurd h (Nat.ne_of_gt Enc.pos)
 obtain⟨cur,hc,hrun⟩:=hrun
 have hb:=Blk.alloc (n:=t) c w E cur
 have hcs:cur.size=n * Enc.sz α:=by rw[←Array.length_toList,hc,M7];simp
 refine JC (V9 hrun) (k (jG c w.heap.size t) _ _ (Step.alloc nobody c w t _) (nC.mk_ hb (by simp) hmn (by unfold maxLen;omega) hcs ?_))
 rw[hc,wF,List.take_replicate,Nat.min_eq_left hmn]
end
section
variable {α:Type} [Enc α] {P:Program} {K:PtK} {B:Base} {w:World} {σ:List Dat} {T E:TypeId} {by_:Nat} {l:List α} {v:Value}
theorem Rel.vE0(h:Rel B w σ){n:Nat}(x:α)(hT:sliceB P T E (Enc.sz α) by_=true)(hx:((P.info? E).bind (·.zero)).map (·.cells)=some (Enc.cells x).toArray)(hn:n * by_≤140737488355328)(hn1:n≤140737488355328)
  (k:∀g w',Rel B w' (σ++[V3 E (.slice (some ⟨g,0,none⟩) n n) (List.replicate n x)])→K (.slice (some ⟨g,0,none⟩) n n) w'):upK P (IQ T (.int .i64 n) (.int .i64 n)) w K:=by
 obtain⟨c,h⟩:=h
 exact mA0 (c:=c) (t:=σ.length+1) x hT hx (Nat.le_refl _) hn hn1 fun c' g w' st hr=>k g w' ⟨c',h.push st hr.V3⟩
end
section
variable {α:Type} [Enc α] {P:Program} {K:PtK} {w:World} {T E:TypeId} {by_:Nat} {c:Nat→Nat} {t u:Nat}
theorem gk0(x:α)(n:Nat):(Builtin.zeroCells (Enc.cells x).toArray n).toList=flat (List.replicate n x):=by
 unfold Builtin.zeroCells
 apply List.ext_getElem?
 intro j
 have hl:(Enc.cells x).toArray.size=Enc.sz α:=by simp [Enc.len]
 by_cases hj:j<n * Enc.sz α
 ·have hp:0<Enc.sz α:=Enc.pos
  have hq:j / Enc.sz α<n:=Nat.div_lt_of_lt_mul (by rw[Nat.mul_comm];exact hj)
  have hr:j % Enc.sz α<Enc.sz α:=Nat.mod_lt _ hp
  have:=flat_get (l:=List.replicate n x) (i:=j / Enc.sz α) (by simpa using hq) (f:=j % Enc.sz α) (v:=(Enc.cells x)[j % Enc.sz α]'(by rw[Enc.len];exact hr)) (by simp)
  rw[Nat.mul_comm (j / Enc.sz α),Nat.div_add_mod] at this
  rw[this]
  simp [hj,Enc.len]
  try (rw[List.getElem?_eq_getElem (by rw[Enc.len];exact hr)];rfl)
 ·rw[List.getElem?_eq_none (by simp [Enc.len];omega),List.getElem?_eq_none (by rw[M7];simp;omega)]
theorem Zm0{v:Value}{l:List α}{Tn:TypeId}(hT:sliceB P T E (Enc.sz α) by_=true)(hTn:P.underlying Tn=some (.int .i64)){a:Option Addr}{cap:Nat}(hv:v = .slice a l.length cap)(h1:kN c u w v l)(x:α)
  (hx:((P.info? E).bind (·.zero)).map (·.cells)=some (Enc.cells x).toArray) {m:Nat} (h0:0<m) (hcap:cap<l.length+m)
  (hbytes:(l.length+m) * by_≤140737488355328) (h63:l.length+m≤140737488355328) {U:TypeId} {bs:Array Bool}
  (k:∀c' g cp w',l.length+m≤cp→Step nobody c w c' w'→nC c' t w' E (.slice (some ⟨g,0,none⟩) (l.length+m) cp) (l++List.replicate m x)→K (.slice (some ⟨g,0,none⟩) (l.length+m) cp) w'):upK P (J5 .append #[T,Tn] U bs #[v,.int .i64 m]) w K:=by
 obtain⟨hu,i,z,hinfo,hz,hs,hby,hzs⟩:=v_ hT
 have hzc:z.cells=(Enc.cells x).toArray:=by simpa [hinfo,hz] using hx
 subst hv
 have hn:¬(l.length+m≤cap):=by omega
 have hm0:m≠0:=by omega
 have h63':¬(9223372036854775807<((l.length:Int)+(m:Int))):=by omega
 have h48:Builtin.nextslicecap (l.length+m) cap * by_≤281474976710656:=growslice_fits (by omega) hbytes
 have h48':¬(281474976710656<Builtin.nextslicecap (l.length+m) cap * by_):=by omega
 have hge:=grownCap_ge w (l.length+m) cap E
 have hmx:=grownCap_le_maxLen w (l.length+m) cap E (by unfold maxLen;omega)
 have hw:IntKind.i64.wrap (m:Int)=m:=IntWalk.i64_in _ (by omega)
 have hneg:¬((m:Int)<0):=by omega
 have hmb:m * by_≤140737488355328:=Nat.le_trans (Nat.mul_le_mul_right _ (by omega)) hbytes
 have h48i:¬(281474976710656<(m:Int) * (by_:Int)):=by
  rw[←Int.natCast_mul]
  omega
 have hrun:(Builtin.append_ #[T,Tn] U #[.slice a l.length cap,.int .i64 m]).run P w =
   .ok (.slice (some ⟨w.heap.size,0,none⟩) (l.length+m) (grownCap w (l.length+m) cap E))
    (w.drew.alloc (.cells ((flat l).toArray++Builtin.zeroCells z.cells m++Builtin.zeroCells z.cells (grownCap w (l.length+m) cap E-(l.length+m))) E)):=by
  have f1:=(h1.tick).first (P:=P)
  rw[cy0] at f1
  simp [Builtin.append_,run_underlying hu,run_underlying hTn,sizeOf,typeInfo,zeroValue,hinfo,hz,hs,asInt,asIntOf,hw,hm0,hneg,hn,h63',hby,h48',h48i,f1,grownCap,Question.forced,newRow]
  intro hz0
  exact absurd hz0 (Nat.mul_ne_zero hm0 (Nat.ne_of_gt Enc.pos))
 refine JC (V9 hrun) (k (jG c w.heap.size t) _ _ _ hge ?_ ?_)
 ·exact(Step.tick nobody c w).trans (Step.alloc nobody c w.drew t _)
 ·have hl:(l++List.replicate m x).length=l.length+m:=by simp
  refine⟨⟨by rw[M7],.inr ⟨w.heap.size,_,_,by rw[hl],Nat.zero_le _,heap_alloc_new w.drew _,by rw[hl];exact hge,hmx,?_,?_⟩⟩,fun g hg=>?_⟩
  ·simp only[Array.size_append,List.size_toArray,size_zeroCells,hzs,M7,←Nat.add_mul]
   congr 1
   omega
  ·simp only[Array.toList_append,List.append_assoc]
   rw[hzc,gk0,←List.append_assoc,←sF]
   rw[←M7]
   exact List.take_left
  ·simp [Value.ownBlock] at hg
   subst hg
   simp [jG]
end
section
variable {α:Type} [Enc α] {P:Program} {K:PtK} {Kp:Value→Prop} {B:Base} {w:World} {σ:List Dat} {T E:TypeId} {by_:Nat} {l:List α} {v:Value}
theorem Dy0{U S E:TypeId}{bs:Array Bool}{x:Option Addr}{n c:Nat}(h:P.underlying S=some (.slice E)) :
  Y0 P (J5 .cap #[S] U bs #[.slice x n c]) w Kp=Kp (.int .i64 c):=FQ (V9 (by
 simp [Builtin.cap_,run_underlying h,goInt]))
theorem Rel.qp0(h:Rel B w σ){Tn:TypeId}(hT:sliceB P T E (Enc.sz α) by_=true)(hTn:P.underlying Tn=some (.int .i64)){a:Option Addr}{cap:Nat}(hv:v = .slice a l.length cap)(r:Rd B σ [] v l)(x:α)
  (hx:((P.info? E).bind (·.zero)).map (·.cells)=some (Enc.cells x).toArray) {m:Nat} (h0:0<m) (hcap:cap<l.length+m)
  (hbytes:(l.length+m) * by_≤140737488355328) (h63:l.length+m≤140737488355328) {U:TypeId} {bs:Array Bool}
  (k:∀g cp w',l.length+m≤cp→Rel B w' (σ++[V3 E (.slice (some ⟨g,0,none⟩) (l.length+m) cp) (l++List.replicate m x)])→K (.slice (some ⟨g,0,none⟩) (l.length+m) cp) w'):upK P (J5 .append #[T,Tn] U bs #[v,.int .i64 m]) w K:=by
 obtain⟨c,h⟩:=h
 obtain⟨u1,r1⟩:=h.rds r
 exact Zm0 (c:=c) (t:=σ.length+1) hT hTn hv r1 x hx h0 hcap hbytes h63 fun c' g cp w' hc st hr=>k g cp w' hc ⟨c',h.push st hr.V3⟩
end
end Go.Proofs.YtngbebnhegcokaaGreatDoor
namespace Go.Proofs.YtngbebnhegcokaaGreatDoor
open Go.Proofs.Tryz (prog)
open Go.RowKit
set_option maxRecDepth 100000
theorem Q4.cells{α:Type}[Enc α]{B:Base}{l:List α}{g n cap:Nat}(h:Q4 (.slice (some ⟨g,0,none⟩) n cap) l B){i:Nat}(hi:i<l.length):F6 g (i * Enc.sz α) (Enc.cells l[i]) B:=by
 obtain⟨a,cap',e,hc,h⟩:=h
 rcases h with rfl | ⟨g',o',ha,h1,h2,h3⟩
 ·simp at hi
 ·subst ha
  injection e with e1 e2 e3
  injection e1 with e1
  injection e1 with e1 e4 e5
  subst e1 e4
  refine⟨h1,h2,fun j u hj=>?_⟩
  have:=h3 _ _ (flat_get hi hj)
  rw[Nat.zero_add] at this
  exact this
def tx0(p:Pr×SV):Dat:=V3 Q0 p.2.1 p.1.last
section
variable {B:Base} {w:World}
theorem rw0{v:Value}{L:PrL}(r:Q4 v (K_ L) B)(q:eP L B)(hl:L.length≤1000000)(hq:∀p∈L,p.1.last.length≤1000000) :
  Makes prog B (Z0 wD #[v]) fun u τ=>∃(g:Nat) (L':PrL),prs L'=prs L∧u = .slice (some ⟨g,0,none⟩) L'.length L'.length∧τ=[V3 M3 u (K_ L'),eP L']:=by
 refine Makes.intro fun B' w K base h k=>?_
 replace r:=base r
 replace q:=base q
 have hal:∀L:PrL,(K_ L).length=L.length:=fun L=>List.length_map ..
 refine MO.up ?_
 unfold MO.pt
 simp -zeta only[Q4.len r L6]
 rw[hal]
 refine h.vE0 (⟨0,0,0,sD⟩:PrD) L6 (by kernel_rfl) (by omega) (by omega) fun g w1 h=>?_
 refine h.za0 0 (l2:=K_ L) (n:=L.length) (lo:=0) rfl L6 (Rd.base r) (Nat.zero_le _) (.inl (by rw[Nat.zero_mul])) fun w2 h=>?_
 have e0:(List.replicate L.length (⟨0,0,0,sD⟩:PrD)).take 0++(K_ L).take ((List.replicate L.length (⟨0,0,0,sD⟩:PrD)).length-0)++(List.replicate L.length (⟨0,0,0,sD⟩:PrD)).drop (0+((K_ L).take ((List.replicate L.length (⟨0,0,0,sD⟩:PrD)).length-0)).length)=K_ L:=by
  have e1:(K_ L).take ((List.replicate L.length (⟨0,0,0,sD⟩:PrD)).length-0)=K_ L:=List.take_of_length_le (by rw[hal];simp)
  rw[e1,List.take_zero,List.nil_append,List.drop_of_length_le (by rw[hal];simp),List.append_nil]
 have h:Rel B' w2 [V3 M3 (.slice (some ⟨g,0,none⟩) L.length L.length) ((List.replicate L.length (⟨0,0,0,sD⟩:PrD)).take 0++(K_ L).take ((List.replicate L.length (⟨0,0,0,sD⟩:PrD)).length-0)++(List.replicate L.length (⟨0,0,0,sD⟩:PrD)).drop (0+((K_ L).take ((List.replicate L.length (⟨0,0,0,sD⟩:PrD)).length-0)).length))]:=h
 rw[e0] at h
 have hr:=V3.read (h.here (i:=0) rfl)
 simp -zeta only[Q4.len hr L6]
 rw[hal]
 clear hr e0
 refine M6 (fun x w'=>∃(i:Nat) (L':PrL),i≤L.length∧L'.length=i∧prs L'=(prs L).take i∧x=(.int .i64 i,())∧Rel B' w' (V3 M3 (.slice (some ⟨g,0,none⟩) L.length L.length) (K_ (L'++L.drop i)) :: L'.map tx0)) (fun x _=>L.length-(match x.1 with | .int _ n=>n.toNat | _=>0))
  ⟨0,[],Nat.zero_le _,rfl,rfl,rfl,h⟩ ?_
 clear h
 rintro x w3 ⟨i,L',hi,hl',hp,rfl,h⟩ next hnext
 simp -zeta only[D6,K3]
 have hlen:(L'++L.drop i).length=L.length:=by rw[List.length_append,List.length_drop];omega
 refine⟨fun hlt=>?_,fun hge=>?_⟩
 ·have hil:i<L.length:=by omega
  have hr:=V3.read (h.here (i:=0) rfl)
  have hel:(K_ (L'++L.drop i))[i]'(by rw[hal,hlen];exact hil)=L[i].1.raw L[i].2:=by
   simp [K_,List.getElem_append_right (show L'.length≤i by omega),hl']
  have hc:=Q4.cells hr (i:=i) (by rw[hal,hlen];exact hil)
  rw[hel] at hc
  have hc:(F6 g (i * Enc.sz PrD) (L[i].1.raw L[i].2).cs).here w3:=hc
  have hrow:=q L[i] (List.getElem_mem hil)
  have hql:=hq L[i] (List.getElem_mem hil)
  simp -zeta only[eY (α:=PrD) (P:=prog) (g:=g) (cap:=L.length) (n:=L.length) (i:=i) L6 hil,U0 mI,F6.ld hc XC (j:=3) rfl]
  refine h.make (fun B2 own base2=>sI (base2 hrow) (by omega) (by omega)) fun v' τ w4 hp2 h=>?_
  subst hp2
  have h1:v'.oneCell'=true:=h.oneCell (i:=(V3 M3 (.slice (some ⟨g,0,none⟩) L.length L.length) (K_ (L'++L.drop i)) :: L'.map tx0).length) AO
  refine h.Io0 0 (j:=i) (f:=3) rfl (L[i].1.raw ⟨v',h1⟩) (by rw[hal,hlen];exact hil) rfl (by decide) (by rw[hel];rfl) XC h1 fun w5 h=>?_
  rw[V5,D5 (by omega) (by omega)]
  refine hnext _ _ ⟨i+1,L'++[(L[i].1,⟨v',h1⟩)],by omega,by simp [hl'],?_,rfl,?_⟩ (by simp only;omega)
  ·have:(prs L).take (i+1)=(prs L).take i++[L[i].1]:=by
    rw[List.take_succ_eq_append_getElem (by simpa using hil)]
    simp
   rw[this,←hp]
   simp
  ·have e:(K_ (L'++L.drop i)).set i (L[i].1.raw ⟨v',h1⟩)=K_ (L'++[(L[i].1,⟨v',h1⟩)]++L.drop (i+1)):=by
    have hd:L.drop i=L[i] :: L.drop (i+1):=List.drop_eq_getElem_cons hil
    have hl2:(K_ L').length=i:=by rw[hal,hl']
    unfold K_ at hl2 ⊢
    rw[hd,List.map_append,List.set_append_right _ _ (by omega),hl2,Nat.sub_self,List.map_cons,List.set_cons_zero]
    simp
   have h:Rel B' w5 (V3 M3 (.slice (some ⟨g,0,none⟩) L.length L.length) ((K_ (L'++L.drop i)).set i (L[i].1.raw ⟨v',h1⟩)) :: L'.map tx0++[V3 Q0 v' L[i].1.last]):=h
   rw[e] at h
   simpa [tx0] using h
 ·have hie:i=L.length:=by omega
  subst hie
  rw[List.drop_length,List.append_nil] at h
  rw[List.take_of_length_le (by simp)] at hp
  have h:=Rel.gather (σ:=[V3 M3 (.slice (some ⟨g,0,none⟩) L.length L.length) (K_ L')]) (g:=fun p:Pr×SV=>Q4 p.2.1 p.1.last) h fun x _ B hx=>V3.read hx
  exact k _ _ _ ⟨g,L',hp,by rw[hl'],rfl⟩ h
end
section
variable {B:Base} {w:World}
theorem RD0{l:List PrD}{x:PrD}{v2:Value}{g r:Nat}(rd:Q4 (.slice (some ⟨g,0,none⟩) l.length l.length) l B)(rd2:Q4 v2 [x] B)(hr:r≤l.length)(hl:l.length≤1000000) :
  Makes prog B (Z0 qA #[.slice (some ⟨g,0,none⟩) l.length l.length,.int .i64 r,v2]) fun u τ=>τ=[V3 M3 u (l.take r++x :: l.drop r)]:=by
 refine Makes.intro fun B' w K base h k=>?_
 replace rd:=base rd
 replace rd2:=base rd2
 refine m_.up ?_
 unfold m_.pt
 have hw1:IntKind.i64.wrap ((l.length:Int)+((1:Nat):Int))=((l.length+1:Nat):Int):=by rw[D5 (by omega) (by omega)];omega
 rw[Q4.Sh0 rd L6 (lo:=r) (hi:=l.length) Bnd.some Bnd.none hr (Nat.le_refl _)]
 simp -zeta only[Q4.len rd2 L6,Q4.len rd L6,List.length_cons,List.length_nil,Nat.zero_add,O6,K3]
 refine⟨fun e=>absurd e (by omega),fun _=>⟨fun e=>?_,fun e=>?_⟩⟩
 ·have e:r=l.length:=by omega
  subst e
  refine h.grow (l:=l) (l2:=[x]) L6 rfl (Rd.base rd) (Rd.base rd2) (by simp) (by simp;omega) (by simp;omega) fun u w1 h=>?_
  refine k _ _ _ ?_ h
  rw[List.take_length,List.drop_length]
  rfl
 ·have hlt:r<l.length:=by omega
  simp -zeta only[V5,hw1,Dy0 Yc0,A_,K3]
  refine⟨fun _=>?_,fun hh=>absurd (by omega) hh⟩
  have hw2:IntKind.i64.wrap (((l.length+1:Nat):Int)-(r:Int))=((l.length+1-r:Nat):Int):=by rw[D5 (by omega) (by omega)];omega
  have hw3:IntKind.i64.wrap ((r:Int)+((1:Nat):Int))=((r+1:Nat):Int):=by rw[D5 (by omega) (by omega)];omega
  rw[Q4.Sh0 rd L6 (lo:=0) (hi:=r) Bnd.none Bnd.some (Nat.zero_le _) hr]
  simp -zeta only[eF,hw2,hw3]
  have rd0:Q4 (cutV (Enc.sz PrD) (.slice (some ⟨g,0,none⟩) l.length l.length) 0 r) (l.take r) B':=by
   have:=Q4.qn0 rd (lo:=0) (hi:=r) (Nat.zero_le _) hr
   rw[List.drop_zero] at this
   exact this
  have hcv:cutV (Enc.sz PrD) (.slice (some ⟨g,0,none⟩) l.length l.length) 0 r = .slice (if l.length=0 then(some ⟨g,0,none⟩:Option Addr) else(some (⟨g,0,none⟩:Addr)).map (·.add (0 * Enc.sz PrD))) (l.take r).length l.length:=by
   have:(l.take r).length=r:=by rw[List.length_take];omega
   rw[this]
   rfl
  have htr:(l.take r).length=r:=by rw[List.length_take];omega
  refine h.qp0 (l:=l.take r) L6 TW hcv (Rd.base rd0) (⟨0,0,0,sD⟩:PrD) (by kernel_rfl) (m:=l.length+1-r) (by omega) (by omega) (by omega) (by omega) fun g2 cp w2 hcp h=>?_
  have hn:(l.take r).length+(l.length+1-r)=l.length+1:=by omega
  rw[hn] at h hcp ⊢
  generalize hl0:l.take r++List.replicate (l.length+1-r) (⟨0,0,0,sD⟩:PrD)=l0 at h
  have hl0n:l0.length=l.length+1:=by rw[←hl0,List.length_append,List.length_replicate];omega
  have hr2:=V3.read (h.here (i:=0) rfl)
  rw[←hl0n] at hr2
  have cut2:∀(lo:Nat) (lov:Option Value),Bnd lov 0 lo→lo<l.length+1→∀{Kp:Value→Prop},M0 prog (d9 I4 (.slice (some ⟨g2,0,none⟩) (l.length+1) cp) lov none none) Kp=Kp (.slice (some ⟨g2,lo * Enc.sz PrD,none⟩) (l.length+1-lo) (cp-lo)):=by
   intro lo lov hb hlo Kp
   rw[V4 fun w=>QN (α:=PrD) (lo:=lo) (hi:=l.length+1) L6 hb Bnd.none (by omega) hcp w]
   rw[if_neg (by omega)]
   simp [addr_add]
  rw[cut2 r _ Bnd.some (by omega)]
  refine h.za0 0 (l:=l0) (l2:=[x]) (n:=l.length+1) (lo:=r) rfl L6 (Rd.base rd2) (by omega) (.inl rfl) fun w3 h=>?_
  rw[cut2 (r+1) _ Bnd.some (by omega),Q4.Sh0 rd L6 (lo:=r) (hi:=l.length) Bnd.some Bnd.none hr (Nat.le_refl _)]
  have rd3:Q4 (cutV (Enc.sz PrD) (.slice (some ⟨g,0,none⟩) l.length l.length) r l.length) (l.drop r) B':=by
   have:=Q4.qn0 rd (lo:=r) (hi:=l.length) hr (Nat.le_refl _)
   rw[List.take_length] at this
   exact this
  have e1:l0.take r++[x].take (l0.length-r)++l0.drop (r+([x].take (l0.length-r)).length)=l.take r++[x]++List.replicate (l.length-r) (⟨0,0,0,sD⟩:PrD):=by
   have hx:[x].take (l0.length-r)=[x]:=List.take_of_length_le (by simp;omega)
   rw[hx,←hl0,List.take_append_of_le_length (by omega),List.take_of_length_le (by omega),List.drop_append,List.drop_of_length_le (by simp;omega),List.nil_append,List.drop_replicate]
   congr 2
   simp
   omega
  have h:Rel B' w3 [V3 M3 (.slice (some ⟨g2,0,none⟩) (l.length+1) cp) (l0.take r++[x].take (l0.length-r)++l0.drop (r+([x].take (l0.length-r)).length))]:=h
  rw[e1] at h
  have hl1:(l.take r++[x]++List.replicate (l.length-r) (⟨0,0,0,sD⟩:PrD)).length=l.length+1:=by simp;omega
  have h:=h.tick
  refine h.za0 0 (l:=l.take r++[x]++List.replicate (l.length-r) (⟨0,0,0,sD⟩:PrD)) (l2:=l.drop r) (n:=l.length+1) (lo:=r+1) rfl L6 (Rd.base rd3) (by omega) (.inl rfl) fun w4 h=>?_
  generalize hY:l.take r++[x]++List.replicate (l.length-r) (⟨0,0,0,sD⟩:PrD)=Y at h hl1
  have hd:(l.drop r).take (Y.length-(r+1))=l.drop r:=List.take_of_length_le (by rw[hl1,List.length_drop];omega)
  have a1:Y.take (r+1)=l.take r++[x]:=by
   rw[←hY,List.take_append_of_le_length (by simp;omega),List.take_of_length_le (by simp;omega)]
  have a2:Y.drop (r+1+(l.drop r).length)=[]:=List.drop_of_length_le (by rw[hl1,List.length_drop];omega)
  have h:Rel B' w4 [V3 M3 (.slice (some ⟨g2,0,none⟩) (l.length+1) cp) (Y.take (r+1)++(l.drop r).take (Y.length-(r+1))++Y.drop (r+1+((l.drop r).take (Y.length-(r+1))).length))]:=h
  rw[hd,a1,a2,List.append_nil,List.append_assoc] at h
  exact k _ _ _ rfl h
theorem my0(x:PrD)(id:Int)(h1 : -4611686018427387904≤x.id∧x.id≤4611686018427387903)(h2 : -4611686018427387904≤id∧id≤4611686018427387903):Gives prog B (aA (.func (.func yG) #[] #[]) #[Enc.val x,.int .i64 id]) (.int .i64 (x.id-id)):=by
 refine Gives.intro fun B' w K base h k=>?_
 refine dH ?_
 refine fC.up (x0:=x.v) (id1 := .int .i64 id) (fC.call ?_)
 unfold fC.pt
 refine h.box fun b2 w1 h=>?_
 have h:Rel B' w1 [O1 b2 M3 x.cs.toArray]:=h
 simp -zeta only[U0 oL,Nat.add_zero,h.ld 0 rfl F3 (o:=0) rfl,eF]
 rw[D5 (by omega) (by omega)]
 exact k _ _ h
theorem eO0{v:Value}{L:PrL}{id:Int}{r:Nat}(rd:Q4 v (K_ L) B)(hl:L.length≤1000000)(hb:∀p∈L,0≤p.1.id∧p.1.id≤1099511627776)(hid:0≤id∧id≤1099511627776)(hr:r≤L.length)
  (h1:∀i (h:i<L.length),i<r→L[i].1.id<id) (h2:∀i (h:i<L.length),r≤i→id≤L[i].1.id) {f:Bool} (hf:f=true↔∃h:r<L.length,L[r].1.id=id) :
  Gives prog B (Z0 G9 #[v,.int .i64 id,.func (.func yG) #[] #[]]) (.tuple #[.int .i64 r,.bool f]):=by
 refine Gives.intro fun B' w K base h k=>?_
 replace rd:=base rd
 have hal:(K_ L).length=L.length:=List.length_map ..
 have hel:∀i (h:i<L.length),(K_ L)[i]'(by omega)=L[i].1.raw L[i].2:=fun i h=>by simp [K_]
 refine z8.up ?_
 unfold z8.pt
 simp -zeta only[Q4.len rd L6]
 rw[hal]
 refine Q6 fun J hJ=>?_
 replace hJ:∀w',Rel B' w' []→J (.int .i64 r,()) w':=by
  intro w1 h
  refine hJ _ _ ?_
  clear hJ
  dsimp only
  simp -zeta only[D6,K3]
  refine⟨fun hlt=>?_,fun hge=>?_⟩
  ·have hrl:r<L.length:=by omega
   obtain⟨g,o,hx,hc⟩:=Q4.idx rd L6 (P:=prog) (i:=r) (by omega)
   rw[hel r hrl] at hc
   have hc:F6 g o (L[r].1.raw L[r].2).cs B':=hc
   simp -zeta only[hx,F6.Q9 (h.K6 hc) E8 rfl]
   have hbr:=hb L[r] (List.getElem_mem hrl)
   refine h.ask (fun B2 own base2=>my0 (L[r].1.raw L[r].2) id (by show -4611686018427387904≤L[r].1.id∧L[r].1.id≤_;omega) (by omega)) fun w2 h=>?_
   rw[O6]
   have:decide (L[r].1.id-id=0)=f:=by
    rw[Bool.eq_iff_iff,decide_eq_true_iff,hf]
    exact⟨fun e=>⟨hrl,by omega⟩,fun⟨_,e⟩=>by omega⟩
   have e2:((L[r].1.raw L[r].2).id-id=0)=(L[r].1.id-id=0):=rfl
   rw[show decide ((L[r].1.raw L[r].2).id-id=0)=f from this]
   exact k _ _ h
  ·have:f=false:=by
    cases hfv:f
    ·rfl
    ·obtain⟨hlt,_⟩:=hf.1 hfv
     omega
   rw[this] at k
   exact k _ _ h
 refine M6 (fun x w'=>∃i j:Nat,i≤r∧r≤j∧j≤L.length∧x=(.int .i64 i,.int .i64 j,())∧Rel B' w' []) (fun x _=>(match x.2.1 with | .int _ n=>n.toNat | _=>0)-(match x.1 with | .int _ n=>n.toNat | _=>0))
  ⟨0,L.length,Nat.zero_le _,hr,Nat.le_refl _,rfl,h⟩ ?_
 clear h
 rintro x w1 ⟨i,j,hi,hj,hjn,rfl,h⟩ next hnext
 simp -zeta only[D6,K3]
 refine⟨fun hlt=>?_,fun hge=>?_⟩
 ·simp -zeta only[V5]
  rw[D5 (by omega) (by omega),ZU TW OB0,IntWalk.u64_in _ ⟨by omega,by omega⟩,wg0 (by omega)]
  have e2:((i:Int)+j).fdiv (2 ^ min (Int.toNat 1) (IntKind.bits .u64))=(((i+j) / 2:Nat):Int):=by
   have:(2:Int) ^ min (Int.toNat 1) (IntKind.bits .u64)=2:=by decide
   rw[this,Int.fdiv_eq_ediv_of_nonneg _ (by omega)]
   omega
  rw[e2,ZU OB0 TW,D5 (by omega) (by omega)]
  have hml:(i+j) / 2<L.length:=by omega
  obtain⟨g,o,hx,hc⟩:=Q4.idx rd L6 (P:=prog) (i:=(i+j) / 2) (by omega)
  rw[hel _ hml] at hc
  have hc:F6 g o (L[(i+j) / 2].1.raw L[(i+j) / 2].2).cs B':=hc
  simp -zeta only[hx,F6.Q9 (h.K6 hc) E8 rfl]
  have hbr:=hb L[(i+j) / 2] (List.getElem_mem hml)
  refine h.ask (fun B2 own base2=>my0 (L[(i+j) / 2].1.raw L[(i+j) / 2].2) id (by show -4611686018427387904≤L[(i+j) / 2].1.id∧L[(i+j) / 2].1.id≤_;omega) (by omega)) fun w2 h=>?_
  rw[D6,K3]
  refine⟨fun e=>?_,fun e=>?_⟩
  ·have e:L[(i+j) / 2].1.id-id<0:=e
   rw[V5,D5 (by omega) (by omega)]
   refine hnext _ _ ⟨(i+j) / 2+1,j,?_,hj,hjn,rfl,h⟩ (by simp only;omega)
   refine Nat.lt_of_not_le fun hle=>?_
   have:=h2 _ hml hle
   omega
  ·have e:¬L[(i+j) / 2].1.id-id<0:=e
   refine hnext _ _ ⟨i,(i+j) / 2,hi,?_,by omega,rfl,h⟩ (by simp only;omega)
   refine Nat.le_of_not_lt fun hlt2=>?_
   have:=h1 _ hml hlt2
   omega
 ·have:i=r:=by omega
  subst this
  exact hJ _ h
end
def rD(s:List Pr)(id:Int):Nat:=(s.takeWhile fun p=>decide (p.id<id)).length
theorem CC0(s:List Pr)(id:Int):rD s id≤s.length:=(List.takeWhile_prefix _).length_le
theorem Qh0(a:Pr)(s:List Pr)(id:Int):rD (a :: s) id=if a.id<id then rD s id+1 else 0:=by
 unfold rD
 by_cases h:a.id<id
 ·rw[List.takeWhile_cons_of_pos (by simpa using h),if_pos h];rfl
 ·rw[List.takeWhile_cons_of_neg (by simpa using h),if_neg h];rfl
theorem cnt_lt{s:List Pr}{id:Int}{i:Nat}(hi:i<rD s id)(h:i<s.length):s[i].id<id:=by
 induction s generalizing i with
 | nil=>cases h
 | cons a s ih =>
  rw[Qh0] at hi
  split at hi
  ·rename_i ha
   cases i with
   | zero=>exact ha
   | succ i=>exact ih (by omega) (by simpa using h)
  ·omega
theorem EC0{s:List Pr}{id:Int}(h:rD s id<s.length):¬s[rD s id].id<id:=by
 induction s with
 | nil=>cases h
 | cons a s ih =>
  by_cases ha:a.id<id
  ·have e:rD (a :: s) id=rD s id+1:=by rw[Qh0,if_pos ha]
   have h':rD s id<s.length:=by rw[e] at h;simpa using h
   have:=ih h'
   simp only[e,List.getElem_cons_succ]
   exact this
  ·have e:rD (a :: s) id=0:=by rw[Qh0,if_neg ha]
   simp only[e,List.getElem_cons_zero]
   exact ha
theorem bn0{s:List Pr}(hs:∀i (h:i<s.length),0<i→s[i-1].id<s[i].id){i j:Nat}(hij:i<j)(hj:j<s.length):s[i].id<s[j].id:=by
 induction j with
 | zero=>omega
 | succ j ih =>
  have h1:=hs (j+1) hj (by omega)
  have h1:s[j].id<s[j+1].id:=h1
  by_cases e:i=j
  ·subst e;exact h1
  ·exact Int.lt_trans (ih (by omega) (by omega)) h1
theorem Et0{s:List Pr}(hs:∀i (h:i<s.length),0<i→s[i-1].id<s[i].id){id:Int}{i:Nat}(hi:rD s id≤i)(h:i<s.length):id≤s[i].id:=by
 have hlt:rD s id<s.length:=by omega
 have h0:¬s[rD s id].id<id:=EC0 hlt
 by_cases e:i=rD s id
 ·subst e;omega
 ·have:=bn0 hs (i:=rD s id) (j:=i) (by omega) h
  omega
def kG(s:List Pr)(p:Pr):List Pr:=if qG s p.id=true then s.set (rD s p.id) p else s.take (rD s p.id)++p :: s.drop (rD s p.id)
theorem Jn0{s:List Pr}(hs:∀i (h:i<s.length),0<i→s[i-1].id<s[i].id){id:Int}:qG s id=true↔∃h:rD s id<s.length,s[rD s id].id=id:=by
 constructor
 ·intro h
  obtain⟨h1,h2⟩:=vQ h
  obtain⟨j,hj,e⟩:=List.getElem_of_mem h1
  have hej:s[j].id=id:=by rw[e];exact h2
  have hle:rD s id≤j:=Nat.le_of_not_lt fun hlt=>by have:=cnt_lt hlt hj;omega
  have hlt:rD s id<s.length:=by omega
  refine⟨hlt,?_⟩
  have h3:=Et0 hs (Nat.le_refl _) hlt
  by_cases ej:rD s id=j
  ·simp only[ej];exact hej
  ·have:=bn0 hs (i:=rD s id) (j:=j) (by omega) hj
   omega
 ·rintro⟨h,e⟩
  unfold qG
  rw[List.find?_isSome]
  exact⟨_,List.getElem_mem h,decide_eq_true e⟩
def LP(u:Value)(s:List Pr):Dat:=⟨fun B=>∃L:PrL,prs L=s∧Q4 u (K_ L) B∧eP L B,fun hl ⟨L,h1,h2,h3⟩=>⟨L,h1,Dat.mono _ hl h2,Dat.mono _ hl h3⟩⟩
def uU(u:Value)(s:List Pr)(τ:List Dat):Prop:=∀(B:Base) (w:World) (σ:List Dat),Rel B w (σ++τ)→Rel B w (σ++[LP u s])
theorem mY{u:Value}{s:List Pr}{τ:List Dat}(h:∀B,(yT τ) B→LP u s B):uU u s τ:=fun B w σ hr=>by
 have h1:=(Rel.VM hr).imp (i:=σ.length) (e:=LP u s) AO h
 rw[List.set_append_right _ _ (Nat.le_refl _),Nat.sub_self,List.set_cons_zero] at h1
 exact h1
theorem Makes.imp{P:Program}{B:Base}{s:Sem Next}{post post':Value→List Dat→Prop}(h:Makes P B s post)(hi:∀v τ,post v τ→post' v τ):Makes P B s post':=fun w σ K hr k=>h w σ K hr fun v τ w' hp h2=>k v τ w' (hi v τ hp) h2
def MK0(u:Value)(s:List Pr)(τ:List Dat):Prop:=∀(B:Base) (w:World) (σ:List Dat),Rel B w (σ++τ)→∃(B':Base) (L':PrL),B.ext B'∧Rel B' w σ∧prs L'=s∧Q4 u (K_ L') B'∧eP L' B'
theorem uU.new{u:Value}{s:List Pr}{τ:List Dat}(h:uU u s τ):MK0 u s τ:=fun B w σ hr=>by
 obtain⟨B',e,h2,L,h3,h4,h5⟩:=(h B w σ hr).Bk0
 exact⟨B',L,e,h2,h3,h4,h5⟩
section
variable {B:Base} {w:World}
theorem CG0{v:Value}{L:PrL}(r:Q4 v (K_ L) B)(q:eP L B)(hR:aH (prs L)){p:Pr}{sv:SV}(hid:inP p.id) :
  Makes prog B (Z0 EM #[v,(p.raw sv).v]) fun u τ=>∃Lc L':PrL,prs L'=kG (prs L) p∧(∀x∈L',x∈Lc∨x=(p,sv))∧τ=[V3 M3 u (K_ L'),eP Lc]:=by
 refine Makes.intro fun B' w K base h k=>?_
 replace r:=base r
 replace q:=base q
 have hpl:∀L:PrL,(prs L).length=L.length:=fun L=>List.length_map ..
 have hal:∀L:PrL,(K_ L).length=L.length:=fun L=>List.length_map ..
 have hlen:=hR.len
 rw[hpl] at hlen
 refine kQ.up ?_
 unfold kQ.pt
 refine h.box fun b w1 h=>?_
 have h:Rel B' w1 [O1 b M3 (p.raw sv).cs.toArray]:=h
 refine h.make (fun B2 own base2=>rw0 (base2 r) (base2 q) (by omega) fun x hx=>by have:=(hR.fine x.1 (List.mem_map_of_mem hx)).len;omega) fun u τ w2 hp h=>?_
 obtain⟨g,Lc,hpc,rfl,rfl⟩:=hp
 have hlc:Lc.length=L.length:=by rw[←hpl Lc,hpc,hpl]
 have h:Rel B' w2 [O1 b M3 (p.raw sv).cs.toArray,V3 M3 (.slice (some ⟨g,0,none⟩) Lc.length Lc.length) (K_ Lc),eP Lc]:=h
 simp -zeta only[U0 oL,Nat.add_zero,h.ld 0 rfl F3 (o:=0) rfl]
 have hget:∀i (h:i<Lc.length),Lc[i].1=(prs L)[i]'(by rw[hpl];omega):=fun i h=>by
  have:(prs Lc)[i]'(by rw[hpl];exact h)=Lc[i].1:=by simp
  rw[←this]
  simp only[hpc]
 have hcl:=CC0 (prs L) p.id
 rw[hpl] at hcl
 refine h.ask (fun B2 own base2=>eO0 (L:=Lc) (id:=p.id) (r:=rD (prs L) p.id) (f:=qG (prs L) p.id) (V3.read (own (i:=1) rfl)) (by omega)
  (fun x hx=>by
   have hm:x.1∈prs L:=by rw[←hpc];exact List.mem_map_of_mem hx
   exact(hR.fine _ hm).id) hid (by omega) (fun i hi hlt=>by rw[hget i hi];exact cnt_lt hlt _) (fun i hi hge=>by rw[hget i hi];exact Et0 hR.asc hge _) (by
    rw[Jn0 hR.asc]
    constructor
    ·rintro⟨h1,h2⟩
     have h1':rD (prs L) p.id<Lc.length:=by rw[hpl] at h1;omega
     exact⟨h1',by rw[hget _ h1'];exact h2⟩
    ·rintro⟨h1,h2⟩
     exact⟨by rw[hpl];omega,by rw[←hget _ h1];exact h2⟩)) fun w3 h=>?_
 simp -zeta only[h_,Y9]
 rw[Q5]
 generalize hc:rD (prs L) p.id=c at hcl ⊢
 refine⟨fun e=>?_,fun e=>?_⟩
 ·have hcl2:c<Lc.length:=by
   obtain⟨h1,_⟩:=(Jn0 hR.asc).1 e
   rw[hc,hpl] at h1
   omega
  simp -zeta only[h.Q9 0 rfl E8 rfl,eY (α:=PrD) (P:=prog) (g:=g) (cap:=Lc.length) (n:=Lc.length) (i:=c) L6 hcl2]
  refine h.Eo0 1 (j:=c) rfl (p.raw sv) (by rw[hal];exact hcl2) E8 rfl rfl fun w4 h=>?_
  have h:=h.pick [1,2] (by decide)
  refine k _ _ _ ⟨Lc,Lc.set c (p,sv),?_,fun x hx=>List.mem_or_eq_of_mem_set hx,rfl⟩ ?_
  ·unfold kG
   rw[if_pos e,hc,←hpc]
   exact List.map_set
  ·have e2:K_ (Lc.set c (p,sv))=(K_ Lc).set c (p.raw sv):=List.map_set
   rw[e2]
   exact h
 ·simp -zeta only[h.Q9 0 rfl E8 rfl]
  refine h.bH (α:=PrD) (p.raw sv) L6 (by decide) fun v2 w4 h=>?_
  have h:Rel B' w4 [O1 b M3 (p.raw sv).cs.toArray,V3 M3 (.slice (some ⟨g,0,none⟩) Lc.length Lc.length) (K_ Lc),eP Lc,V3 M3 v2 [p.raw sv]]:=h
  rw[←hal Lc] at h ⊢
  refine h.make (fun B2 own base2=>RD0 (l:=K_ Lc) (x:=p.raw sv) (r:=c) (V3.read (own (i:=1) rfl)) (V3.read (own (i:=3) rfl)) (by rw[hal];omega) (by rw[hal];omega)) fun u τ w5 hp h=>?_
  subst hp
  have h:=h.pick [4,2] (by decide)
  refine k _ _ _ ⟨Lc,Lc.take c++(p,sv) :: Lc.drop c,?_,fun x hx=>?_,rfl⟩ ?_
  ·unfold kG
   rw[if_neg (by rw[e];decide),hc,←hpc]
   simp
  ·rcases List.mem_append.1 hx with hx | hx
   ·exact .inl (List.mem_of_mem_take hx)
   ·rcases List.mem_cons.1 hx with hx | hx
    ·exact .inr hx
    ·exact .inl (List.mem_of_mem_drop hx)
  ·have e2:K_ (Lc.take c++(p,sv) :: Lc.drop c)=(K_ Lc).take c++p.raw sv :: (K_ Lc).drop c:=by simp [K_]
   rw[e2]
   exact h
def oI(s:List Pr)(id:Int):List Pr×Int×Int :=
 if ¬okN id∨(w_ s id).epoch=1099511627776 then([],0,1) else if qG s id=false∧50≤s.length then([],0,6) else(kG s ⟨id,(w_ s id).epoch+1,0,[]⟩,(w_ s id).epoch+1,0)
theorem bj0(τ:List Dat):uU (.slice none 0 0) [] τ:=mY fun B _=>⟨[],rfl,⟨none,0,rfl,Nat.le_refl _,.inl rfl⟩,fun x hx=>by cases hx⟩
theorem NG0{v:Value}{L:PrL}(r:Q4 v (K_ L) B)(q:eP L B)(hR:aH (prs L))(id:Int) :
  Makes prog B (Z0 kP #[v,.int .i64 id]) fun u τ=>∃tv,u = .tuple #[tv,.int .i64 (oI (prs L) id).2.1,.int .i64 (oI (prs L) id).2.2]∧uU tv (oI (prs L) id).1 τ:=by
 refine Makes.intro fun B' w K base h k=>?_
 replace r:=base r
 replace q:=base q
 have hpl:∀L:PrL,(prs L).length=L.length:=fun L=>List.length_map ..
 have hal:∀L:PrL,(K_ L).length=L.length:=fun L=>List.length_map ..
 have hlen:=hR.len
 rw[hpl] at hlen
 refine KO.up ?_
 unfold KO.pt
 have fin:∀(x:List Pr×Int×Int) tv τ w',oI (prs L) id=x→uU tv x.1 τ→Rel B' w' τ→K (.tuple #[tv,.int .i64 x.2.1,.int .i64 x.2.2]) w':=fun x tv τ w' e hn h=>k _ τ w' ⟨tv,by rw[e],by rw[e];exact hn⟩ h
 clear k
 unfold oI at fin
 obtain⟨sv,hsv,hfind⟩:=gu0 r q (by omega) id
 refine hfind _ _ _ h fun w1 h=>?_
 simp -zeta only[h_,Y9]
 have hsm:=UV hR (id:=id)
 generalize w_ (prs L) id=p at *
 refine h.r9 (ds:=(p.raw sv).cs.toArray) yI rfl E8 rfl (fun v hv=>Enc.one (p.raw sv) v hv) fun o w3 h=>?_
 have h:Rel B' w3 [O1 o M3 (p.raw sv).cs.toArray]:=h
 refine Q6 fun J hJ=>?_
 replace hJ:okN id→¬p.epoch=1099511627776→¬(qG (prs L) id=false∧50≤(prs L).length)→∀w',Rel B' w' [O1 o M3 (p.raw sv).cs.toArray]→J () w':=by
  intro c1 c2 c3 w4 h
  refine hJ _ _ ?_
  clear hJ
  rw[if_neg (fun hh=>hh.elim (fun a=>a c1) c2),if_neg c3] at fin
  simp -zeta only[U0 tL,Nat.zero_add,h.ld 0 rfl F3 (o:=1) rfl,V5]
  rw[D5 (by omega) (by omega),GY]
  refine h.xI 0 (ds:=(⟨id,p.epoch+1,0,sD⟩:PrD).cs.toArray) rfl E8 rfl rfl (fun v hv=>Enc.one (⟨id,p.epoch+1,0,sD⟩:PrD) v hv) fun w5 h=>?_
  have h:=h.tick
  have h:Rel B' (tick w5) [O1 o M3 (⟨id,p.epoch+1,0,sD⟩:PrD).cs.toArray]:=h
  simp -zeta only[h.Q9 0 rfl E8 rfl,h.ld 0 rfl F3 (o:=1) rfl]
  refine h.make (fun B2 own base2=>CG0 (p:=⟨id,p.epoch+1,0,[]⟩) (sv:=sD) (base2 r) (base2 q) hR ⟨c1.1,by have:=c1.2;show id≤_;omega⟩) fun u τ w6 hp h=>?_
  obtain⟨Lc,L',hp,hm,rfl⟩:=hp
  refine⟨h.is 0 rfl F3 (o:=1) rfl,?_⟩
  refine fin (kG (prs L) ⟨id,p.epoch+1,0,[]⟩,p.epoch+1,0) u [V3 M3 u (K_ L'),eP Lc] _ rfl ?_ (h.pick [1,2] (by decide))
  refine mY fun B3 hB3=>⟨L',hp,V3.read (Dat.star.left hB3),fun x hx=>?_⟩
  rcases hm x hx with hx | rfl
  ·exact(Dat.star.left (Dat.star.right hB3):eP Lc B3) x hx
  ·exact⟨none,0,rfl,Nat.le_refl _,.inl rfl⟩
 refine h.ask (fun B2 own base2=>UL0 id) fun w4 h=>?_
 rw[V8,K5,K3]
 refine⟨fun c1=>?_,fun c1=>fin ([],0,1) _ _ _ (by rw[if_pos (.inl fun hh=>c1 ⟨hh.1,by have:=hh.2;omega⟩)]) (bj0 []) h.nil⟩
 simp -zeta only[O6,K3]
 refine⟨fun c2=>fin ([],0,1) _ _ _ (by rw[if_pos (.inl fun hh=>by have:=hh.2;omega)]) (bj0 []) h.nil,fun c2=>?_⟩
 have c1:okN id:=⟨c1.1,by have:=c1.2;omega⟩
 simp -zeta only[U0 tL,Nat.zero_add,h.ld 0 rfl F3 (o:=1) rfl,O6,K3]
 refine⟨fun c3=>fin ([],0,1) _ _ _ (by rw[if_pos (.inr c3)]) (bj0 []) h.nil,fun c3=>?_⟩
 rw[V8,K5,Q5]
 refine⟨fun c4=>hJ c1 c3 (fun hh=>by rw[c4] at hh;cases hh.1) _ h,fun c4=>?_⟩
 simp -zeta only[Q4.len r L6,LD,K3]
 rw[hal]
 exact⟨fun c5=>fin ([],0,6) _ _ _ (by rw[if_neg (fun hh=>hh.elim (fun a=>a c1) c3),if_pos ⟨c4,by rw[hpl];omega⟩]) (bj0 []) h.nil,fun c5=>hJ c1 c3 (fun hh=>c5 (by have:=hh.2;rw[hpl] at this;omega)) _ h⟩
end
def MZ(p:Pr)(pos:Int):Pr:=⟨p.id,p.epoch,p.next+1,(p.last++[pos]).drop ((p.last++[pos]).length-20)⟩
def kW(s:List Pr)(id e q pos:Int):List Pr :=
 if(EN s id e q).2≠0 then s else if ¬inP pos then s else if 0<(w_ s id).last.length∧pos≤(w_ s id).last.getD ((w_ s id).last.length-1) 0 then s else kG s (MZ (w_ s id) pos)
theorem Gn0(s:List Pr)(id:Int):(w_ s id).id=id:=by
 cases e:qG s id
 ·rw[(BN e).1]
 ·exact(vQ e).2
theorem look_ok{s:List Pr}{id e q:Int}(h:(EN s id e q).2=0):(okN id∧okN e∧okN q)∧e=(w_ s id).epoch∧q=(w_ s id).next∧¬(qG s id=false∧50≤s.length):=by
 unfold EN at h
 by_cases c0:okN id∧okN e∧okN q
 ·rw[if_neg (fun hh=>hh c0)] at h
  by_cases c1:e<(w_ s id).epoch
  ·rw[if_pos c1] at h;cases h
  rw[if_neg c1] at h
  by_cases c2:(w_ s id).epoch<e
  ·rw[if_pos c2] at h;cases h
  rw[if_neg c2] at h
  by_cases c3:(w_ s id).next<q
  ·rw[if_pos c3] at h;cases h
  rw[if_neg c3] at h
  by_cases c4:qG s id=false∧50≤s.length
  ·rw[if_pos c4] at h;cases h
  rw[if_neg c4] at h
  by_cases c5:q=(w_ s id).next
  ·exact⟨c0,by omega,c5,c4⟩
  rw[if_neg c5] at h
  split at h<;>cases h
 ·rw[if_pos c0] at h;cases h
section
variable {B:Base} {w:World}
theorem cN0{v:Value}{L:PrL}(r:Q4 v (K_ L) B)(q:eP L B)(hR:aH (prs L))(en:PD)(pos:Int) :
  Makes prog B (Z0 ES #[v,en.v,.int .i64 pos]) fun u τ=>uU u (kW (prs L) en.producer en.epoch en.seq pos) τ:=by
 refine Makes.intro fun B' w K base h k=>?_
 replace r:=base r
 replace q:=base q
 have hpl:∀L:PrL,(prs L).length=L.length:=fun L=>List.length_map ..
 have hal:∀L:PrL,(K_ L).length=L.length:=fun L=>List.length_map ..
 have hlen:=hR.len
 rw[hpl] at hlen
 refine WR.up ?_
 unfold WR.pt
 have fin:∀s u τ w',kW (prs L) en.producer en.epoch en.seq pos=s→uU u s τ→Rel B' w' τ→K u w':=fun s u τ w' e hn h=>k _ τ w' (by rw[e];exact hn) h
 clear k
 unfold kW at fin
 refine h.box fun b w1 h=>?_
 have h:Rel B' w1 [O1 b Y1 en.cs.toArray]:=h
 simp -zeta only[U0 eH,Nat.zero_add,h.ld 0 rfl F3 (o:=1) rfl]
 obtain⟨sv,hsv,hfind⟩:=gu0 r q (by omega) en.producer
 refine hfind _ _ _ h fun w2 h=>?_
 simp -zeta only[h_,Y9]
 have hsm:=UV hR (id:=en.producer)
 have hid:=Gn0 (prs L) en.producer
 have hlk:(EN (prs L) en.producer en.epoch en.seq).2=0→okN en.producer:=fun hh=>(look_ok hh).1.1
 generalize w_ (prs L) en.producer=p at *
 refine h.r9 (ds:=(p.raw sv).cs.toArray) yI rfl E8 rfl (fun v hv=>Enc.one (p.raw sv) v hv) fun o w3 h=>?_
 have h:Rel B' w3 [O1 b Y1 en.cs.toArray,O1 o M3 (p.raw sv).cs.toArray]:=h
 have cl:∀w',(if(EN (prs L) en.producer en.epoch en.seq).2≠0 then prs L else if ¬inP pos then prs L else if 0<p.last.length∧pos≤p.last.getD (p.last.length-1) 0 then prs L else kG (prs L) (MZ p pos))=prs L →
   Rel B' w' [O1 b Y1 en.cs.toArray,O1 o M3 (p.raw sv).cs.toArray]→upK prog (Z0 wD #[v]) w' fun t w=>K t w:=by
  intro w' e h
  refine h.make (fun B2 own base2=>rw0 (base2 r) (base2 q) (by omega) fun x hx=>by have:=(hR.fine x.1 (List.mem_map_of_mem hx)).len;omega) fun u τ w5 hp h=>?_
  obtain⟨g,Lc,hpc,rfl,rfl⟩:=hp
  refine fin (prs L) _ [V3 M3 (.slice (some ⟨g,0,none⟩) Lc.length Lc.length) (K_ Lc),eP Lc] _ e ?_ (h.pick [2,3] (by decide))
  exact mY fun B3 hB3=>⟨Lc,hpc,V3.read (Dat.star.left hB3),Dat.star.left (Dat.star.right hB3)⟩
 refine Q6 fun J hJ=>?_
 replace hJ:(EN (prs L) en.producer en.epoch en.seq).2=0→inP pos→¬(0<p.last.length∧pos≤p.last.getD (p.last.length-1) 0)→∀w',Rel B' w' [O1 b Y1 en.cs.toArray,O1 o M3 (p.raw sv).cs.toArray]→J () w':=by
  intro c1 c2 c3 w5 h
  refine hJ _ _ ?_
  clear hJ cl
  rw[if_neg (fun hh=>hh c1),if_neg (fun hh=>hh c2),if_neg c3] at fin
  have hin:=hlk c1
  simp -zeta only[U0 rP,U0 mI,Nat.zero_add,h.ld 1 rfl F3 (o:=2) rfl,V5]
  rw[D5 (by omega) (by omega)]
  refine h.st 1 rfl F3 (show 2<4 by omega) rfl fun w6 h=>?_
  simp -zeta only[h.ld 1 rfl XC (o:=3) rfl]
  refine h.make (fun B2 own base2=>sI (base2 hsv) (by omega) (by omega)) fun v' τ w7 hp h=>?_
  subst hp
  refine h.Df0 (α:=Int) 2 rfl pos C9 (by decide) (by omega) (by omega) fun v2 w9 h=>?_
  have h1:v2.oneCell'=true:=h.oneCell (i:=2) rfl
  refine h.st 1 rfl XC (show 3<4 by omega) h1 fun w10 h=>?_
  have hr2:Q4 v2 (p.last++[pos]) ⟨w10,fun _=>True⟩:=V3.read (h.here (i:=2) rfl)
  have hl2:(p.last++[pos]).length=p.last.length+1:=by simp
  have hw:IntKind.i64.wrap (((p.last++[pos]).length:Int)-20)=((p.last++[pos]).length:Int)-20:=D5 (by omega) (by omega)
  have hmx:max (((p.last++[pos]).length:Int)-20) 0=(((p.last++[pos]).length-20:Nat):Int):=by omega
  simp -zeta only[h.ld 1 rfl XC (o:=3) rfl,Q4.len hr2 C9,eF,hw,kL,hmx]
  rw[Q4.Sh0 hr2 C9 (lo:=(p.last++[pos]).length-20) (hi:=(p.last++[pos]).length) Bnd.some Bnd.none (by omega) (Nat.le_refl _)]
  have hc1:(cutV (Enc.sz Int) v2 ((p.last++[pos]).length-20) (p.last++[pos]).length).oneCell'=true:=Q4.oneCell (Q4.qn0 hr2 (by omega) (Nat.le_refl _))
  refine h.st 1 rfl XC (show 3<4 by omega) hc1 fun w11 h=>?_
  have h:Rel B' w11 [O1 b Y1 en.cs.toArray,O1 o M3 ((MZ p pos).raw ⟨_,hc1⟩).cs.toArray,V3 Q0 v2 (p.last++[pos])]:=h
  rw[h.Q9 1 rfl E8 rfl]
  refine h.make (fun B2 own base2=>CG0 (p:=MZ p pos) (sv:=⟨_,hc1⟩) (base2 r) (base2 q) hR (by show inP p.id;rw[hid];exact⟨hin.1,by have:=hin.2;omega⟩)) fun u τ w12 hp h=>?_
  obtain⟨Lc,L',hp,hm,rfl⟩:=hp
  refine fin (kG (prs L) (MZ p pos)) u [V3 Q0 v2 (p.last++[pos]),V3 M3 u (K_ L'),eP Lc] _ rfl ?_ (h.pick [2,3,4] (by decide))
  refine mY fun B3 hB3=>⟨L',hp,V3.read (Dat.star.left (Dat.star.right hB3)),fun x hx=>?_⟩
  rcases hm x hx with hx | rfl
  ·exact(Dat.star.left (Dat.star.right (Dat.star.right hB3)):eP Lc B3) x hx
  ·have:=Q4.qn0 (V3.read (Dat.star.left hB3)) (lo:=(p.last++[pos]).length-20) (hi:=(p.last++[pos]).length) (by omega) (Nat.le_refl _)
   rw[List.take_length] at this
   exact this
 rw[h.Q9 0 rfl P8 rfl]
 refine h.ask (fun B2 own base2=>IB0 (base2 r) (base2 q) hR en) fun w4 h=>?_
 simp -zeta only[h_,Y9,X7,K5,K3]
 refine⟨fun c1=>?_,fun c1=>cl _ (by rw[if_pos c1]) h⟩
 have c1:(EN (prs L) en.producer en.epoch en.seq).2=0:=c1
 refine h.ask (fun B2 own base2=>UL0 pos) fun w5 h=>?_
 rw[V8,K5,K3]
 refine⟨fun c2=>?_,fun c2=>cl _ (by rw[if_neg (fun hh=>hh c1),if_pos c2]) h⟩
 simp -zeta only[U0 mI,Nat.zero_add,h.ld 1 rfl XC (o:=3) rfl,Q4.len hsv C9,A_,K3]
 refine⟨fun c3=>?_,fun c3=>hJ c1 c2 (fun hh=>c3 (by omega)) _ h⟩
 have hw:IntKind.i64.wrap ((p.last.length:Int)-1)=((p.last.length-1:Nat):Int):=by rw[D5 (by omega) (by omega)];omega
 have hml:p.last.length-1<p.last.length:=by omega
 obtain⟨a,q1,q2⟩:=Q4.Fh0 hsv h C9 hml F3 (x := .int .i64 p.last[p.last.length-1]) rfl
 have hgd:p.last.getD (p.last.length-1) 0=p.last[p.last.length-1]:=by rw[List.getD_eq_getElem?_getD,List.getElem?_eq_getElem hml];rfl
 simp -zeta only[eF,hw,q1,q2,gD,K3]
 exact⟨fun c4=>cl _ (by rw[if_neg (fun hh=>hh c1),if_neg (fun hh=>hh c2),if_pos ⟨by omega,by rw[hgd];exact c4⟩]) h,fun c4=>hJ c1 c2 (fun hh=>c4 (by rw[←hgd];exact hh.2)) _ h⟩
end
abbrev Asc(s:List Pr):Prop:=s.Pairwise fun a b=>a.id<b.id
theorem an0{s:List Pr}:(∀i (h:i<s.length),0<i→s[i-1].id<s[i].id)↔Asc s:=by
 constructor
 ·intro h
  show s.Pairwise fun a b=>a.id<b.id
  rw[List.pairwise_iff_getElem]
  intro i j hi hj hij
  exact bn0 h hij hj
 ·intro h i hi h0
  have h:s.Pairwise fun a b=>a.id<b.id:=h
  rw[List.pairwise_iff_getElem] at h
  exact h (i-1) i (by omega) hi (by omega)
theorem aH.pw{s:List Pr}(h:aH s):Asc s:=an0.1 h.asc
theorem lC0{s:List Pr}(h:Asc s){x y:Pr}(hx:x∈s)(hy:y∈s)(e:x.id=y.id):x=y:=by
 have h:s.Pairwise fun a b=>a.id<b.id:=h
 rw[List.pairwise_iff_getElem] at h
 obtain⟨i,hi,rfl⟩:=List.getElem_of_mem hx
 obtain⟨j,hj,rfl⟩:=List.getElem_of_mem hy
 rcases Nat.lt_trichotomy i j with hij | rfl | hij
 ·have:=h i j hi hj hij;omega
 ·rfl
 ·have:=h j i hj hi hij;omega
theorem Mw0{s:List Pr}(h:Asc s){x:Pr}(hx:x∈s):w_ s x.id=x∧qG s x.id=true:=by
 have hh:qG s x.id=true:=by
  unfold qG
  rw[List.find?_isSome]
  exact⟨x,hx,decide_eq_true rfl⟩
 obtain⟨h1,h2⟩:=vQ hh
 exact⟨lC0 h h1 hx h2,hh⟩
theorem ru0{s:List Pr}{id:Int}(h:∀x∈s,x.id≠id):qG s id=false:=by
 cases e:qG s id
 ·rfl
 ·obtain⟨h1,h2⟩:=vQ e
  exact absurd h2 (h _ h1)
theorem Vj0{s:List Pr}(h:Asc s)(p:Pr):∃c d,kG s p=s.take c++p :: s.drop d∧(∀x∈s.take c,x.id<p.id)∧(∀x∈s.drop d,p.id<x.id)∧c≤s.length∧d≤s.length∧((d=c∧qG s p.id=false)∨(d=c+1∧qG s p.id=true∧∃hc:c<s.length,s[c].id=p.id)):=by
 have ha:=an0.2 h
 have hlt:∀x∈s.take (rD s p.id),x.id<p.id:=fun x hx=>by
  obtain⟨i,hi,rfl⟩:=List.mem_take_iff_getElem.1 hx
  exact cnt_lt (by omega) (by omega)
 have hle:=CC0 s p.id
 cases e:qG s p.id
 ·refine⟨rD s p.id,rD s p.id,by unfold kG;rw[if_neg (by rw[e];decide)],hlt,fun x hx=>?_,hle,hle,.inl ⟨rfl,rfl⟩⟩
  obtain⟨i,hi,rfl⟩:=List.mem_drop_iff_getElem.1 hx
  have h1:=Et0 ha (id:=p.id) (i:=rD s p.id+i) (by omega) (by omega)
  have h2:=(BN e).2 _ (List.getElem_mem (show rD s p.id+i<s.length by omega))
  omega
 ·obtain⟨hc,hid⟩:=(Jn0 ha).1 e
  refine⟨rD s p.id,rD s p.id+1,by unfold kG;rw[if_pos e,List.set_eq_take_append_cons_drop,if_pos hc],hlt,fun x hx=>?_,hle,by omega,.inr ⟨rfl,rfl,hc,hid⟩⟩
  obtain⟨i,hi,rfl⟩:=List.mem_drop_iff_getElem.1 hx
  have:=bn0 ha (i:=rD s p.id) (j:=rD s p.id+1+i) (by omega) (by omega)
  omega
theorem De0{s:List Pr}(h:Asc s)(p:Pr):Asc (kG s p):=by
 obtain⟨c,d,e,h1,h2,_,_,hcd⟩:=Vj0 h p
 rw[e]
 unfold Asc
 rw[List.pairwise_append,List.pairwise_cons]
 refine⟨h.sublist (List.take_sublist _ _),⟨h2,h.sublist (List.drop_sublist _ _)⟩,fun x hx y hy=>?_⟩
 rcases List.mem_cons.1 hy with rfl | hy
 ·exact h1 x hx
 ·exact Int.lt_trans (h1 x hx) (h2 y hy)
theorem CY{s:List Pr}(h:Asc s)(p x:Pr):x∈kG s p↔x=p∨(x∈s∧x.id≠p.id):=by
 obtain⟨c,d,e,h1,h2,hc,hd,hcd⟩:=Vj0 h p
 rw[e,List.mem_append,List.mem_cons]
 constructor
 ·rintro(hx | rfl | hx)
  ·exact .inr ⟨List.mem_of_mem_take hx,by have:=h1 x hx;omega⟩
  ·exact .inl rfl
  ·exact .inr ⟨List.mem_of_mem_drop hx,by have:=h2 x hx;omega⟩
 ·rintro(rfl | ⟨hx,hne⟩)
  ·exact .inr (.inl rfl)
  ·have hs:s=s.take c++s.drop c:=(List.take_append_drop c s).symm
   rw[hs] at hx
   rcases List.mem_append.1 hx with hx | hx
   ·exact .inl hx
   ·rcases hcd with⟨rfl,_⟩ | ⟨rfl,_,hlt,hid⟩
    ·exact .inr (.inr hx)
    ·rw[List.drop_eq_getElem_cons hlt] at hx
     rcases List.mem_cons.1 hx with rfl | hx
     ·exact absurd hid hne
     ·exact .inr (.inr hx)
theorem ll0{s:List Pr}(h:Asc s)(p:Pr):w_ (kG s p) p.id=p∧qG (kG s p) p.id=true:=Mw0 (De0 h p) ((CY h p p).2 (.inl rfl))
theorem ab0{s:List Pr}(h:Asc s)(p:Pr){id:Int}(hid:id≠p.id):w_ (kG s p) id=w_ s id∧qG (kG s p) id=qG s id:=by
 cases e:qG s id
 ·obtain⟨e1,e2⟩:=BN e
  have:qG (kG s p) id=false:=ru0 fun x hx=>by
   rcases(CY h p x).1 hx with rfl | ⟨hx,_⟩
   ·exact Ne.symm hid
   ·exact e2 x hx
  exact⟨by rw[(BN this).1,e1],this⟩
 ·obtain⟨e1,e2⟩:=vQ e
  have hm:w_ s id∈kG s p:=(CY h p _).2 (.inr ⟨e1,by rw[e2];exact hid⟩)
  have:=Mw0 (De0 h p) hm
  rw[e2] at this
  exact this
theorem AG0{s:List Pr}(h:Asc s)(p:Pr):(kG s p).length=if qG s p.id=true then s.length else s.length+1:=by
 obtain⟨c,d,e,h1,h2,hc,hd,hcd⟩:=Vj0 h p
 rw[e,List.length_append,List.length_cons,List.length_take,List.length_drop]
 rcases hcd with⟨rfl,hh⟩ | ⟨rfl,hh,hlt,_⟩
 ·rw[if_neg (by rw[hh];decide)];omega
 ·rw[if_pos hh];omega
theorem ak0{s:List Pr}(h:aH s){p:Pr}(hp:Ge0 p)(hl:qG s p.id=true∨s.length<50):aH (kG s p):=by
 refine⟨fun x hx=>?_,an0.2 (De0 h.pw p),?_⟩
 ·rcases(CY h.pw p x).1 hx with rfl | ⟨hx,_⟩
  ·exact hp
  ·exact h.fine x hx
 ·rw[AG0 h.pw p]
  have:=h.len
  split
  ·exact this
  ·rename_i hh
   rcases hl with hl | hl
   ·exact absurd hl hh
   ·omega
theorem KA0{p:Pr}(hp:Ge0 p)(hn:p.next<1099511627776){pos:Int}(hpos:inP pos)(hb:¬(0<p.last.length∧pos≤p.last.getD (p.last.length-1) 0)):Ge0 (MZ p pos):=by
 have hnext:=hp.next
 have hlen:=hp.len
 have hl2:(p.last++[pos]).length=p.last.length+1:=by simp
 have hget:∀i (h:i<(p.last++[pos]).length),(p.last++[pos])[i]=if h':i<p.last.length then p.last[i] else pos:=fun i h=>by
  by_cases h':i<p.last.length
  ·rw[dif_pos h',List.getElem_append_left h']
  ·rw[dif_neg h',List.getElem_append_right (by omega)]
   simp
 have each:∀i (h:i<(p.last++[pos]).length),inP (p.last++[pos])[i]:=fun i h=>by
  rw[hget i h]
  split
  ·rename_i h';exact hp.each i h'
  ·exact hpos
 have asc:∀i (h:i<(p.last++[pos]).length),0<i→(p.last++[pos])[i-1]<(p.last++[pos])[i]:=fun i h h0=>by
  rw[hget i h,hget (i-1) (by omega)]
  by_cases h':i<p.last.length
  ·rw[dif_pos h',dif_pos (by omega)];exact hp.asc i h' h0
  ·rw[dif_neg h',dif_pos (by omega)]
   have hi:i-1=p.last.length-1:=by omega
   have hgd:p.last.getD (p.last.length-1) 0=p.last[p.last.length-1]'(by omega):=by rw[List.getD_eq_getElem?_getD,List.getElem?_eq_getElem (by omega)];rfl
   rw[hgd] at hb
   simp only[hi]
   omega
 unfold inP at hnext
 have hdl:(MZ p pos).last.length=(p.last++[pos]).length-((p.last++[pos]).length-20):=List.length_drop ..
 refine⟨hp.id,hp.epoch,⟨by show 0≤p.next+1;omega,by show p.next+1≤_;omega⟩,?_,fun i h=>?_,fun i h h0=>?_⟩
 ·rw[hdl]
  show _=min (p.next+1) 20
  omega
 ·have:(MZ p pos).last[i]=(p.last++[pos])[(p.last++[pos]).length-20+i]'(by rw[hdl] at h;omega):=List.getElem_drop ..
  rw[this]
  exact each _ _
 ·have e1:(MZ p pos).last[i]=(p.last++[pos])[(p.last++[pos]).length-20+i]'(by rw[hdl] at h;omega):=List.getElem_drop ..
  have e2:(MZ p pos).last[i-1]=(p.last++[pos])[(p.last++[pos]).length-20+(i-1)]'(by rw[hdl] at h;omega):=List.getElem_drop ..
  rw[e1,e2]
  have:=asc ((p.last++[pos]).length-20+i) (by rw[hdl] at h;omega) (by omega)
  have e3:(p.last++[pos]).length-20+i-1=(p.last++[pos]).length-20+(i-1):=by omega
  simp only[e3] at this
  exact this
theorem fm0{s:List Pr}(h:aH s)(id e q pos:Int):aH (kW s id e q pos):=by
 unfold kW
 by_cases c0:(EN s id e q).2≠0
 ·rw[if_pos c0];exact h
 rw[if_neg c0]
 have c0:(EN s id e q).2=0:=by simpa using c0
 obtain⟨⟨h1,_,h3⟩,he,hq,hfull⟩:=look_ok c0
 by_cases c1:¬inP pos
 ·rw[if_pos c1];exact h
 rw[if_neg c1]
 by_cases c2:0<(w_ s id).last.length∧pos≤(w_ s id).last.getD ((w_ s id).last.length-1) 0
 ·rw[if_pos c2];exact h
 rw[if_neg c2]
 have hid:=Gn0 s id
 have hfine:=(vz0 h (id:=id) ⟨h1.1,by have:=h1.2;omega⟩).1
 refine ak0 h (KA0 hfine (by rw[←hq];exact h3.2) (Decidable.of_not_not c1) c2) ?_
 show qG s (w_ s id).id=true∨_
 rw[hid]
 cases e:qG s id
 ·right
  exact Nat.lt_of_not_le fun hh=>hfull ⟨e,hh⟩
 ·exact .inl rfl
theorem mq0{s:List Pr}{id:Int}(h:(oI s id).2.2=0):okN id∧¬(w_ s id).epoch=1099511627776∧¬(qG s id=false∧50≤s.length)∧oI s id=(kG s ⟨id,(w_ s id).epoch+1,0,[]⟩,(w_ s id).epoch+1,0):=by
 unfold oI at h ⊢
 by_cases c1:¬okN id∨(w_ s id).epoch=1099511627776
 ·rw[if_pos c1] at h;cases h
 rw[if_neg c1] at h ⊢
 by_cases c2:qG s id=false∧50≤s.length
 ·rw[if_pos c2] at h;cases h
 rw[if_neg c2]
 exact⟨Decidable.of_not_not fun hh=>c1 (.inl hh),fun hh=>c1 (.inr hh),c2,rfl⟩
theorem qf0{s:List Pr}(h:aH s){id:Int}(he:(oI s id).2.2=0):aH (oI s id).1:=by
 obtain⟨h1,h2,h3,e⟩:=mq0 he
 rw[e]
 have hsm:=UV h (id:=id)
 refine ak0 h ⟨⟨h1.1,by have:=h1.2;show id≤_;omega⟩,⟨by show 0≤(w_ s id).epoch+1;omega,by show (w_ s id).epoch+1≤_;omega⟩,(show inP 0 by decide),rfl,fun i h=>absurd h (Nat.not_lt_zero i),fun i h=>absurd h (Nat.not_lt_zero i)⟩ ?_
 show qG s id=true∨_
 cases e:qG s id
 ·right
  exact Nat.lt_of_not_le fun hh=>h3 ⟨e,hh⟩
 ·exact .inl rfl
theorem jm0:aH []:=⟨fun p hp=>(by cases hp),fun i h=>absurd h (Nat.not_lt_zero i),Nat.zero_le _⟩
abbrev KD:=R9
def lG0(n:Int):KD:=⟨0,n,⟨#[]⟩⟩
def ws0(s:ByteArray):KD:=⟨1,0,s⟩
def Of0(b:Bool):KD:=⟨2,if b then 1 else 0,⟨#[]⟩⟩
def ET(v:KD):Bool:=if v.kind=0 then decide (v=lG0 v.n) else if v.kind=1 then decide (v=ws0 v.s)&&decide ((v.s.size:Int)≤200) else decide (v=Of0 false)||decide (v=Of0 true)
def qV(l:List KD):Bool:=decide ((l.length:Int)≤12)&&l.all ET
section
variable {B:Base} {w:World}
theorem IM0(n:Int):Gives prog B (Z0 NW #[.int .i64 n]) (lG0 n).v:=by
 refine Gives.intro fun B' w K base h k=>?_
 refine wY.up ?_
 unfold wY.pt
 refine h.alloc YK fun o w1 h=>?_
 rw[oP]
 refine h.xI 0 (ds:=(lG0 n).cs.toArray) rfl Z7 rfl rfl (fun v hv=>Enc.one (lG0 n) v hv) fun w2 h=>?_
 rw[CJ h 0 rfl Z7 rfl]
 exact k _ _ h
theorem RJ0(s:ByteArray):Gives prog B (Z0 CV #[.string s]) (ws0 s).v:=by
 refine Gives.intro fun B' w K base h k=>?_
 refine zW.up ?_
 unfold zW.pt
 refine h.alloc YK fun o w1 h=>?_
 rw[ed0]
 refine h.xI 0 (ds:=(ws0 s).cs.toArray) rfl Z7 rfl rfl (fun v hv=>Enc.one (ws0 s) v hv) fun w2 h=>?_
 rw[CJ h 0 rfl Z7 rfl]
 exact k _ _ h
theorem fy0(b:Bool):Gives prog B (Z0 wR #[.bool b]) (Of0 b).v:=by
 refine Gives.intro fun B' w K base h k=>?_
 refine xW.up ?_
 unfold xW.pt
 refine h.alloc YK fun o w1 h=>?_
 rw[Q5]
 refine⟨fun e=>?_,fun e=>?_⟩<;>subst e
 ·rw[oP]
  refine h.xI 0 (ds:=(Of0 true).cs.toArray) rfl Z7 rfl rfl (fun v hv=>Enc.one (Of0 true) v hv) fun w2 h=>?_
  rw[CJ h 0 rfl Z7 rfl]
  exact k _ _ h
 ·rw[Jh0]
  refine h.xI 0 (ds:=(Of0 false).cs.toArray) rfl Z7 rfl rfl (fun v hv=>Enc.one (Of0 false) v hv) fun w2 h=>?_
  rw[CJ h 0 rfl Z7 rfl]
  exact k _ _ h
theorem nG0(v:KD):Gives prog B (Z0 rU #[v.v]) (.bool (ET v)):=by
 refine Gives.intro fun B' w K base h k=>?_
 refine mU.up ?_
 unfold mU.pt
 refine h.box fun o w1 h=>?_
 have h:Rel B' w1 [O1 o R3 v.cs.toArray]:=h
 have ht:=h.tick
 unfold ET at k
 simp -zeta only[U0 CU,U0 WY,U0 ZP,Nat.add_zero,Nat.zero_add,h.ld 0 rfl F3 (o:=0) rfl,O6,K3,ht.Q9 0 rfl Z7 rfl,ht.ld 0 rfl F3 (o:=1) rfl,ht.ld 0 rfl V6 (o:=2) rfl]
 refine⟨fun c0=>?_,fun c0=>?_⟩
 ·rw[if_pos c0] at k
  refine ht.ask (fun B2 own base2=>IM0 v.n) fun w2 h=>?_
  refine⟨h.uX 0 rfl Z7 rfl,?_⟩
  rw[show (Value.agg v.cs.toArray)=v.v from rfl,CR]
  exact k _ _ h
 rw[if_neg c0] at k
 refine⟨fun c1=>?_,fun c1=>?_⟩
 ·rw[if_pos c1] at k
  refine ht.ask (fun B2 own base2=>RJ0 v.s) fun w2 h=>?_
  refine⟨h.uX 0 rfl Z7 rfl,?_⟩
  rw[show (Value.agg v.cs.toArray)=v.v from rfl,CR,K3]
  refine⟨fun c2=>?_,fun c2=>?_⟩
  ·rw[decide_eq_true c2,Bool.true_and] at k
   simp -zeta only[h.ld 0 rfl V6 (o:=2) rfl,WC C8,gD]
   exact k _ _ h
  ·rw[decide_eq_false c2,Bool.false_and] at k
   exact k _ _ h
 rw[if_neg c1] at k
 refine ht.ask (fun B2 own base2=>fy0 false) fun w2 h=>?_
 refine⟨h.uX 0 rfl Z7 rfl,?_⟩
 rw[show (Value.agg v.cs.toArray)=v.v from rfl,CR,K3]
 refine⟨fun c2=>?_,fun c2=>?_⟩
 ·rw[decide_eq_true c2,Bool.true_or] at k
  exact k _ _ h
 ·rw[decide_eq_false c2,Bool.false_or] at k
  rw[h.Q9 0 rfl Z7 rfl]
  refine h.ask (fun B2 own base2=>fy0 true) fun w3 h=>?_
  refine⟨h.uX 0 rfl Z7 rfl,?_⟩
  rw[show (Value.agg v.cs.toArray)=v.v from rfl,CR]
  exact k _ _ h
theorem WK0(v:KD):Gives prog B (aA (.func (.func OP) #[] #[]) #[Enc.val v]) (.bool (!ET v)):=by
 refine Gives.intro fun B' w K base h k=>?_
 refine dH ?_
 refine UG.up (v0:=v.v) (UG.call ?_)
 unfold UG.pt
 refine h.box fun o w1 h=>?_
 have h:Rel B' w1 [O1 o R3 v.cs.toArray]:=h
 rw[h.Q9 0 rfl Z7 rfl]
 refine h.ask (fun B2 own base2=>nG0 v) fun w2 h=>?_
 rw[V8]
 exact k _ _ h
theorem Jf0{u:Value}{l:List KD}(r:Q4 u l B):Gives prog B (Z0 vF #[u]) (.bool (qV l)):=by
 refine Gives.intro fun B' w K base h k=>?_
 replace r:=base r
 refine VO.up ?_
 unfold VO.pt
 unfold qV at k
 simp -zeta only[Q4.len r M_,gD,K3]
 refine⟨fun c=>?_,fun c=>?_⟩
 ·rw[decide_eq_true c,Bool.true_and] at k
  refine h.ask (v := .bool (l.all ET)) (fun B2 own base2=>?_) fun w1 h=>k _ _ h
  refine Gives.intro fun B3 w K base3 h k=>?_
  refine xY.up ?_
  unfold xY.pt
  refine h.ask (fun B4 own base4=>kJ (base4 (base3 (base2 r))) (by omega) (fun v=>!ET v) fun B5 base5 x _=>WK0 x) fun w1 h=>?_
  rw[V8]
  have e:(!l.any fun v=>!ET v)=l.all ET:=by
   rw[List.not_any_eq_all_not]
   simp
  rw[e]
  exact k _ _ h
 ·rw[decide_eq_false c,Bool.false_and] at k
  exact k _ _ h
theorem gv0{u:Value}{l:List KD}(r:Q4 u l B)(_:l.length≤4611686018427387904):Gives prog B (Z0 vF #[u]) (.bool (qV l)):=Jf0 r
end
abbrev FB0:=ZK
abbrev KnD:=FI
abbrev EnD:=PD
structure Kn where
 source:ByteArray
 schema:Int
 cols:List FB0
abbrev KnL:=List (Kn×SV)
abbrev Kn.raw(k:Kn)(v:SV):KnD:=⟨k.source,k.schema,v⟩
def ML(L:KnL):List KnD:=L.map fun k=>k.1.raw k.2
def db0(L:KnL):Dat:=Dat.all L fun k=>Q4 k.2.1 k.1.cols
def iF(u:Value)(s:List Kn):Dat:=⟨fun B=>∃L:KnL,L.map (·.1)=s∧Q4 u (ML L) B∧db0 L B,fun hl ⟨L,h1,h2,h3⟩=>⟨L,h1,Dat.mono _ hl h2,Dat.mono _ hl h3⟩⟩
def Au0(src:ByteArray)(schema:Int)(k:Kn):Bool:=decide (k.source=src)&&decide (k.schema=schema)
def kb0(r:List KD)(cs:List FB0):Bool:=decide (r.map (·.kind)=cs.map (·.type_))
def eZ(s:List Kn)(src:ByteArray)(schema:Int)(r:List KD):Int:=match s.find? (Au0 src schema) with
 | none=>17
 | some k=>if kb0 r k.cols=true∧qV r=true then 0 else 16
section
variable {B:Base} {w:World}
theorem FH0{b:Nat}{en:EnD}(hc:O1 b Y1 en.cs.toArray B)(x:KnD):Gives prog B (aA (.func (.func MC) #[] #[.pointer (some ⟨b,0,none⟩)]) #[Enc.val x]) (.bool (decide (x.source=en.source)&&decide (x.schema=en.schema))):=by
 refine Gives.intro fun B' w K base h k=>?_
 replace hc:=base hc
 refine dH ?_
 refine H_.up (k0:=x.v) (t1 := .pointer (some ⟨b,0,none⟩)) (H_.call ?_)
 unfold H_.pt
 refine h.box fun o w1 h=>?_
 have h:Rel B' w1 [O1 o Y7 x.cs.toArray]:=h
 simp -zeta only[U0 sk0,U0 uk0,U0 pM,U0 YP,Nat.add_zero,Nat.zero_add,h.ld 0 rfl V6 (o:=0) rfl,h.ld 0 rfl F3 (o:=1) rfl,O1.ld (h.K6 hc) V6 (o:=4) rfl,O1.ld (h.K6 hc) F3 (o:=5) rfl,WT,K3]
 refine⟨fun c=>?_,fun c=>?_⟩
 ·rw[decide_eq_true c,Bool.true_and] at k
  rw[O6]
  exact k _ _ h
 ·rw[decide_eq_false c,Bool.false_and] at k
  exact k _ _ h
theorem LH0(v:KD)(c:FB0):Gives prog B (aA (.func (.func NC) #[] #[]) #[Enc.val v,Enc.val c]) (.bool (decide (v.kind=c.type_))):=by
 refine Gives.intro fun B' w K base h k=>?_
 refine dH ?_
 refine I_.up (v0:=v.v) (c1:=c.v) (I_.call ?_)
 unfold I_.pt
 refine h.box fun o w1 h=>?_
 refine h.box fun o2 w2 h=>?_
 have h:Rel B' w2 [O1 o R3 v.cs.toArray,O1 o2 cB c.cs.toArray]:=h
 simp -zeta only[U0 CU,U0 kq0,Nat.add_zero,Nat.zero_add,h.ld 0 rfl F3 (o:=0) rfl,h.ld 1 rfl F3 (o:=1) rfl,O6]
 exact k _ _ h
theorem zn0{u v:Value}{l:List KD}{m:List FB0}(r:Q4 u l B)(q:Q4 v m B)(hl:l.length≤4611686018427387904):Gives prog B (Z0 x9 #[u,v,.func (.func NC) #[] #[]]) (.bool (kb0 l m)):=by
 refine Gives.intro fun B' w K base h k=>?_
 replace r:=base r
 replace q:=base q
 refine o8.up ?_
 unfold o8.pt
 have no:∀w' τ,Rel B' w' τ→l.map (·.kind)≠m.map (·.type_)→K (.bool false) w':=fun w' τ h hn=>by
  rw[show kb0 l m=false from decide_eq_false hn] at k
  exact k _ _ h
 simp -zeta only[Q4.len r M_,Q4.len q QO,X7,K5,K3]
 refine⟨fun he=>?_,fun hne=>no _ _ h fun hh=>hne (by have:=congrArg List.length hh;rw[List.length_map,List.length_map] at this;rw[this])⟩
 refine M6 (fun x w'=>∃i:Nat,i≤l.length∧x=(.int .i64 i,())∧(∀j (h1:j<l.length) (h2:j<m.length),j<i→l[j].kind=m[j].type_)∧Rel B' w' []) (fun x _=>l.length-(match x.1 with | .int _ n=>n.toNat | _=>0))
  ⟨0,Nat.zero_le _,rfl,fun j _ _ hj=>absurd hj (Nat.not_lt_zero j),h⟩ ?_
 clear h
 rintro x w1 ⟨i,hi,rfl,hin,h⟩ next hnext
 simp -zeta only[D6,K3]
 refine⟨fun hlt=>?_,fun hge=>?_⟩
 ·have hil:i<l.length:=by omega
  have him:i<m.length:=by omega
  obtain⟨g,o,hx,hc⟩:=Q4.idx r M_ (P:=prog) hil
  obtain⟨g2,o2,hx2,hc2⟩:=Q4.idx q QO (P:=prog) him
  have hc:F6 g o l[i].cs B':=hc
  have hc2:F6 g2 o2 m[i].cs B':=hc2
  rw[hx,F6.Q9 (h.K6 hc) Z7 rfl]
  refine h.r9 (ds:=l[i].cs.toArray) YK rfl Z7 rfl (fun v hv=>Enc.one l[i] v hv) fun a w3 h=>?_
  rw[hx2,F6.Q9 (h.K6 hc2) qZ rfl]
  refine h.r9 (ds:=m[i].cs.toArray) yB0 rfl qZ rfl (fun v hv=>Enc.one m[i] v hv) fun a2 w5 h=>?_
  have h:Rel B' w5 [O1 a R3 l[i].cs.toArray,O1 a2 cB m[i].cs.toArray]:=h
  rw[h.Q9 0 rfl Z7 rfl,h.Q9 1 rfl qZ rfl]
  refine h.ask (fun B2 own base2=>LH0 l[i] m[i]) fun w6 h=>?_
  rw[V8,K5,K3]
  refine⟨fun c=>?_,fun c=>no _ _ h fun hh=>c ?_⟩
  ·rw[V5,D5 (by omega) (by omega)]
   refine hnext _ _ ⟨i+1,hil,rfl,fun j h1 h2 hj=>?_,h.nil⟩ (by simp only;omega)
   by_cases e:j=i
   ·subst e;exact c
   ·exact hin j h1 h2 (by omega)
  ·have h1:(l.map (·.kind))[i]'(by rw[List.length_map];exact hil)=(m.map (·.type_))[i]'(by rw[List.length_map];exact him):=by simp only[hh]
   simpa using h1
 ·have:l.map (·.kind)=m.map (·.type_):=List.ext_getElem (by rw[List.length_map,List.length_map];omega) fun j h1 h2=>by
   rw[List.length_map] at h1 h2
   simp only[List.getElem_map]
   exact hin j h1 h2 (by omega)
  rw[show kb0 l m=true from decide_eq_true this] at k
  exact k _ _ h
end
end Go.Proofs.YtngbebnhegcokaaGreatDoor
