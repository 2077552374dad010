/-
  Part 4 of the proof that TopRetained holds, for the parts that follow; made small by program out of longer texts. No condition.
-/
import Derived.Deep.DeepHandedRow
import Derived.Deep.Slices
import Derived.Deep.Strs
import Derived.Ground.GgzProg
import Derived.Ground.Names2Prog
import Derived.Ground.NamesProg
import Derived.JoinedCond
import Derived.KernelRfl
import Derived.Laws.BytesString
import Derived.Laws.Externs
import Derived.Lib.AtoiAll
import Derived.Lib.AtoiAllCases
import Derived.Lib.ItoaNum
import Derived.Lib.LaidTab
import Derived.Lib.RowBridge
import Derived.Maps.RangeRun
import Derived.OpenShut
import Derived.OrdersHeld
import Derived.ProofKit
import Derived.Scope
import Derived.Shelf.Lay
import Derived.Shelf.SlIterI.Nil
import Derived.Shelf.SlMaps.Clone
import Derived.Shelf.Slices.CompactI
import Derived.Shelf.Slices.In.SortNone
import Derived.Shelf.Small.Strs
import Derived.Shelf.Small.Wraps
import Derived.Shelf.Sort.Plain
import Derived.Shelf.Strconv.AtoiAll
import Derived.Shelf.Strconv.Itoa3
import Derived.Shelf.Strings.BuilderK
import Derived.Test.YtngbebnhegcokaaGreatDoorCards
import Derived.Test.YtngbebnhegcokaaGreatDoorProg
import Derived.Test.YtngbebnhegcokaaGreatDoorRows
import Derived.Test.YtngbebnhegcokaaGreatDoorTie
import Derived.WalkKit
import Derived.WideLaws
import Derived.Test.YtngbebnhegcokaaGreatDoorMaC
namespace Go.Proofs.YtngbebnhegcokaaGreatDoor
open Go.RowKit
set_option maxRecDepth 100000
structure CS where
 slot:Int
 value:ByteArray
 sure:Bool
def c0S:CS:=⟨0,⟨#[]⟩,false⟩
def ZQ(k:Int):Int:=if k=2 then 131072 else 64
def mW(k n:Nat):List UInt8:=[UInt8.ofNat k,UInt8.ofNat n,UInt8.ofNat (n / 256),UInt8.ofNat (n / 65536),UInt8.ofNat (n / 16777216)]
def od0(l:List UInt8):Nat:=(l.getD 1 0).toNat+256 * (l.getD 2 0).toNat+65536 * (l.getD 3 0).toNat+16777216 * (l.getD 4 0).toNat
def Bq0(l:List UInt8):Nat→Nat
 | 0=>0
 | j+1=>Bq0 l j * 256+(l.getD (4-j) 0).toNat
theorem IF0(l:List UInt8):Bq0 l 4=od0 l:=by
 show (((0 * 256+(l.getD 4 0).toNat) * 256+(l.getD 3 0).toNat) * 256+(l.getD 2 0).toNat) * 256+(l.getD 1 0).toNat=_
 unfold od0
 omega
theorem Ro0(x:UInt8):x.toNat<256:=x.toNat_lt
theorem BC0(l:List UInt8)(j:Nat)(hj:j≤4):Bq0 l j≤4294967296:=by
 have h0:=Ro0 (l.getD 4 0)
 have h1:=Ro0 (l.getD 3 0)
 have h2:=Ro0 (l.getD 2 0)
 have h3:=Ro0 (l.getD 1 0)
 have:j=0∨j=1∨j=2∨j=3∨j=4:=by omega
 rcases this with rfl | rfl | rfl | rfl | rfl
 ·exact Nat.zero_le _
 ·show 0 * 256+(l.getD 4 0).toNat≤_;omega
 ·show (0 * 256+(l.getD 4 0).toNat) * 256+(l.getD 3 0).toNat≤_;omega
 ·show ((0 * 256+(l.getD 4 0).toNat) * 256+(l.getD 3 0).toNat) * 256+(l.getD 2 0).toNat≤_;omega
 ·show (((0 * 256+(l.getD 4 0).toNat) * 256+(l.getD 3 0).toNat) * 256+(l.getD 2 0).toNat) * 256+(l.getD 1 0).toNat≤_;omega
def Ts0(s:DS)(f:Int)(l:List UInt8):Option CS×Int :=
 if l.length<5 then(none,2) else if l.getD 0 0≠1∧l.getD 0 0≠2 then(none,2) else if 65536<od0 l then(none,2)
 else if(LD s f (ZQ (l.getD 0 0).toNat) (od0 l)).2≠0 then(none,(LD s f (ZQ (l.getD 0 0).toNat) (od0 l)).2)
 else if(LD s f (ZQ (l.getD 0 0).toNat) (od0 l)).1.size<od0 l then(none,2)
 else(some ⟨(l.getD 0 0).toNat,(LD s f (ZQ (l.getD 0 0).toNat) (od0 l)).1,false⟩,0)
def EQ(s:DS)(f:Int):Option CS×Int :=
 if(LD s f 0 5).2≠0 then(none,(LD s f 0 5).2) else if(LD s f 0 5).1=⟨#[]⟩ then(some c0S,0) else if(bl (LD s f 0 5).1).getD 0 0=0 then(some c0S,0)
 else Ts0 s f (bl (LD s f 0 5).1)
theorem FY(s:DS)(f a n:Int):(LD s f a n).1.size≤n.toNat:=by
 unfold LD
 split
 ·exact Nat.zero_le _
 ·split
  ·exact Nat.zero_le _
  ·split
   ·exact Nat.zero_le _
   ·show (ofL _).size≤_
    rw[Q_,List.length_take]
    omega
def UF(st:CS):Int:=if st.slot=1 then 2 else 1
def OO(s:DS)(st:CS)(f:Int):DS×Int:=if st.sure=false∧0<st.slot then L9 s f else(s,0)
def qI(st:CS):CS:={ st with sure:=st.sure||decide (0<st.slot) }
def mJ(st:CS)(v:ByteArray):ByteArray:=ofL (mW (UF st).toNat v.size)
def cr0(s:DS)(st:CS)(f:Int)(v:ByteArray):(DS×CS)×Int :=
 if(fB s f 0 (mJ st v)).2≠0 then(((fB s f 0 (mJ st v)).1,st),(fB s f 0 (mJ st v)).2)
 else(((L9 (fB s f 0 (mJ st v)).1 f).1,⟨UF st,v,decide ((L9 (fB s f 0 (mJ st v)).1 f).2=0)⟩),(L9 (fB s f 0 (mJ st v)).1 f).2)
def set2(s:DS)(st:CS)(f:Int)(v:ByteArray):(DS×CS)×Int:=if(L9 s f).2≠0 then(((L9 s f).1,st),(L9 s f).2) else cr0 (L9 s f).1 st f v
def set1(s:DS)(st:CS)(f:Int)(v:ByteArray):(DS×CS)×Int:=if(fB s f (ZQ (UF st)) v).2≠0 then(((fB s f (ZQ (UF st)) v).1,st),(fB s f (ZQ (UF st)) v).2) else set2 (fB s f (ZQ (UF st)) v).1 st f v
def CX(s:DS)(st:CS)(f:Int)(v:ByteArray):(DS×CS)×Int :=
 if 65536<v.size then((s,st),6) else if(OO s st f).2≠0 then(((OO s st f).1,st),(OO s st f).2) else set1 (OO s st f).1 (qI st) f v
theorem yY(s:DS)(st:CS)(f:Int):(OO s st f).1.keep=s.keep:=by unfold OO;split;exact cB s f;rfl
theorem kv0(s:DS)(st:CS)(f:Int)(v:ByteArray):(cr0 s st f v).1.1.keep=s.keep:=by
 unfold cr0
 split
 ·exact GG _ _ _ _
 ·show (L9 _ _).1.keep=_;rw[cB,GG]
theorem jv0(s:DS)(st:CS)(f:Int)(v:ByteArray):(set2 s st f v).1.1.keep=s.keep:=by
 unfold set2
 split
 ·exact cB _ _
 ·rw[kv0,cB]
theorem gv0(s:DS)(st:CS)(f:Int)(v:ByteArray):(set1 s st f v).1.1.keep=s.keep:=by
 unfold set1
 split
 ·exact GG _ _ _ _
 ·rw[jv0,GG]
theorem Ki0(s:DS)(st:CS)(f:Int)(v:ByteArray):(CX s st f v).1.1.keep=s.keep:=by
 unfold CX
 split
 ·rfl
 ·split
  ·exact yY _ _ _
  ·rw[gv0,yY]
theorem qW(st:CS):UF st=1∨UF st=2:=by unfold UF;split;exact .inr rfl;exact .inl rfl
theorem wrap_u8(m:Nat):IntKind.u8.wrap (m:Int)=((UInt8.ofNat m).toNat:Int):=by
 have:(UInt8.ofNat m).toNat=m % 256:=by simp
 rw[this]
 simp [IntKind.wrap,IntKind.bits,IntKind.signed]
theorem FC0(n b:Nat)(hn:n<1099511627776)(hb:b<256):IntKind.wrap .i64 (BitVec.ofInt IntKind.i64.bits ((n * 256:Nat):Int) ||| BitVec.ofInt IntKind.i64.bits (b:Int)).toNat=((n * 256+b:Nat):Int):=by
 have h1:(n * 256) ||| b=n * 256+b:=by
  have:=Nat.shiftLeft_add_eq_or_of_lt (i:=8) (b:=b) (by omega) n
  rw[Nat.shiftLeft_eq] at this
  exact this.symm
 rw[BitVec.toNat_or,BitVec.ofInt_natCast,BitVec.ofInt_natCast,BitVec.toNat_ofNat,BitVec.toNat_ofNat]
 show IntKind.wrap .i64 (((n * 256 % 2 ^ 64) ||| (b % 2 ^ 64):Nat):Int)=_
 rw[Nat.mod_eq_of_lt (by omega),Nat.mod_eq_of_lt (by omega),h1]
 exact E5 (by omega) (by omega)
section
variable {P:Program} {Kp:Value→Prop} {s:ByteArray} {T:TypeId}
theorem am0{z:Int}(i:Nat)(hT:P.underlying T=some .string)(hi:i<s.size)(hz:z=i:=by rfl):M0 P (IY T (.string s) (.int .i64 z)) Kp=Kp (.int .u8 ((bl s).getD i 0).toNat):=by
 subst hz
 rw[mD0 hT hi]
 have:(bl s).getD i 0=(bl s)[i]'(by rw[B_];exact hi):=by
  rw[List.getD_eq_getElem?_getD,List.getElem?_eq_getElem (by rw[B_];exact hi)];rfl
 rw[this]
theorem iG0{T:TypeId}{xo yo:Operand}{x:UInt8}(n:Nat)(hn:n<256):M0 P (V3 .eql T xo yo (.int .u8 x.toNat) (.int .u8 (n:Int))) Kp=Kp (.bool (decide (x=UInt8.ofNat n))):=by
 rw[F7]
 congr 2
 refine decide_eq_decide.2 ⟨fun h=>UInt8.toNat_inj.1 ?_,fun h=>?_⟩
 ·have:(UInt8.ofNat n).toNat=n % 256:=by simp
  omega
 ·rw[h]
  have:(UInt8.ofNat n).toNat=n % 256:=by simp
  omega
end
section
variable {B:Base} {w:World} {p:Nat} {s:DS} {kv:Value}
theorem Fn0{k:Nat}{t:ByteArray}(hs:t.size≤1000000):Gives Tryz.prog B (Z0 nP #[.int .i64 k,.string t]) (.string (ofL (mW k t.size))):=by
 refine Gives.intro fun B' w K base h fin=>?_
 refine JS.up ?_
 unfold JS.pt
 have hb:=B_ t
 rw[jU IV OW,wrap_u8]
 refine h.XH (α:=UInt8) (UInt8.ofNat k) jN (by decide) fun v1 w1 h=>?_
 rw[aK K8,hb]
 refine F6 (fun x w'=>∃(j:Nat) (v:Value),j≤4∧x=(v,.int .i64 ((t.size / 256 ^ j:Nat):Int),())∧Rel B' w' [Y3 p_ v ((mW k t.size).take (j+1))]) (fun x _=>5-(match x.1 with | .slice _ n _=>n | _=>0))
  ⟨0,v1,by omega,by simp,h⟩ ?_
 clear h
 rintro x w2 ⟨j,v,hj,rfl,h⟩ next hnext
 have hl:((mW k t.size).take (j+1)).length=j+1:=by rw[List.length_take];show min (j+1) 5=j+1;omega
 obtain⟨g,cap,hv⟩:=h.open_ (i:=0) rfl (by rw[hl];omega)
 have hr:=Y3.read (h.here (i:=0) rfl)
 simp -zeta only[O4.len hr jN,G6,K3]
 rw[hl]
 refine⟨fun hlt=>?_,fun hge=>?_⟩
 ·rw[jU IV OW,wrap_u8]
  refine h.WS (α:=UInt8) 0 rfl (UInt8.ofNat (t.size / 256 ^ j)) jN (by decide) (by rw[hl];omega) (by rw[hl];omega) fun v2 w3 h=>?_
  have e:(mW k t.size).take (j+1)++[UInt8.ofNat (t.size / 256 ^ j)]=(mW k t.size).take (j+2):=by
   have:j=0∨j=1∨j=2∨j=3:=by omega
   rcases this with rfl | rfl | rfl | rfl<;>simp [mW]
  have h:Rel B' w3 [Y3 p_ v2 ((mW k t.size).take (j+1)++[UInt8.ofNat (t.size / 256 ^ j)])]:=h
  rw[e] at h
  rw[QW (by decide)]
  have e2:(((t.size / 256 ^ j:Nat):Int).fdiv (2 ^ min (8:Int).toNat IntKind.i64.bits))=((t.size / 256 ^ (j+1):Nat):Int):=by
   show (((t.size / 256 ^ j:Nat):Int).fdiv 256)=_
   rw[Int.fdiv_eq_ediv_of_nonneg _ (by omega),Nat.pow_succ,←Nat.div_div_eq_div_mul]
   omega
  rw[e2]
  have hl2:((mW k t.size).take (j+2)).length=j+2:=by rw[List.length_take];show min (j+2) 5=j+2;omega
  obtain⟨g2,cap2,hv2⟩:=h.open_ (i:=0) rfl (by rw[hl2];omega)
  refine hnext _ _ ⟨j+1,v2,by omega,rfl,h⟩ ?_
  rw[hv,hv2]
  simp only
  omega
 ·have hj4:j=4:=by omega
  subst hj4
  exact vC (Mm0 (Y3.read (h.here (i:=0) rfl)) ia0 OW K8) (fin _ _ h)
abbrev ccs(p:Nat)(f:Int)(st:CS):Array Value:=#[ptr p,.int .i64 f,.int .i64 st.slot,.string st.value,.bool st.sure]
def VT:Dat:=K6 0 0 [.int .i64 0,.int .i64 64,.int .i64 131072]
theorem off_1{Kp:Value→Prop}:M0 Tryz.prog (I5 FM (.pointer (some ⟨0,0,none⟩)) (.int .i64 1)) Kp=Kp (.pointer (some ⟨0,1,none⟩)):=F5 fun w=>by kernel_rfl
theorem off_2{Kp:Value→Prop}:M0 Tryz.prog (I5 FM (.pointer (some ⟨0,0,none⟩)) (.int .i64 2)) Kp=Kp (.pointer (some ⟨0,2,none⟩)):=F5 fun w=>by kernel_rfl
theorem qz0{σ:List Dat}(hT:VT B)(h:Rel B w σ){k:Int}(hk:k=1∨k=2){Kp:Value→Prop} :
  M0 Tryz.prog (I5 FM (.pointer (some ⟨0,0,none⟩)) (.int .i64 k)) (fun t=>Y0 Tryz.prog (X0 Q0 t) w Kp)=Kp (.int .i64 (ZQ k)):=by
 have hT:K6 0 0 [.int .i64 0,.int .i64 64,.int .i64 131072] B:=hT
 rcases hk with rfl | rfl
 ·rw[off_1]
  exact K6.ld (h.L6 hT) Y2 (j:=1) rfl
 ·rw[off_2]
  exact K6.ld (h.L6 hT) Y2 (j:=2) rfl
theorem QD0{c:Nat}{f:Int}{st:CS}(hc:O1 c U4 (ccs p f st) B):Gives Tryz.prog B (Z0 vM #[ptr c]) (.tuple #[.string st.value,.bool (decide (0<st.slot))]):=by
 refine Gives.intro fun B' w K base h k=>?_
 replace hc:=base hc
 refine rP.up ?_
 unfold rP.pt
 have h:=h.tick
 simp -zeta only[J5,U0 NT,U0 nM,Nat.zero_add,O1.ld (h.L6 hc) U6 (o:=3) rfl,O1.ld (h.L6 hc) Y2 (o:=2) rfl,x9]
 exact k _ _ h
theorem Jr0(hT:VT B)(hd:Z6 p s kv B)(f:Int):Makes Tryz.prog B (Z0 yS #[ptr p,.int .i64 f])
  fun v τ=>(∃c st,EQ s f=(some st,0)∧v = .tuple #[ptr c,.int .i64 0]∧τ=[O1 c U4 (ccs p f st)])∨((EQ s f).1=none∧v = .tuple #[.pointer none,.int .i64 (EQ s f).2]∧τ=[]):=by
 refine Makes.intro fun B' w K base h k=>?_
 replace hT:=base hT
 replace hd:=base hd
 refine TW.up ?_
 unfold TW.pt
 have no:∀w' σ e,Rel B' w' σ→EQ s f=(none,e)→K (.tuple #[.pointer none,.int .i64 e]) w':=fun w' σ e h he=>k _ _ _ (.inr ⟨by rw[he],by rw[he],rfl⟩) h.nil
 have yes:∀w' c st,Rel B' w' [O1 c U4 (ccs p f st)]→EQ s f=(some st,0)→K (.tuple #[ptr c,.int .i64 0]) w':=fun w' c st h he=>k _ _ _ (.inl ⟨c,st,he,rfl,rfl⟩) h
 clear k
 rw[ra0]
 refine h.box fun c w1 h=>?_
 have h:Rel B' w1 [O1 c U4 (ccs p f c0S)]:=h
 refine h.ask (fun B2 own base2=>dp0 (base2 hd) f 0 5) fun w2 h=>?_
 unfold EQ at no yes
 have hsz:=FY s f 0 5
 generalize hR:LD s f 0 5=R at no yes hsz
 obtain⟨hd0,e0⟩:=R
 have hsz:hd0.size≤5:=hsz
 dsimp only at no yes
 simp -zeta only[M9,D9,Q7,G5,K3]
 refine⟨fun z=>?_,fun z=>no _ _ _ h (by rw[if_pos z])⟩
 have z:e0=0:=z
 subst z
 rw[if_neg (fun hh=>hh rfl)] at no yes
 rw[VW,K3]
 refine⟨fun e1=>yes _ _ _ h (by rw[if_pos e1]),fun e1=>?_⟩
 rw[if_neg e1] at no yes
 have hpos:=size_pos e1
 have hbl:=B_ hd0
 simp -zeta only[am0 (z:=0) 0 K8 hpos]
 rw[show ((.int .u8 0:Value)) = .int .u8 ((0:Nat):Int) from rfl,iG0 0 (by decide),show UInt8.ofNat 0=0 from rfl,K3]
 refine⟨fun e2=>yes _ _ _ h (by rw[if_pos e2]),fun e2=>?_⟩
 rw[if_neg e2] at no yes
 unfold Ts0 at no yes
 refine P6 fun J hJ=>?_
 replace hJ:(bl hd0).length=5→((bl hd0).getD 0 0=1∨(bl hd0).getD 0 0=2)→J () w2:=by
  intro hl hk
  refine hJ _ _ ?_
  clear hJ
  rw[if_neg (by omega),if_neg (by rintro⟨a,b⟩;rcases hk with hk | hk;exact a hk;exact b hk)] at no yes
  refine F6 (fun x w'=>∃j:Nat,j≤4∧x=(.int .i64 (Bq0 (bl hd0) j),.int .i64 ((4-j:Nat):Int),())∧Rel B' w' [O1 c U4 (ccs p f c0S)]) (fun x _=>(match x.2.1 with | .int _ n=>n.toNat | _=>0))
   ⟨0,by omega,rfl,h⟩ ?_
  clear h
  rintro x w3 ⟨j,hj,rfl,h⟩ next hnext
  have hlt:=BC0 (bl hd0) j hj
  simp -zeta only[x9,K3]
  refine⟨fun hg=>?_,fun hg=>?_⟩
  ·have hb:=Ro0 ((bl hd0).getD (4-j) 0)
   have hw:IntKind.i64.wrap ((Bq0 (bl hd0) j:Int) * 2 ^ min (8:Int).toNat IntKind.i64.bits)=((Bq0 (bl hd0) j * 256:Nat):Int):=by
    show IntKind.i64.wrap ((Bq0 (bl hd0) j:Int) * 256)=_
    rw[E5 (by omega) (by omega)]
    omega
   rw[yB0 (by decide),hw,am0 (4-j) K8 (by omega),jU OW IV,E5 (by omega) (by omega),dx0,FC0 _ _ (by omega) hb,TB,E5 (by omega) (by omega)]
   exact hnext _ _ ⟨j+1,by omega,by rw[show ((4-j:Nat):Int)-1=((4-(j+1):Nat):Int) by omega];rfl,h⟩ (by simp only;omega)
  ·have hj4:j=4:=by omega
   subst hj4
   rw[IF0] at hlt ⊢
   clear hnext hg
   generalize hn:od0 (bl hd0)=n at hlt no yes
   refine⟨fun e3=>no _ _ _ h (by rw[if_pos (by omega)]),fun e3=>?_⟩
   rw[if_neg (by omega)] at no yes
   have hk0:(((bl hd0).getD 0 0).toNat:Int)=1∨(((bl hd0).getD 0 0).toNat:Int)=2:=by
    rcases hk with hk | hk
    ·rw[hk];exact .inl rfl
    ·rw[hk];exact .inr rfl
   rw[jU OW IV]
   generalize (((bl hd0).getD 0 0).toNat:Int)=x at hk0 no yes
   rw[E5 (by omega) (by omega)]
   simp -zeta only[J5,U0 nM,U0 NT,Nat.zero_add]
   refine h.st 0 rfl Y2 (show 2<5 by omega) rfl fun w4 h=>?_
   simp -zeta only[h.ld 0 rfl Y2 (o:=2) rfl]
   rw[qz0 hT h hk0]
   refine h.ask (fun B2 own base2=>dp0 (base2 hd) f (ZQ x) (n:Int)) fun w5 h=>?_
   have hsz2:=FY s f (ZQ x) (n:Int)
   generalize LD s f (ZQ x) (n:Int)=R2 at no yes hsz2
   obtain⟨t,e4⟩:=R2
   dsimp only at no yes
   simp -zeta only[M9,D9]
   refine h.st 0 rfl U6 (show 3<5 by omega) rfl fun w6 h=>?_
   have hbt:=B_ t
   refine P6 fun J2 hJ2=>?_
   simp -zeta only[F7,K3,h.ld 0 rfl U6 (o:=3) rfl,aK K8,G6]
   refine⟨fun e5=>⟨fun e6=>hJ2 _ _ ?_,fun e6=>hJ2 _ _ ?_⟩,fun e5=>hJ2 _ _ ?_⟩
   ·have e5:e4=0:=e5
    subst e5
    rw[if_neg (fun hh=>hh rfl),if_pos (by show t.size<n;omega)] at no
    rw[Q7,decide_eq_false (by decide),Bool.not_false,lC]
    exact no _ _ _ h rfl
   ·have e5:e4=0:=e5
    subst e5
    rw[if_neg (fun hh=>hh rfl),if_neg (by show ¬t.size<n;omega)] at yes
    rw[Q7,decide_eq_true rfl,Bool.not_true,d_]
    exact yes _ c ⟨x,t,false⟩ h rfl
   ·have e5:¬e4=0:=e5
    rw[if_pos e5] at no
    rw[Q7,decide_eq_false e5,Bool.not_false,lC]
    exact no _ _ _ h rfl
 simp -zeta only[aK K8,G6,K3,am0 (z:=0) 0 K8 hpos]
 refine⟨fun e3=>no _ _ _ h (by rw[if_pos (by omega)]),fun e3=>?_⟩
 have h5:(bl hd0).length=5:=by omega
 rw[if_neg (by omega)] at no
 have n1:∀{Kp:Value→Prop} {a b:Operand},M0 Tryz.prog (V3 .neq p_ a b (.int .u8 ((bl hd0).getD 0 0).toNat) (.int .u8 1)) Kp=Kp (.bool (!decide ((bl hd0).getD 0 0=1))):=by
  intro Kp a b
  rw[Q7]
  congr 3
  exact decide_eq_decide.2 ⟨fun h=>UInt8.toNat_inj.1 (by have:(1:UInt8).toNat=1:=rfl;omega),fun h=>by rw[h];rfl⟩
 have n2:∀{Kp:Value→Prop} {a b:Operand},M0 Tryz.prog (V3 .neq p_ a b (.int .u8 ((bl hd0).getD 0 0).toNat) (.int .u8 2)) Kp=Kp (.bool (!decide ((bl hd0).getD 0 0=2))):=by
  intro Kp a b
  rw[Q7]
  congr 3
  exact decide_eq_decide.2 ⟨fun h=>UInt8.toNat_inj.1 (by have:(2:UInt8).toNat=2:=rfl;omega),fun h=>by rw[h];rfl⟩
 rw[n1,G5,K3]
 refine⟨fun k1=>hJ h5 (.inl k1),fun k1=>?_⟩
 rw[n2,G5,K3]
 exact⟨fun k2=>hJ h5 (.inr k2),fun k2=>no _ _ _ h (by rw[if_pos ⟨k1,k2⟩])⟩
end
end Go.Proofs.YtngbebnhegcokaaGreatDoor

namespace Go.Proofs.YtngbebnhegcokaaGreatDoor
open Go.ChangeShapes Go.WideShapes Go.ChangeAt Go.RowKit
set_option maxRecDepth 100000
theorem If0{P:Program}{w:World}:∀{l:List (String×DataW Unit)} {ps:List MemPlace},DataW.LaidVars P w l ps→∀n d,(n,d)∈l →
  ∃g t cs fuel p,P.globalNamed n=some g∧(P.globals[g]?).map (·.type)=some t∧w.var? P n=some cs∧DataW.trod (fun _=>()) P w 0 (fun _=>true) false fuel t cs.toList=some (d,p)
 | [],ps,_,n,d,hm=>by cases hm
 | (n0,d0) :: l,ps,h,n,d,hm=>by
  obtain⟨g,t,cs,fuel,p,q,h1,h2,h3,h4,h5,_⟩:=h
  rcases List.mem_cons.1 hm with e | hm
  ·injection e with e1 e2
   subst e1 e2
   exact⟨g,t,cs,fuel,p,h1,h2,h3,h4⟩
  ·exact If0 h5 n d hm
theorem Dj0{P:Program}{w:World}{n:String}{g:Nat}{cs:Array Value}(hg:P.globalNamed n=some g)(h:w.var? P n=some cs):∃E fz,w.heap[g]? = some (.cells cs E fz):=by
 unfold World.var? at h
 rw[hg] at h
 simp only[Option.bind_some] at h
 split at h
 ·rename_i c E fz hh
  injection h with h
  subst h
  exact⟨E,fz,hh⟩
 ·cases h
theorem td0{P:Program}{w:World}{fuel:Nat}{t:TypeId}{ms:Array (String×TypeId)}{cs:List Value}{nm:String}{x:DataW Unit}{p:List MemPlace}(ht:P.underlying t=some (.interface ms))
  (h:DataW.trod (fun _=>()) P w 0 (fun _=>true) false fuel t cs=some (.iface nm x,p)):∃u v,cs=[.iface u v]:=by
 cases fuel with
 | zero=>simp [DataW.trod] at h
 | succ fuel =>
  match cs with
  | []=>simp [DataW.trod,ht] at h
  | [.iface u v]=>exact⟨u,v,rfl⟩
  | [v]=>cases v<;>first | exact⟨_,_,rfl⟩ | (simp [DataW.trod,ht] at h)
  | a :: b :: r=>simp [DataW.trod,ht] at h
theorem Ii0{P:Program}{W:World}{l:List (String×DataW Unit)}{ps:List MemPlace}(h:DataW.LaidVars P W l ps){n:String}{g:Nat}{t:TypeId}{ms:Array (String×TypeId)}{d:DataW Unit}(hm:(n,d)∈l)(hd:∃nm x,d = .iface nm x)(hg:P.globalNamed n=some g)
  (hty:(P.globals[g]?).map (·.type)=some t) (ht:P.underlying t=some (.interface ms)):∃e:TypeId×Value,fm0 g [.iface e.1 e.2] (EE W):=by
 obtain⟨nm,x,rfl⟩:=hd
 obtain⟨g',t',cs,fuel,p,h1,h2,h3,h4⟩:=If0 h n _ hm
 obtain rfl:=Option.some.inj (hg.symm.trans h1)
 obtain rfl:=Option.some.inj (hty.symm.trans h2)
 obtain⟨u,v,e⟩:=td0 ht h4
 obtain⟨E,fz,hb⟩:=Dj0 hg h3
 refine⟨(u,v),(Array.getElem?_eq_some_iff.1 hb).1,E,fz,?_⟩
 show W.heap[g]? = _
 rw[hb]
 congr 2
 exact Array.toList_inj.1 e
theorem It0{P:Program}{W:World}{l:List (String×DataW Unit)}{ps:List MemPlace}(h:DataW.LaidVars P W l ps){n:String}{g m:Nat}{t e:TypeId}{k:IntKind}{zs:List Int}(hm:(n,Go.Lib.tabData k zs)∈l)(hg:P.globalNamed n=some g)
  (hty:(P.globals[g]?).map (·.type)=some t) (ht:P.underlying t=some (.array m e)) (he:P.underlying e=some (.int k)) (hce:P.cellsOf e=1) (hct:P.cellsOf t=m):fm0 g (zs.map (Value.int k)) (EE W):=by
 obtain⟨g',t',cs,fuel,p,h1,h2,h3,h4⟩:=If0 h n _ hm
 obtain rfl:=Option.some.inj (hg.symm.trans h1)
 obtain rfl:=Option.some.inj (hty.symm.trans h2)
 have e:=Go.Lib.cells_of_tab ht he hce hct h4
 obtain⟨E,fz,hb⟩:=Dj0 hg h3
 refine⟨(Array.getElem?_eq_some_iff.1 hb).1,E,fz,?_⟩
 show W.heap[g]? = _
 rw[hb]
 congr 2
 exact Array.toList_inj.1 e
theorem Az0:(Rows.laid_internal_strconv_uint64pow10:DataW Unit)=Go.Lib.tabData .u64 Go.Lib.pow10Tab:=by kernel_rfl
theorem Mi0{W:World}(h:laidMetH Tryz.prog [("math/bits.deBruijn32tab",Rows.laid_math_bits_deBruijn32tab),("math/bits.deBruijn64tab",Rows.laid_math_bits_deBruijn64tab),("internal/strconv.uint64pow10",Rows.laid_internal_strconv_uint64pow10),("errata/cell.offsets",Rows.laid_errata_cell_offsets),("strconv.ErrRange",Rows.laid_strconv_ErrRange),("strconv.ErrSyntax",Rows.laid_strconv_ErrSyntax)] W):qC (EE W):=by
 have h:laidMet Tryz.prog [("math/bits.deBruijn32tab",Rows.laid_math_bits_deBruijn32tab),("math/bits.deBruijn64tab",Rows.laid_math_bits_deBruijn64tab),("internal/strconv.uint64pow10",Rows.laid_internal_strconv_uint64pow10),("errata/cell.offsets",Rows.laid_errata_cell_offsets),("strconv.ErrRange",Rows.laid_strconv_ErrRange),("strconv.ErrSyntax",Rows.laid_strconv_ErrSyntax)] W:=h
 obtain⟨ps,h,_⟩:=h
 rw[Az0] at h
 have hi:Tryz.prog.underlying 117=some (.interface (Tryz.prog.methodsAt 117)):=by kernel_rfl
 refine⟨It0 h (n:= "internal/strconv.uint64pow10") (g:=4) (t:=328) (e:=292) (m:=20) (List.mem_cons_of_mem _ (List.mem_cons_of_mem _ (List.mem_cons_self))) (by kernel_rfl) (by kernel_rfl) (by kernel_rfl) (by kernel_rfl) (by kernel_rfl) (by kernel_rfl),Ii0 h (n:= "strconv.ErrSyntax") (g:=2) (t:=117) (List.mem_cons_of_mem _ (List.mem_cons_of_mem _ (List.mem_cons_of_mem _ (List.mem_cons_of_mem _ (List.mem_cons_of_mem _ (List.mem_cons_self)))))) ⟨_,_,rfl⟩ (by kernel_rfl) (by kernel_rfl) hi,Ii0 h (n:= "strconv.ErrRange") (g:=3) (t:=117) (List.mem_cons_of_mem _ (List.mem_cons_of_mem _ (List.mem_cons_of_mem _ (List.mem_cons_of_mem _ (List.mem_cons_self))))) ⟨_,_,rfl⟩ (by kernel_rfl) (by kernel_rfl) hi⟩
theorem kz0:(Rows.laid_errata_cell_offsets:DataW Unit)=Go.Lib.tabData .i64 [0,64,131072]:=by kernel_rfl
theorem Jy0{W:World}(h:laidMetH Tryz.prog [("math/bits.deBruijn32tab",Rows.laid_math_bits_deBruijn32tab),("math/bits.deBruijn64tab",Rows.laid_math_bits_deBruijn64tab),("internal/strconv.uint64pow10",Rows.laid_internal_strconv_uint64pow10),("errata/cell.offsets",Rows.laid_errata_cell_offsets),("strconv.ErrRange",Rows.laid_strconv_ErrRange),("strconv.ErrSyntax",Rows.laid_strconv_ErrSyntax)] W):VT (EE W):=by
 have h:laidMet Tryz.prog [("math/bits.deBruijn32tab",Rows.laid_math_bits_deBruijn32tab),("math/bits.deBruijn64tab",Rows.laid_math_bits_deBruijn64tab),("internal/strconv.uint64pow10",Rows.laid_internal_strconv_uint64pow10),("errata/cell.offsets",Rows.laid_errata_cell_offsets),("strconv.ErrRange",Rows.laid_strconv_ErrRange),("strconv.ErrSyntax",Rows.laid_strconv_ErrSyntax)] W:=h
 obtain⟨ps,h,_⟩:=h
 rw[kz0] at h
 obtain⟨hk,E,fz,hh⟩:=It0 h (n:= "errata/cell.offsets") (g:=0) (t:=201) (e:=3) (m:=3) (List.mem_cons_of_mem _ (List.mem_cons_of_mem _ (List.mem_cons_of_mem _ (List.mem_cons_self)))) (by kernel_rfl) (by kernel_rfl) (by kernel_rfl) (by kernel_rfl) (by kernel_rfl) (by kernel_rfl)
 have hh:W.heap[0]? = some (.cells ([0,64,131072].map (Value.int .i64)).toArray E fz):=hh
 refine⟨hk,(Array.getElem?_eq_some_iff.1 hh).1,fun j v hj=>?_⟩
 show W.cell? ⟨0,0+j,none⟩=some v
 rw[Nat.zero_add]
 simp only[World.cell?,hh]
 simpa using hj
noncomputable def Ka0(os:Os):World :=
 let w0:=World.holding Tryz.prog os ⟨#[],#[],[]⟩
 let n0:=w0.heap.size
 let put (g:Nat) (cs:Array Value) (h:Array Obj):Array Obj:=h.modify g fun
   | .cells _ t frozen => .cells cs t frozen
   | o=>o
 { w0 with heap:=(((put 2 #[.iface 336 (.pointer (some ⟨n0+1,0,none⟩))] (put 3 #[.iface 336 (.pointer (some ⟨n0+0,0,none⟩))] (put 0 #[.int .i64 0,.int .i64 64,.int .i64 131072] (put 4 #[.int .u64 1,.int .u64 10,.int .u64 100,.int .u64 1000,.int .u64 10000,.int .u64 100000,.int .u64 1000000,.int .u64 10000000,.int .u64 100000000,.int .u64 1000000000,.int .u64 10000000000,.int .u64 100000000000,.int .u64 1000000000000,.int .u64 10000000000000,.int .u64 100000000000000,.int .u64 1000000000000000,.int .u64 10000000000000000,.int .u64 100000000000000000,.int .u64 1000000000000000000,.int .u64 10000000000000000000] (put 6 #[.int .u8 0,.int .u8 1,.int .u8 56,.int .u8 2,.int .u8 57,.int .u8 49,.int .u8 28,.int .u8 3,.int .u8 61,.int .u8 58,.int .u8 42,.int .u8 50,.int .u8 38,.int .u8 29,.int .u8 17,.int .u8 4,.int .u8 62,.int .u8 47,.int .u8 59,.int .u8 36,.int .u8 45,.int .u8 43,.int .u8 51,.int .u8 22,.int .u8 53,.int .u8 39,.int .u8 33,.int .u8 30,.int .u8 24,.int .u8 18,.int .u8 12,.int .u8 5,.int .u8 63,.int .u8 55,.int .u8 48,.int .u8 27,.int .u8 60,.int .u8 41,.int .u8 37,.int .u8 16,.int .u8 46,.int .u8 35,.int .u8 44,.int .u8 21,.int .u8 52,.int .u8 32,.int .u8 23,.int .u8 11,.int .u8 54,.int .u8 26,.int .u8 40,.int .u8 15,.int .u8 34,.int .u8 20,.int .u8 31,.int .u8 10,.int .u8 25,.int .u8 14,.int .u8 19,.int .u8 9,.int .u8 13,.int .u8 8,.int .u8 7,.int .u8 6] (put 5 #[.int .u8 0,.int .u8 1,.int .u8 28,.int .u8 2,.int .u8 29,.int .u8 14,.int .u8 24,.int .u8 3,.int .u8 30,.int .u8 22,.int .u8 20,.int .u8 15,.int .u8 25,.int .u8 17,.int .u8 4,.int .u8 8,.int .u8 31,.int .u8 27,.int .u8 13,.int .u8 23,.int .u8 21,.int .u8 19,.int .u8 16,.int .u8 7,.int .u8 26,.int .u8 12,.int .u8 18,.int .u8 6,.int .u8 11,.int .u8 5,.int .u8 10,.int .u8 9] w0.heap)))))).push (.cells #[.string ⟨#[118,97,108,117,101,32,111,117,116,32,111,102,32,114,97,110,103,101]⟩] 338 (0,0))).push (.cells #[.string ⟨#[105,110,118,97,108,105,100,32,115,121,110,116,97,120]⟩] 338 (0,0))) }
end Go.Proofs.YtngbebnhegcokaaGreatDoor

namespace Go.Proofs.YtngbebnhegcokaaGreatDoor
open Go.RowKit
set_option maxRecDepth 100000
def eF(L:List Dat):Dat:=⟨fun B=>∃G:Nat→Nat,∀(j:Nat) (d:Dat),L[j]? = some d→d ⟨B.W,fun k=>B.keep k∧G k=j⟩,fun {B B'} hl ⟨G,h⟩ =>
 ⟨G,fun j d hj=>d.mono (B:=⟨B.W,fun k=>B.keep k∧G k=j⟩) (B':=⟨B'.W,fun k=>B'.keep k∧G k=j⟩) (fun k (hk:B.keep k∧G k=j) hs=>⟨⟨(hl k hk.1 hs).1,hk.2⟩,(hl k hk.1 hs).2⟩) (h j d hj)⟩⟩
section
variable {L τ:List Dat} {B:Base} {j:Nat} {d:Dat} {w:World}
theorem eF.get(h:eF L B)(hj:L[j]? = some d):d B:=by
 obtain⟨G,h⟩:=h
 exact d.mono (B:=⟨B.W,fun k=>B.keep k∧G k=j⟩) (fun k hk _=>⟨hk.1,rfl⟩) (h j d hj)
open Classical in
open Classical in
theorem eF.push(h:((eF L).star d) B):eF (L++[d]) B:=by
 obtain⟨H,⟨G,h1⟩,h2⟩:=h
 refine⟨fun k=>if H k then G k else L.length,fun i e hi=>?_⟩
 rcases Nat.lt_trichotomy i L.length with c | c | c
 ·rw[List.getElem?_append_left c] at hi
  refine e.mono (B:=⟨B.W,fun k=>(B.keep k∧H k)∧G k=i⟩) (fun k hk _=>⟨⟨hk.1.1,?_⟩,rfl⟩) (h1 i e hi)
  show (if H k then _ else _)=_
  rw[if_pos hk.1.2]
  exact hk.2
 ·subst c
  rw[List.getElem?_append_right (Nat.le_refl _)] at hi
  simp at hi
  subst hi
  refine d.mono (B:=⟨B.W,fun k=>B.keep k∧¬H k⟩) (fun k hk _=>⟨⟨hk.1,?_⟩,rfl⟩) h2
  show (if H k then _ else _)=_
  rw[if_neg hk.2]
 ·rw[List.getElem?_eq_none (by simp;omega)] at hi;cases hi
theorem eF.nil:eF [] B:=⟨fun _=>0,fun j d hj=>by simp at hj⟩
theorem Rel.nS(h:Rel B w (eF L :: τ)):Rel B w (L++τ):=by
 obtain⟨c,h⟩:=h
 obtain⟨G,hG⟩:=h.own 0 _ rfl
 refine⟨fun k=>if c k=0 then 0 else if c k=1 then(if G k<L.length then G k+1 else 0) else c k-1+L.length,h.os,h.tape,h.output,h.size,fun k hk hs=>?_,h.same,fun j d hj=>?_⟩
 ·have:=h.keepc k hk hs
  simp only[this]
  rfl
 ·by_cases hl:j<L.length
  ·rw[List.getElem?_append_left hl] at hj
   refine d.wide (fun k hk hs=>?_) (hG j d hj)
   obtain⟨h1,h2⟩:=hk
   have h1:c k=1:=h1
   have h2:G k=j:=h2
   show (if c k=0 then 0 else if c k=1 then(if G k<L.length then G k+1 else 0) else _)=j+1
   rw[if_neg (by omega),if_pos h1,if_pos (by omega),h2]
  ·rw[List.getElem?_append_right (by omega)] at hj
   refine d.wide (fun k hk hs=>?_) (h.own (j-L.length+1) d (by rw[List.getElem?_cons_succ];exact hj))
   have hk:c k=j-L.length+1+1:=hk
   show (if c k=0 then 0 else if c k=1 then _ else c k-1+L.length)=j+1
   rw[if_neg (by omega),if_neg (by omega)]
   omega
theorem Rel.RL(h:Rel B w (L++τ)):Rel B w (eF L :: τ):=by
 obtain⟨c,h⟩:=h
 refine⟨fun k=>if c k=0 then 0 else if c k≤L.length then 1 else c k-L.length+1,h.os,h.tape,h.output,h.size,fun k hk hs=>?_,h.same,fun j d hj=>?_⟩
 ·have:=h.keepc k hk hs
  simp only[this]
  rfl
 ·cases j with
  | zero =>
   simp at hj
   subst hj
   refine⟨fun k=>c k-1,fun i e hi=>?_⟩
   have hl:i<L.length:=(List.getElem?_eq_some_iff.1 hi).1
   refine e.wide (fun k hk hs=>?_) (h.own i e (by rw[List.getElem?_append_left hl];exact hi))
   have hk:c k=i+1:=hk
   refine⟨?_,?_⟩
   ·show (if c k=0 then 0 else if c k≤L.length then 1 else _)=0+1
    rw[if_neg (by omega),if_pos (by omega)]
   ·show c k-1=i
    omega
  | succ j =>
   rw[List.getElem?_cons_succ] at hj
   refine d.wide (fun k hk hs=>?_) (h.own (L.length+j) d (by rw[List.getElem?_append_right (by omega),Nat.add_sub_cancel_left];exact hj))
   have hk:c k=L.length+j+1:=hk
   show (if c k=0 then 0 else if c k≤L.length then 1 else c k-L.length+1)=j+1+1
   rw[if_neg (by omega),if_neg (by omega)]
   omega
end
section
variable {B:Base} {w:World} {σ τ:List Dat}
theorem Rel.wrap{c:Dat}(h:Rel B w (σ++τ))(hc:∀B':Base,(∀{i:Nat} {d:Dat},τ[i]? = some d→d B')→c B'):Rel B w (σ++[c]):=by
 obtain⟨o,h⟩:=h
 refine⟨fun k=>if o k≤σ.length then o k else σ.length+1,h.os,h.tape,h.output,h.size,fun k hk hs=>?_,h.same,fun j d hj=>?_⟩
 ·have:=h.keepc k hk hs
  simp only[this]
  rfl
 ·rcases Nat.lt_trichotomy j σ.length with hl | hl | hl
  ·rw[List.getElem?_append_left hl] at hj
   refine d.wide (fun k hk hs=>?_) (h.own j d (by rw[List.getElem?_append_left hl];exact hj))
   have hk:o k=j+1:=hk
   show (if o k≤σ.length then o k else σ.length+1)=_
   rw[if_pos (by omega)]
   exact hk
  ·subst hl
   rw[List.getElem?_append_right (Nat.le_refl _)] at hj
   simp at hj
   subst hj
   refine hc _ fun {i e} hi=>?_
   refine e.wide (fun k hk hs=>?_) (h.own (σ.length+i) e (by rw[List.getElem?_append_right (by omega),Nat.add_sub_cancel_left];exact hi))
   have hk:o k=σ.length+i+1:=hk
   show (if o k≤σ.length then o k else σ.length+1)=_
   rw[if_neg (by omega)]
  ·rw[List.getElem?_eq_none (by simp;omega)] at hj;cases hj
theorem Rel.iU{L:List Dat}(h:Rel B w (σ++L)):Rel B w (σ++[eF L]):=by
 obtain⟨o,h⟩:=h
 refine⟨fun k=>if o k≤σ.length then o k else σ.length+1,h.os,h.tape,h.output,h.size,fun k hk hs=>?_,h.same,fun j d hj=>?_⟩
 ·have:=h.keepc k hk hs
  simp only[this]
  rfl
 ·rcases Nat.lt_trichotomy j σ.length with hl | hl | hl
  ·rw[List.getElem?_append_left hl] at hj
   refine d.wide (fun k hk hs=>?_) (h.own j d (by rw[List.getElem?_append_left hl];exact hj))
   have hk:o k=j+1:=hk
   show (if o k≤σ.length then o k else σ.length+1)=_
   rw[if_pos (by omega)]
   exact hk
  ·subst hl
   rw[List.getElem?_append_right (Nat.le_refl _)] at hj
   simp at hj
   subst hj
   refine⟨fun k=>o k - σ.length-1,fun i e hi=>?_⟩
   refine e.wide (fun k hk hs=>?_) (h.own (σ.length+i) e (by rw[List.getElem?_append_right (by omega),Nat.add_sub_cancel_left];exact hi))
   have hk:o k=σ.length+i+1:=hk
   refine⟨?_,?_⟩
   ·show (if o k≤σ.length then o k else σ.length+1)=_
    rw[if_neg (by omega)]
   ·show o k - σ.length-1=i
    omega
  ·rw[List.getElem?_eq_none (by simp;omega)] at hj;cases hj
theorem EW{E:TypeId}{v:Value}{α:Type}[Enc α]{l:List α}(h:Rel B w σ)(i:Nat)(hi:σ[i]? = some (Y3 E v l)):∃x n c,v = .slice x n c:=by
 rcases h.here hi with⟨rfl,_⟩ | ⟨g,cap,_,rfl,_⟩
 ·exact⟨_,_,_,rfl⟩
 ·exact⟨_,_,_,rfl⟩
theorem Rel.ak0{d:Dat}(h:Rel B w σ)(hd:∀B,d B):Rel B w (σ++[d]):=by
 obtain⟨c,h⟩:=h
 refine⟨c,h.os,h.tape,h.output,h.size,h.keepc,h.same,fun j e hj=>?_⟩
 by_cases hl:j<σ.length
 ·rw[List.getElem?_append_left hl] at hj;exact h.own j e hj
 ·rw[List.getElem?_append_right (by omega)] at hj
  have:j=σ.length:=by
   rcases Nat.lt_trichotomy j σ.length with c | c | c
   ·omega
   ·exact c
   ·rw[List.getElem?_eq_none (by simp;omega)] at hj;cases hj
  subst this
  simp at hj
  subst hj
  exact hd _
end
end Go.Proofs.YtngbebnhegcokaaGreatDoor

namespace Go.Proofs.YtngbebnhegcokaaGreatDoor
open Go.RowKit
set_option maxRecDepth 100000
abbrev uB:=NK
abbrev SN:=QG
abbrev nm0:=rR
structure T3 (α:Type) where
 a:α
 b:α
 c:α
 deriving DecidableEq
def T3.get{α:Type}(t:T3 α)(i:Int):α:=if i=0 then t.a else if i=1 then t.b else t.c
def T3.set{α:Type}(t:T3 α)(i:Int)(x:α):T3 α:=if i=0 then { t with a:=x } else if i=1 then { t with b:=x } else { t with c:=x }
abbrev I3(i:Int):Prop:=0≤i∧i<3
theorem I3.cases{i:Int}(h:I3 i):i=0∨i=1∨i=2:=by unfold I3 at h;omega
structure R9 where
 kind:Int
 from_:Int
 to_:Int
 term:Int
 index:Int
 prev:Int
 commit:Int
 yes:Bool
 recs:List uB
 deriving DecidableEq
def R9.raw(m:R9)(v:SV):nm0:=⟨m.kind,m.from_,m.to_,m.term,m.index,m.prev,m.commit,m.yes,v⟩
structure G8 where
 id:Int
 hard:SN
 log:List uB
 role:Int
 commit:Int
 votes:T3 Bool
 next:T3 Int
 mtch:T3 Int
 deriving DecidableEq
abbrev M_(r:G8)(lv:Value):Array Value:=#[.int .i64 r.id,.int .i64 r.hard.term,.int .i64 r.hard.vote,lv,.int .i64 r.role,.int .i64 r.commit,.bool r.votes.a,.bool r.votes.b,.bool r.votes.c,
 .int .i64 r.next.a,.int .i64 r.next.b,.int .i64 r.next.c,.int .i64 r.mtch.a,.int .i64 r.mtch.b,.int .i64 r.mtch.c]
def Rz0(p:Nat)(r:G8)(lv:SV):List Dat:=[O1 p I1 (M_ r lv.1),Y3 X3 lv.1 r.log]
def bA(p:Nat)(r:G8):Dat:=Dat.ex fun lv:SV=>eF (Rz0 p r lv)
def pJ(p:Nat)(r:G8):Dat:=Dat.ex fun lv:SV=>Dat.and (O1 p I1 (M_ r lv.1)) (O4 lv.1 r.log)
def RA:List uB→Int→Int→Bool
 | [],_,_=>true
 | x :: l,least,most=>if x.term<least then false else if most<x.term then false else if 2000<x.data.size then false else RA l x.term most
def bK(l:List uB)(n:Int):Int:=if n=0 then 0 else((l[(n-1).toNat]?).map (·.term)).getD 0
def o8(id:Int):List Int:=[0,1,2].filter fun i=>!decide (i=id)
structure Y9 (r:G8):Prop where
 id:I3 r.id
 term:0≤r.hard.term∧r.hard.term≤1099511627776
 vote : -1≤r.hard.vote∧r.hard.vote≤2
 len:r.log.length≤4000
 sound:RA r.log 1 r.hard.term=true
 role:r.role=0∨r.role=1∨r.role=2
 commit:0≤r.commit∧r.commit≤r.log.length
 next:r.role=2→∀i,I3 i→1≤r.next.get i∧r.next.get i≤r.log.length+1
 mtch:r.role=2→∀i,I3 i→0≤r.mtch.get i∧r.mtch.get i≤r.log.length
def BF0(k f t term index prev commit:Int)(yes:Bool)(v:Value):Value := .agg #[.int .i64 k,.int .i64 f,.int .i64 t,.int .i64 term,.int .i64 index,.int .i64 prev,.int .i64 commit,.bool yes,v]
def wN(v:Value)(L:List R9):Dat:=Dat.ex fun vs:List SV=>Dat.and (Dat.pure (vs.length=L.length)) (Dat.and (O4 v (List.zipWith R9.raw L vs)) (Dat.all (L.zip vs) fun q=>O4 q.2.1 q.1.recs))
section
variable {B:Base} {w:World} {σ τ:List Dat} {p:Nat} {r:G8}
theorem bA.open(h:Rel B w (bA p r :: τ)):∃lv,Rel B w (Rz0 p r lv++τ):=by
 obtain⟨lv,h⟩:=h.ex (i:=0) rfl
 exact⟨lv,Rel.nS h⟩
theorem bA.close(lv:SV)(h:Rel B w (Rz0 p r lv++τ)):Rel B w (bA p r :: τ) :=
 (Rel.RL h).imp (i:=0) (e:=bA p r) rfl fun B hB=>⟨lv,hB⟩
theorem bA.toR(h:bA p r B):pJ p r B:=by
 obtain⟨lv,h⟩:=h
 exact⟨lv,eF.get (j:=0) h rfl,Y3.read (eF.get (j:=1) h rfl)⟩
theorem pJ.jP(h:pJ p r B):∃lv:SV,O1 p I1 (M_ r lv.1) B∧O4 lv.1 r.log B:=h
theorem WI(n a b:Int):Gives Tryz.prog B (Z0 D_ #[.int .i64 n,.int .i64 a,.int .i64 b]) (.bool (decide (a≤n)&&decide (n≤b))):=by
 refine Gives.intro fun B' w K base h k=>?_
 refine NM.up ?_
 unfold NM.pt
 rw[FC,K3]
 refine⟨fun c=>?_,fun c=>?_⟩
 ·rw[WC]
  rw[decide_eq_true (p:=a≤n) (by omega),Bool.true_and] at k
  exact k _ _ h
 ·rw[decide_eq_false (p:=a≤n) (by omega),Bool.false_and] at k
  exact k _ _ h
theorem Ct0{v:Value}{l:List uB}(q:O4 v l B)(hl:l.length≤1000000000)(least most:Int):Gives Tryz.prog B (Z0 BM #[v,.int .i64 least,.int .i64 most]) (.bool (RA l least most)):=by
 refine Gives.intro fun B' w K base h k=>?_
 replace q:=base q
 refine LP.up ?_
 unfold LP.pt
 rw[O4.len q u6]
 refine F6 (fun z w'=>∃(i:Nat) (m:Int),i≤l.length∧z=(.int .i64 m,.int .i64 i,())∧RA (l.drop i) m most=RA l least most∧Rel B' w' []) (fun z _=>l.length-(match z.2.1 with | .int _ n=>n.toNat | _=>0))
  ⟨0,least,Nat.zero_le _,rfl,rfl,h⟩ ?_
 clear h
 rintro z w1 ⟨i,m,hi,rfl,hs,h⟩ next hnext
 rw[G6,K3]
 refine⟨fun hlt=>?_,fun hge=>?_⟩
 case refine_2 =>
  have:i=l.length:=by omega
  subst this
  rw[List.drop_length] at hs
  have hs:true=RA l least most:=hs
  rw[←hs] at k
  exact k _ _ h
 have hil:i<l.length:=by omega
 obtain⟨g,o,hx,hc⟩:=O4.idx q u6 (P:=Tryz.prog) hil
 have hc:K6 g o l[i].cs B':=hc
 rw[hx,K6.r9 (h.L6 hc) S9 rfl]
 rw[List.drop_eq_getElem_cons hil,RA] at hs
 generalize l[i]=x at *
 refine h.R8 (ds:=x.cs.toArray) CL rfl S9 rfl (fun v hv=>Enc.one x v hv) fun b w2 h=>?_
 have h:Rel B' w2 [O1 b X3 x.cs.toArray]:=h
 simp -zeta only[U0 NS,U0 bW,Nat.zero_add]
 rw[h.ld 0 rfl Y2 (o:=0) (v := .int .i64 x.term) rfl,G6,K3]
 refine⟨fun c=>?_,fun c=>?_⟩
 ·rw[if_pos c] at hs;rw[←hs] at k;exact k _ _ h
 rw[if_neg c] at hs
 rw[h.ld 0 rfl Y2 (o:=0) (v := .int .i64 x.term) rfl,x9,K3]
 refine⟨fun c=>?_,fun c=>?_⟩
 ·rw[if_pos c] at hs;rw[←hs] at k;exact k _ _ h
 rw[if_neg c] at hs
 rw[h.ld 0 rfl U6 (o:=1) (v := .string x.data) rfl,LC K8,x9,K3]
 refine⟨fun c=>?_,fun c=>?_⟩
 ·rw[if_pos (by omega)] at hs;rw[←hs] at k;exact k _ _ h
 rw[if_neg (by omega)] at hs
 rw[h.ld 0 rfl Y2 (o:=0) (v := .int .i64 x.term) rfl,Z5,E5 (by omega) (by omega)]
 exact hnext _ _ ⟨i+1,x.term,hil,rfl,hs,h.nil⟩ (by simp only;omega)
theorem gX(a:pJ p r B)(hlen:r.log.length≤1000000){n:Int}(hn:0≤n∧n≤r.log.length):Gives Tryz.prog B (Z0 C_ #[ptr p,.int .i64 n]) (.int .i64 (bK r.log n)):=by
 refine Gives.intro fun B' w K base h k=>?_
 replace a:=base a
 refine LG.up ?_
 unfold LG.pt
 obtain⟨lv,c0,c1⟩:=pJ.jP a
 unfold bK at k
 rw[F7,K3]
 refine⟨fun c=>?_,fun c=>?_⟩
 ·rw[if_pos c] at k;exact k _ _ h
 rw[if_neg c] at k
 obtain⟨m,rfl⟩:∃m:Nat,n=m+1:=⟨(n-1).toNat,by omega⟩
 have hm:m<r.log.length:=by omega
 rw[show ((m:Int)+1-1).toNat=m by omega,List.getElem?_eq_getElem hm] at k
 simp -zeta only[J5,U0 x_,Nat.zero_add]
 rw[O1.ld (h.L6 c0) X5 (o:=3) (v:=lv.1) rfl,TB]
 have hw:IntKind.wrap .i64 ((m:Int)+1-1)=m:=by
  rw[show (m:Int)+1-1=m by omega]
  exact E5 (by omega) (by omega)
 rw[hw]
 obtain⟨g,o,hx,hc⟩:=O4.idx c1 u6 (P:=Tryz.prog) hm
 have hc:K6 g o r.log[m].cs B':=hc
 rw[hx,U0 NS,Nat.add_zero,K6.ld0 (h.L6 hc) Y2 (v := .int .i64 r.log[m].term) rfl]
 exact k _ _ h
theorem dX(a:pJ p r B)(kind to_:Int):Gives Tryz.prog B (Z0 zA #[ptr p,.int .i64 kind,.int .i64 to_]) (BF0 kind r.id to_ r.hard.term 0 0 0 false (.slice none 0 0)):=by
 refine Gives.intro fun B' w K base h k=>?_
 replace a:=base a
 refine jE.up ?_
 unfold jE.pt
 obtain⟨lv,c0,c1⟩:=pJ.jP a
 refine h.alloc vJ fun o w1 h=>?_
 have h:=h.tick
 generalize tick w1=w1 at *
 simp -zeta only[J5,U0 kH,U0 w_,U0 KC,Nat.zero_add,Nat.add_zero]
 rw[O1.ld (h.L6 c0) Y2 (o:=0) (v := .int .i64 r.id) rfl,O1.ld (h.L6 c0) Y2 (o:=1) (v := .int .i64 r.hard.term) rfl,nY]
 refine h.YG 0 (ds:=#[.int .i64 kind,.int .i64 r.id,.int .i64 to_,.int .i64 r.hard.term,.int .i64 0,.int .i64 0,.int .i64 0,.bool false,.slice none 0 0]) rfl Z8 rfl rfl (fun v hv=>?_) fun w2 h=>?_
 ·simp only[List.mem_cons,List.not_mem_nil,or_false] at hv
  rcases hv with rfl | rfl | rfl | rfl | rfl | rfl | rfl | rfl | rfl<;>rfl
 rw[qJ h 0 rfl Z8 rfl]
 exact k _ _ h
theorem qu0{v f:Value}{l:List Int}(hl:l.length≤4611686018427387904)(p:Int→Bool)
  (hf:∀B':Base,(∀{d:Dat},d B→d B')→∀x∈l,Gives Tryz.prog B' (dA f #[Enc.val x]) (.bool (p x))):Does Tryz.prog B (Y3 Q0 v l) (Z0 ED #[v,f]) fun u e' τ=>e'=Y3 Q0 u (l.filter fun x=>!p x)∧τ=[]:=by
 refine Does.intro fun B' w K base h k=>?_
 refine tC.up ?_
 unfold tC.pt
 refine h.ask (fun B2 own base2=>RQ (Y3.read (own (i:=0) rfl)) hl p fun B3 base3 x hx=>hf B3 (fun hd=>base3 (base2 (base hd))) x hx) fun w1 h=>?_
 simp -zeta only[F7,K3]
 refine⟨fun e=>?_,fun e=>?_⟩
 ·have hno:=(wZ (p:=p) (l:=l)).1.1 (by omega)
  have hfl:(l.filter fun x=>!p x)=l:=List.filter_eq_self.2 fun x hx=>by simp [hno x hx]
  rw[hfl] at k
  exact k _ _ _ _ ⟨rfl,rfl⟩ h
 ·obtain⟨m,hm,hml,hmp,hmno⟩:∃m:Nat,jO p l=m∧∃hm:m<l.length,p l[m]=true∧∀x∈l.take m,p x=false:=by
   unfold jO at e ⊢
   split at e
   ·rename_i i hi
    obtain⟨h1,h2,h3⟩:=List.findIdx?_eq_some_iff_getElem.1 hi
    refine⟨i,rfl,h1,h2,fun x hx=>?_⟩
    obtain⟨j,hj,rfl⟩:=List.getElem_of_mem hx
    have:=h3 j (by simp at hj;omega)
    simp at this ⊢
    exact this
   ·exact absurd rfl e
  rw[hm]
  obtain⟨g,cap,rfl⟩:=h.open_ (i:=0) rfl (by omega)
  simp -zeta only[Z5]
  rw[E5 (by omega) (by omega)]
  refine F6 (fun x w'=>∃(i j:Nat) (l':List Int),j≤l.length∧i<j∧x=(.int .i64 i,.int .i64 j,())∧l'.length=l.length∧l'.take i=(l.take j).filter (fun x=>!p x)∧l'.drop j=l.drop j∧Rel B' w' [Y3 Q0 (.slice (some ⟨g,0,none⟩) l.length cap) l'])
   (fun x _=>l.length-(match x.2.1 with | .int _ n=>n.toNat | _=>0)) ⟨m,m+1,l,by omega,by omega,by simp,rfl,?_,rfl,h⟩ ?_
  ·rw[List.take_succ_eq_append_getElem hml,List.filter_append,List.filter_eq_self.2 fun x hx=>by simp [hmno x hx]]
   simp [hmp]
  clear h
  rintro x w2 ⟨i,j,l',hj,hij,rfl,hl',ht,hd,h⟩ next hnext
  have hrd:=Y3.read (h.here (i:=0) rfl)
  simp -zeta only[O4.len hrd N8,hl',G6,K3]
  refine⟨fun hlt=>?_,fun hge=>?_⟩
  ·have hjl:j<l.length:=by omega
   have hjl':j<l'.length:=by omega
   have hel:l'[j]=l[j]:=by
    have h1:(l'.drop j)[0]? = (l.drop j)[0]? := by rw[hd]
    simpa [hjl,hjl'] using h1
   have hd1:l'.drop (j+1)=l.drop (j+1):=by
    have:=congrArg (List.drop 1) hd
    simpa using this
   have hs:(l.take (j+1)).filter (fun x=>!p x)=(l.take j).filter (fun x=>!p x)++(if p l[j]=true then [] else [l[j]]):=by
    rw[List.take_succ_eq_append_getElem hjl,List.filter_append]
    congr 1
    cases hp:p l[j]<;>simp [hp]
   refine P6 fun J hJ=>?_
   replace hJ:∀w' (i:Nat) (l':List Int),i<j+1→l'.length=l.length→l'.take i=(l.take (j+1)).filter (fun x=>!p x)→l'.drop (j+1)=l.drop (j+1)→Rel B' w' [Y3 Q0 (.slice (some ⟨g,0,none⟩) l.length cap) l']→J (.int .i64 i,()) w':=by
    intro w' i l' h1 h2 h3 h4 h5
    refine hJ _ _ ?_
    show M0 _ _ _
    rw[Z5,E5 (by omega) (by omega)]
    exact hnext _ _ ⟨i,j+1,l',by omega,h1,rfl,h2,h3,h4,h5⟩ (by simp only;omega)
   clear hnext
   have hc:=h.elem (α:=Int) (i:=0) (j:=j) rfl hjl'
   rw[hel] at hc
   simp -zeta only[aX (α:=Int) N8 hjl,K6.ld0 hc Y2 (v := .int .i64 l[j]) rfl]
   refine h.ask (fun B2 own base2=>hf B2 (fun hd=>base2 (base hd)) l[j] (List.getElem_mem hjl)) fun w4 h=>?_
   simp -zeta only[V7,G5]
   rw[R5]
   refine⟨fun hp=>?_,fun hp=>?_⟩
   ·refine hJ w4 i l' (by omega) hl' ?_ hd1 (h.take 1)
    rw[hs,if_pos hp,ht,List.append_nil]
   ·simp -zeta only[aX (α:=Int) N8 (show i<l.length by omega)]
    refine h.Rl0 (α:=Int) 0 rfl l[j] (j:=i) (by omega) (f:=0) rfl (by decide) rfl Y2 rfl fun w5 h=>?_
    simp -zeta only[Z5]
    rw[E5 (by omega) (by omega)]
    refine hJ w5 (i+1) (l'.set i l[j]) (by omega) (by simp [hl']) ?_ ?_ (h.take 1)
    ·rw[hs,if_neg (by rw[hp];decide),←ht,List.take_succ_eq_append_getElem (by simp;omega),List.take_set_of_le (Nat.le_refl _)]
     simp
    ·rw[List.drop_set_of_lt (by omega),hd1]
  ·have:j=l.length:=by omega
   subst this
   rw[List.take_length] at ht
   rw[O4.Me0 hrd N8 (lo:=i) (hi:=l'.length) Bnd.some Bnd.none (by omega) (Nat.le_refl _),hl']
   refine h.Fe0 0 rfl N8 (by omega) fun w3 h=>?_
   rw[ht] at h
   exact k _ _ _ _ ⟨rfl,rfl⟩ h
theorem bg0(a:pJ p r B):Makes Tryz.prog B (Z0 RB #[ptr p]) fun u τ=>τ=[Y3 Q0 u (o8 r.id)]:=by
 refine Makes.intro fun B' w K base h k=>?_
 replace a:=base a
 refine VE.up ?_
 unfold VE.pt
 refine h.box fun b w1 h=>?_
 have h:Rel B' w1 [O1 b J7 #[ptr p]]:=h
 refine h.NV ([0,1,2]:List Int) N8 fun v w2 h=>?_
 rw[TI]
 refine h.act 1 rfl (fun B2 own base2=>qu0 (by decide) (fun i=>decide (i=r.id)) fun B3 base3 x _=>?_) fun u e' τ w3 hp h=>?_
 ·have a3:=base3 (base2 a)
  have cb:=base3 (own (j:=0) (by decide) rfl)
  obtain⟨lv,c0,c1⟩:=pJ.jP a3
  refine Gives.intro fun B4 w K base4 h k=>?_
  refine YH (?_:upK Tryz.prog (Z0 sF #[.int .i64 x,ptr b]) w K)
  refine wD.up ?_
  unfold wD.pt
  rw[O1.ld (h.L6 (base4 cb)) P8 (o:=0) (v:=ptr p) rfl]
  simp -zeta only[J5,U0 kH,Nat.zero_add]
  rw[O1.ld (h.L6 (base4 c0)) Y2 (o:=0) (v := .int .i64 r.id) rfl,F7]
  exact k _ _ h
 ·obtain⟨rfl,rfl⟩:=hp
  exact k _ _ _ rfl (h.pick [1] (by decide))
end
end Go.Proofs.YtngbebnhegcokaaGreatDoor

namespace Go.Proofs.YtngbebnhegcokaaGreatDoor
open Go.RowKit
set_option maxRecDepth 100000
structure vE where
 save:Bool
 hard:SN
 from_:Int
 recs:List uB
 send:List R9
 deriving DecidableEq
def o0:vE:=⟨false,⟨0,0⟩,0,[],[]⟩
def f_(o:vE)(rv sv:Value):Array Value:=#[.bool o.save,.int .i64 o.hard.term,.int .i64 o.hard.vote,.int .i64 o.from_,rv,sv]
def eG(u:Value)(o:vE):Dat:=Dat.ex fun q:SV×SV=>Dat.and (Dat.pure (u = .agg (f_ o q.1.1 q.2.1))) (Dat.and (O4 q.1.1 o.recs) (wN q.2.1 o.send))
def z_(r:G8)(to_:Int):R9:=⟨2,r.id,to_,r.hard.term,r.next.get to_-1,bK r.log (r.next.get to_-1),r.commit,false,(r.log.drop (r.next.get to_-1).toNat).take 8⟩
def PR(r:G8):List R9:=(o8 r.id).map (z_ r)
def PO(r:G8):G8:={ r with hard:=⟨r.hard.term+1,r.id⟩,role:=1,votes:=(⟨false,false,false⟩:T3 Bool).set r.id true }
def ed0(r:G8)(i:Int):R9:=⟨0,r.id,i,r.hard.term,r.log.length,bK r.log r.log.length,0,false,[]⟩
def oI(r:G8):G8×vE :=
 if r.role=2 then(r,{ o0 with send:=PR r })
 else if r.hard.term=1099511627776 then(r,o0)
 else(PO r,{ o0 with save:=true,hard:=(PO r).hard,send:=(o8 r.id).map (ed0 (PO r)) })
theorem AX{α:Type}[Enc α]{B:Base}:O4 (.slice none 0 0) ([]:List α) B:=⟨none,0,rfl,Nat.le_refl _,.inl rfl⟩
theorem Zy0{B:Base}:wN (.slice none 0 0) [] B:=⟨[],rfl,AX,fun q hq=>by cases hq⟩
theorem XU{r:G8}{lv:Value}{i:Int}(hi:I3 i):(M_ r lv).toList[9+i.toNat]? = some (.int .i64 (r.next.get i))∧(M_ r lv).toList[12+i.toNat]? = some (.int .i64 (r.mtch.get i))∧(M_ r lv).toList[6+i.toNat]? = some (.bool (r.votes.get i)):=by
 rcases hi.cases with rfl | rfl | rfl<;>exact⟨rfl,rfl,rfl⟩
theorem mV{r:G8}{lv:Value}{i:Int}(hi:I3 i)(n:Int)(b:Bool):(M_ r lv).setIfInBounds (9+i.toNat) (.int .i64 n)=M_ { r with next:=r.next.set i n } lv∧(M_ r lv).setIfInBounds (12+i.toNat) (.int .i64 n)=M_ { r with mtch:=r.mtch.set i n } lv∧(M_ r lv).setIfInBounds (6+i.toNat) (.bool b)=M_ { r with votes:=r.votes.set i b } lv:=by
 rcases hi.cases with rfl | rfl | rfl<;>exact⟨rfl,rfl,rfl⟩
theorem bv0{Kp:Value→Prop}{p o:Nat}{i:Int}(hi:I3 i):M0 Tryz.prog (I5 FM (.pointer (some ⟨p,o,none⟩)) (.int .i64 i)) Kp=Kp (.pointer (some ⟨p,o+i.toNat,none⟩)):=by
 rcases hi.cases with rfl | rfl | rfl<;>exact F5 fun w=>by kernel_rfl
theorem gE0{Kp:Value→Prop}{p o:Nat}{i:Int}(hi:I3 i):M0 Tryz.prog (I5 VH (.pointer (some ⟨p,o,none⟩)) (.int .i64 i)) Kp=Kp (.pointer (some ⟨p,o+i.toNat,none⟩)):=by
 rcases hi.cases with rfl | rfl | rfl<;>exact F5 fun w=>by kernel_rfl
theorem sU{id i:Int}(h:i∈o8 id):I3 i:=by
 unfold o8 at h
 have:=(List.mem_filter.1 h).1
 simp only[List.mem_cons,List.not_mem_nil,or_false] at this
 unfold I3
 omega
theorem sS(id:Int):(o8 id).length≤3:=List.length_filter_le _ _
section
variable {B:Base} {w:World} {σ τ:List Dat} {p:Nat} {r:G8}
theorem pJ.of{lv:Value}(h1:lv.oneCell'=true)(h2:O1 p I1 (M_ r lv) B)(h3:O4 lv r.log B):pJ p r B:=⟨⟨lv,h1⟩,h2,h3⟩
set_option maxHeartbeats 1000000 in
theorem wi0(a:pJ p r B)(hk:Y9 r)(hlead:r.role=2){to_:Int}(ht:I3 to_):Makes Tryz.prog B (Z0 yA #[ptr p,.int .i64 to_]) fun u τ=>∃v:SV,u=((z_ r to_).raw v).v∧τ=[Y3 X3 v.1 (z_ r to_).recs]:=by
 refine Makes.intro fun B' w K base h k=>?_
 replace a:=base a
 refine iE.up ?_
 unfold iE.pt
 obtain⟨lv,c0,c1⟩:=pJ.jP a
 have hlen:=hk.len
 have hnext:=hk.next hlead to_ ht
 have g3:=(XU (r:=r) (lv:=lv.1) ht).1
 obtain⟨n,hn⟩:∃n:Nat,r.next.get to_=n+1:=⟨(r.next.get to_-1).toNat,by omega⟩
 have hnl:n≤r.log.length:=by omega
 have hidx:r.next.get to_-1=(n:Int):=by omega
 have hE:∀v:SV,((z_ r to_).raw v).v=BF0 2 r.id to_ r.hard.term n (bK r.log n) r.commit false v.1:=fun v=>by
  unfold z_ R9.raw
  rw[hidx]
  rfl
 have hR:(z_ r to_).recs=(r.log.drop n).take 8:=by
  unfold z_
  rw[hidx]
  rfl
 refine h.alloc vJ fun o w1 h=>?_
 refine h.ask (fun B2 own base2=>dX (base2 a) 2 to_) fun w2 h=>?_
 refine h.R8 (ds:=#[.int .i64 2,.int .i64 r.id,.int .i64 to_,.int .i64 r.hard.term,.int .i64 0,.int .i64 0,.int .i64 0,.bool false,.slice none 0 0]) vJ rfl Z8 rfl (fun v hv=>?_) fun m w3 h=>?_
 ·simp only[List.mem_cons,List.not_mem_nil,or_false] at hv
  rcases hv with rfl | rfl | rfl | rfl | rfl | rfl | rfl | rfl | rfl<;>rfl
 simp -zeta only[J5,U0 UL,U0 x_,U0 lH,U0 bF,U0 nN,U0 MS,U0 VP,Nat.zero_add]
 rw[bv0 ht,O1.ld (h.L6 c0) Y2 (o:=9+to_.toNat) g3,hn,TB,show (n:Int)+1-1=n by omega,E5 (by omega) (by omega)]
 refine h.st 1 rfl Y2 (o:=4) (show 4<9 by omega) rfl fun w4 h=>?_
 have h:=h.tick
 generalize tick w4=w4 at *
 rw[h.ld 1 rfl Y2 (o:=4) (v := .int .i64 n) rfl,O1.ld (h.L6 c0) Y2 (o:=5) (v := .int .i64 r.commit) rfl]
 refine h.ask (fun B2 own base2=>gX (base2 a) (by omega) ⟨by omega,by omega⟩) fun w5 h=>?_
 refine⟨O1.is (h.L6 c0) Y2 (o:=5) rfl,?_⟩
 refine h.st 1 rfl Y2 (o:=5) (show 5<9 by omega) rfl fun w6 h=>?_
 refine⟨O1.is (h.L6 c0) Y2 (o:=5) rfl,?_⟩
 refine h.st 1 rfl Y2 (o:=6) (show 6<9 by omega) rfl fun w7 h=>?_
 have h:=h.tick
 generalize tick w7=w7 at *
 rw[O1.ld (h.L6 c0) X5 (o:=3) (v:=lv.1) rfl,h.ld 1 rfl Y2 (o:=4) (v := .int .i64 n) rfl,O1.ld (h.L6 c0) X5 (o:=3) (v:=lv.1) rfl,O4.len c1 u6,h.ld 1 rfl Y2 (o:=4) (v := .int .i64 n) rfl,Z5,E5 (by omega) (by omega),YK,
  show min (r.log.length:Int) ((n:Int)+8)=((min r.log.length (n+8):Nat):Int) by omega]
 have hcut:∀Kp:Value→Prop,M0 Tryz.prog (y9 U3 lv.1 (some (.int .i64 n)) (some (.int .i64 (min r.log.length (n+8):Nat))) none) Kp=Kp (cutV 2 lv.1 n (min r.log.length (n+8))):=fun Kp =>
  O4.Me0 (α:=uB) (P:=Tryz.prog) (lo:=n) (hi:=min r.log.length (n+8)) c1 u6 Bnd.some Bnd.some (by omega) (by omega)
 rw[hcut]
 have rc:=O4.rk0 (lo:=n) (hi:=min r.log.length (n+8)) c1 (by omega) (by omega)
 have e:(r.log.take (min r.log.length (n+8))).drop n=(r.log.drop n).take 8:=by
  rw[List.drop_take]
  by_cases c:n+8≤r.log.length
  ·rw[show min r.log.length (n+8)-n=8 by omega]
  ·rw[List.take_of_length_le (by rw[List.length_drop];omega),List.take_of_length_le (by rw[List.length_drop];omega)]
 rw[e] at rc
 refine h.make (fun B2 own base2=>P_ (base2 rc) (by rw[List.length_take];omega) (by rw[List.length_take];omega)) fun u τ w8 hp h=>?_
 subst hp
 have hu1:u.oneCell'=true:=h.oneCell (i:=2) rfl
 refine h.st 1 rfl X5 (o:=8) (show 8<9 by omega) hu1 fun w9 h=>?_
 rw[h.r9 1 rfl Z8 rfl]
 refine h.YG 0 rfl Z8 rfl rfl (fun v hv=>?_) fun w10 h=>?_
 ·have hv:v∈[Value.int .i64 2,.int .i64 r.id,.int .i64 to_,.int .i64 r.hard.term,.int .i64 n,.int .i64 (bK r.log n),.int .i64 r.commit,.bool false,u]:=hv
  simp only[List.mem_cons,List.not_mem_nil,or_false] at hv
  rcases hv with rfl | rfl | rfl | rfl | rfl | rfl | rfl | rfl | rfl<;>first | rfl | exact hu1
 rw[qJ h 0 rfl Z8 rfl]
 refine k _ _ _ ⟨(⟨u,hu1⟩:SV),?_,?_⟩ (h.pick [2] (by decide))
 ·exact(hE (⟨u,hu1⟩:SV)).symm
 ·rw[hR]
  rfl
theorem qv0{v v':Value}{L:List R9}{m:R9}{u:SV}{vs:List SV}(hl:vs.length=L.length)(h:Dat.all (L.zip vs) (fun q=>O4 q.2.1 q.1.recs) B)(hu:O4 u.1 m.recs B) :
  Dat.all ((L++[m]).zip (vs++[u])) (fun q=>O4 q.2.1 q.1.recs) B:=by
 rw[List.zip_append hl.symm]
 refine Dat.all_append h fun q hq=>?_
 have hq:q∈[(m,u)]:=hq
 rw[List.mem_singleton.1 hq]
 exact hu
set_option maxHeartbeats 1000000 in
theorem Ar0(a:pJ p r B)(hk:Y9 r)(hlead:r.role=2):Makes Tryz.prog B (Z0 QB #[ptr p]) fun u τ=>τ=[wN u (PR r)]∧∃x n c,u = .slice x n c:=by
 refine Makes.intro fun B' w K base h k=>?_
 replace a:=base a
 refine EH.up ?_
 unfold EH.pt
 unfold PR at k
 refine h.make (fun B2 own base2=>bg0 (base2 a)) fun ov τ w1 hp h=>?_
 subst hp
 have h:Rel B' w1 [Y3 Q0 ov (o8 r.id)]:=h
 have ho3:=sS r.id
 rw[O4.len (Y3.read (h.here (i:=0) rfl)) N8]
 have h:=(h.VC nm0 Y1).ak0 (d:=Dat.all (([]:List R9).zip ([]:List SV)) fun q=>O4 q.2.1 q.1.recs) fun B q hq=>by cases hq
 refine F6 (fun z w'=>∃(i:Nat) (v:Value) (vs:List SV),i≤(o8 r.id).length∧vs.length=i∧z=(v,.int .i64 i,())∧Rel B' w' [Y3 Q0 ov (o8 r.id),Y3 Y1 v (List.zipWith R9.raw (((o8 r.id).take i).map (z_ r)) vs),Dat.all ((((o8 r.id).take i).map (z_ r)).zip vs) fun q=>O4 q.2.1 q.1.recs])
  (fun z _=>(o8 r.id).length-(match z.2.1 with | .int _ n=>n.toNat | _=>0)) ⟨0,.slice none 0 0,[],Nat.zero_le _,rfl,rfl,h⟩ ?_
 clear h
 rintro z w2 ⟨i,v,vs,hi,hvs,rfl,h⟩ next hnext
 simp -zeta only[G6,K3]
 refine⟨fun hlt=>?_,fun hge=>?_⟩
 case refine_2 =>
  have:i=(o8 r.id).length:=by omega
  subst this
  rw[List.take_length] at h
  obtain⟨x,n,c,rfl⟩:=EW h 1 rfl
  have h:=h.pick [1,2] (by decide)
  refine k _ _ _ ⟨rfl,x,n,c,rfl⟩ (Rel.wrap (σ:=[]) h fun B2 own=>⟨vs,(by rw[List.length_map];exact hvs:vs.length=((o8 r.id).map (z_ r)).length),Y3.read (own (i:=0) rfl),own (i:=1) rfl⟩)
 have hil:i<(o8 r.id).length:=by omega
 have hmem:=List.getElem_mem hil
 obtain⟨g,o,hx,hc⟩:=O4.idx (Y3.read (h.here (i:=0) rfl)) N8 (P:=Tryz.prog) hil
 rw[hx,K6.ld0 hc Y2 (v := .int .i64 (o8 r.id)[i]) rfl]
 have htk:((o8 r.id).take (i+1)).map (z_ r)=((o8 r.id).take i).map (z_ r)++[z_ r (o8 r.id)[i]]:=by
  rw[List.take_succ_eq_append_getElem hil,List.map_append]
  rfl
 have hll:(((o8 r.id).take i).map (z_ r)).length=i:=by rw[List.length_map,List.length_take];omega
 generalize ((o8 r.id).take i).map (z_ r)=L at *
 refine h.make (fun B2 own base2=>wi0 (base2 a) hk hlead (sU hmem)) fun u τ w3 hp h=>?_
 obtain⟨u',rfl,rfl⟩:=hp
 have h:Rel B' w3 [Y3 Q0 ov (o8 r.id),Y3 Y1 v (List.zipWith R9.raw L vs),Dat.all (L.zip vs) fun q=>O4 q.2.1 q.1.recs,Y3 X3 u'.1 (z_ r (o8 r.id)[i]).recs]:=h
 have hzl:(List.zipWith R9.raw L vs).length=i:=by rw[List.length_zipWith];omega
 refine h.WS (α:=nm0) 1 rfl ((z_ r (o8 r.id)[i]).raw u') vL (by decide) (by omega) (by omega) fun v' w4 h=>?_
 have h:Rel B' w4 ([Y3 Q0 ov (o8 r.id),Y3 Y1 v' (List.zipWith R9.raw L vs++[(z_ r (o8 r.id)[i]).raw u'])]++[Dat.all (L.zip vs) fun q=>O4 q.2.1 q.1.recs,Y3 X3 u'.1 (z_ r (o8 r.id)[i]).recs]):=h
 have h:=h.wrap (c:=Dat.all ((L++[z_ r (o8 r.id)[i]]).zip (vs++[u'])) fun q=>O4 q.2.1 q.1.recs) fun B2 own=>qv0 (v:=v) (v':=v) (by omega) (own (i:=0) rfl) (Y3.read (own (i:=1) rfl))
 rw[Z5,E5 (by omega) (by omega)]
 refine hnext _ _ ⟨i+1,v',vs++[u'],hil,by rw[List.length_append,hvs];rfl,rfl,?_⟩ (by simp only;omega)
 rw[htk,List.zipWith_append (by omega)]
 exact h
end
end Go.Proofs.YtngbebnhegcokaaGreatDoor

namespace Go.Proofs.YtngbebnhegcokaaGreatDoor
open Go.RowKit
set_option maxRecDepth 100000
structure WO (r:G8) (m:R9):Prop where
 kind:0≤m.kind∧m.kind≤3
 to_:m.to_=r.id
 from_:m.from_≠r.id
 from3:0≤m.from_∧m.from_≤2
 term:1≤m.term∧m.term≤1099511627776
 index:0≤m.index∧m.index≤4000
 prev:0≤m.prev∧m.prev≤m.term
 zero:m.index=0→m.prev=0
 commit:0≤m.commit∧m.commit≤4000
 few:m.recs.length≤8
 room:m.index+m.recs.length≤4000
 sound:RA m.recs (max 1 m.prev) m.term=true
theorem Wq0(r:G8)(m:R9):((0≤m.kind∧m.kind≤3)∧m.to_=r.id∧m.from_≠r.id∧(0≤m.from_∧m.from_≤2)∧(1≤m.term∧m.term≤1099511627776)∧(0≤m.index∧m.index≤4000)∧(0≤m.prev∧m.prev≤m.term)∧(m.index=0→m.prev=0)∧(0≤m.commit∧m.commit≤4000)∧m.recs.length≤8∧m.index+m.recs.length≤4000∧RA m.recs (max 1 m.prev) m.term=true)↔WO r m :=
 ⟨fun⟨a,b,c,d,e,f,g,h,i,j,k,l⟩=>⟨a,b,c,d,e,f,g,h,i,j,k,l⟩,fun⟨a,b,c,d,e,f,g,h,i,j,k,l⟩=>⟨a,b,c,d,e,f,g,h,i,j,k,l⟩⟩
instance (r:G8) (m:R9):Decidable (WO r m):=decidable_of_iff _ (Wq0 r m)
def it0(r:G8)(m:R9):Bool:=decide (WO r m)
def BN(r:G8)(m:R9)(yes:Bool):R9:=⟨1,r.id,m.from_,r.hard.term,0,0,0,yes,[]⟩
def Mk0(r:G8)(m:R9):Prop:=bK r.log r.log.length<m.prev∨m.prev=bK r.log r.log.length∧(r.log.length:Int)≤m.index
instance (r:G8) (m:R9):Decidable (Mk0 r m):=by unfold Mk0;exact inferInstance
def xY(r:G8)(m:R9):Prop:=m.term=r.hard.term∧(r.hard.vote = -1∨r.hard.vote=m.from_)∧Mk0 r m
instance (r:G8) (m:R9):Decidable (xY r m):=by unfold xY;exact inferInstance
def Fj0(r:G8)(m:R9):G8×vE :=
 if xY r m then({ r with hard:=⟨r.hard.term,m.from_⟩ },{ o0 with send:=[BN r m true] }) else(r,{ o0 with send:=[BN r m false] })
def OV(t:T3 Bool):Nat:=(if t.a then 1 else 0)+(if t.b then 1 else 0)+(if t.c then 1 else 0)
def AZ(r:G8):G8:={ r with role:=2,next:=⟨r.log.length+1,r.log.length+1,r.log.length+1⟩,mtch:=⟨0,0,0⟩ }
def Yb0(r:G8)(m:R9):G8×vE :=
 if r.role≠1∨m.term≠r.hard.term∨m.yes=false then(r,o0)
 else if OV (r.votes.set m.from_ true)<2 then({ r with votes:=r.votes.set m.from_ true },o0)
 else(AZ { r with votes:=r.votes.set m.from_ true },{ o0 with send:=PR (AZ { r with votes:=r.votes.set m.from_ true }) })
theorem FE{o:vE}{rv sv:Value}(h1:rv.oneCell'=true)(h2:sv.oneCell'=true):∀v∈(f_ o rv sv).toList,v.oneCell'=true:=by
 intro v hv
 have hv:v∈[Value.bool o.save,.int .i64 o.hard.term,.int .i64 o.hard.vote,.int .i64 o.from_,rv,sv]:=hv
 simp only[List.mem_cons,List.not_mem_nil,or_false] at hv
 rcases hv with rfl | rfl | rfl | rfl | rfl | rfl<;>first | rfl | exact h1 | exact h2
section
variable {B:Base} {w:World} {σ τ:List Dat} {p:Nat} {r:G8}
theorem eG.of{o:vE}{rv sv:Value}(h1:rv.oneCell'=true)(h2:sv.oneCell'=true)(r1:O4 rv o.recs B)(r2:wN sv o.send B):eG (.agg (f_ o rv sv)) o B:=⟨(⟨rv,h1⟩,⟨sv,h2⟩),rfl,r1,r2⟩
theorem te0{m:R9}{v:SV}(q:O4 v.1 m.recs B):Makes Tryz.prog B (Z0 A_ #[(m.raw v).v]) fun u τ=>∃s:SV,u = .agg (f_ { o0 with send:=[m] } (.slice none 0 0) s.1)∧τ=[Y3 Y1 s.1 [m.raw v]]:=by
 refine Makes.intro fun B' w K base h k=>?_
 replace q:=base q
 refine vO.up ?_
 unfold vO.pt
 refine h.box fun o w1 h=>?_
 have h:Rel B' w1 [O1 o Y1 (m.raw v).cs.toArray]:=h
 refine h.alloc qF fun t w2 h=>?_
 rw[h.r9 0 rfl Z8 rfl]
 refine h.XH (α:=nm0) (m.raw v) vL (by decide) fun s w3 h=>?_
 have hs1:s.oneCell'=true:=h.oneCell (i:=2) rfl
 obtain⟨x,n,c,rfl⟩:=EW h 2 rfl
 rw[MU]
 refine h.YG 1 (ds:=f_ { o0 with send:=[m] } (.slice none 0 0) (.slice x n c)) rfl EC rfl rfl (FE rfl rfl) fun w4 h=>?_
 rw[qJ h 1 rfl EC rfl]
 exact k _ _ _ ⟨⟨.slice x n c,rfl⟩,rfl,rfl⟩ (h.pick [2] (by decide))
theorem CZ{m:R9}{v:SV}{s:Value}(h1:O4 s [m.raw v] B)(h2:O4 v.1 m.recs B):wN s [m] B:=⟨[v],rfl,h1,fun q hq=>by
 have hq:q∈[(m,v)]:=hq
 rw[List.mem_singleton.1 hq]
 exact h2⟩
set_option maxHeartbeats 1000000 in
theorem Dz0(a:pJ p r B){m:R9}{v:SV}(q:O4 v.1 m.recs B)(hml:m.recs.length≤1000000):Gives Tryz.prog B (Z0 QH #[ptr p,(m.raw v).v]) (.bool (it0 r m)):=by
 refine Gives.intro fun B' w K base h k=>?_
 replace a:=base a
 replace q:=base q
 refine QF.up ?_
 unfold QF.pt
 obtain⟨lv,c0,c1⟩:=pJ.jP a
 unfold it0 at k
 refine h.box fun o w1 h=>?_
 have h:Rel B' w1 [O1 o Y1 (m.raw v).cs.toArray]:=h
 refine P6 fun J hJ=>?_
 simp -zeta only[J5,U0 kH,U0 WV,U0 lN,U0 XV,U0 uK,U0 bF,U0 nN,U0 MS,U0 VP,Nat.zero_add] at hJ ⊢
 have h:=h.tick
 generalize tick w1=w1 at *
 rw[h.ld 0 rfl Y2 (o:=0) (v := .int .i64 m.kind) rfl]
 refine h.ask (fun B2 own base2=>WI m.kind 0 3) fun w2 h=>?_
 rw[V7,G5,R5]
 refine⟨fun k1=>?_,fun k1=>?_⟩
 case refine_2 =>
  rw[decide_eq_false (fun hh=>by rw[decide_eq_true hh.kind.1,decide_eq_true hh.kind.2] at k1;cases k1)] at k
  exact k _ _ h
 rw[Bool.and_eq_true,decide_eq_true_eq,decide_eq_true_eq] at k1
 rw[h.ld 0 rfl Y2 (o:=2) (v := .int .i64 m.to_) rfl,O1.ld (h.L6 c0) Y2 (o:=0) (v := .int .i64 r.id) rfl,Q7,G5,K3]
 refine⟨fun k2=>?_,fun k2=>?_⟩
 case refine_2 =>
  rw[decide_eq_false (fun hh=>k2 hh.to_)] at k
  exact k _ _ h
 rw[h.ld 0 rfl Y2 (o:=1) (v := .int .i64 m.from_) rfl,O1.ld (h.L6 c0) Y2 (o:=0) (v := .int .i64 r.id) rfl,F7,K3]
 refine⟨fun k3=>?_,fun k3=>?_⟩
 ·rw[decide_eq_false (fun hh=>hh.from_ k3)] at k
  exact k _ _ h
 rw[h.ld 0 rfl Y2 (o:=1) (v := .int .i64 m.from_) rfl]
 refine h.ask (fun B2 own base2=>WI m.from_ 0 2) fun w3 h=>?_
 rw[V7,G5,R5]
 refine⟨fun k4=>?_,fun k4=>?_⟩
 case refine_2 =>
  rw[decide_eq_false (fun hh=>by rw[decide_eq_true hh.from3.1,decide_eq_true hh.from3.2] at k4;cases k4)] at k
  exact k _ _ h
 rw[Bool.and_eq_true,decide_eq_true_eq,decide_eq_true_eq] at k4
 rw[h.ld 0 rfl Y2 (o:=3) (v := .int .i64 m.term) rfl]
 refine h.ask (fun B2 own base2=>WI m.term 1 1099511627776) fun w4 h=>?_
 rw[V7,G5,R5]
 refine⟨fun k5=>?_,fun k5=>?_⟩
 case refine_2 =>
  rw[decide_eq_false (fun hh=>by rw[decide_eq_true hh.term.1,decide_eq_true hh.term.2] at k5;cases k5)] at k
  exact k _ _ h
 rw[Bool.and_eq_true,decide_eq_true_eq,decide_eq_true_eq] at k5
 rw[h.ld 0 rfl Y2 (o:=4) (v := .int .i64 m.index) rfl]
 refine h.ask (fun B2 own base2=>WI m.index 0 4000) fun w5 h=>?_
 rw[V7,G5,R5]
 refine⟨fun k6=>?_,fun k6=>?_⟩
 case refine_2 =>
  rw[decide_eq_false (fun hh=>by rw[decide_eq_true hh.index.1,decide_eq_true hh.index.2] at k6;cases k6)] at k
  exact k _ _ h
 rw[Bool.and_eq_true,decide_eq_true_eq,decide_eq_true_eq] at k6
 rw[h.ld 0 rfl Y2 (o:=5) (v := .int .i64 m.prev) rfl,h.ld 0 rfl Y2 (o:=3) (v := .int .i64 m.term) rfl]
 refine h.ask (fun B2 own base2=>WI m.prev 0 m.term) fun w6 h=>?_
 rw[V7,G5,R5]
 refine⟨fun k7=>?_,fun k7=>?_⟩
 case refine_2 =>
  rw[decide_eq_false (fun hh=>by rw[decide_eq_true hh.prev.1,decide_eq_true hh.prev.2] at k7;cases k7)] at k
  exact k _ _ h
 rw[Bool.and_eq_true,decide_eq_true_eq,decide_eq_true_eq] at k7
 have rest:(m.index=0→m.prev=0)→∀w',Rel B' w' [O1 o Y1 (m.raw v).cs.toArray]→J () w':=by
  intro k8 w' h
  refine hJ _ _ ?_
  clear hJ
  rw[h.ld 0 rfl Y2 (o:=6) (v := .int .i64 m.commit) rfl]
  refine h.ask (fun B2 own base2=>WI m.commit 0 4000) fun w7 h=>?_
  rw[R5]
  refine⟨fun k9=>?_,fun k9=>?_⟩
  case refine_2 =>
   rw[decide_eq_false (fun hh=>by rw[decide_eq_true hh.commit.1,decide_eq_true hh.commit.2] at k9;cases k9)] at k
   exact k _ _ h
  rw[Bool.and_eq_true,decide_eq_true_eq,decide_eq_true_eq] at k9
  rw[h.ld 0 rfl X5 (o:=8) (v:=v.1) rfl,O4.len q u6,WC,K3]
  refine⟨fun k10=>?_,fun k10=>?_⟩
  case refine_2 =>
   rw[decide_eq_false (fun hh=>k10 (by have:=hh.few;omega))] at k
   exact k _ _ h
  rw[h.ld 0 rfl Y2 (o:=4) (v := .int .i64 m.index) rfl,h.ld 0 rfl X5 (o:=8) (v:=v.1) rfl,O4.len q u6,Z5,E5 (by omega) (by omega),WC,K3]
  refine⟨fun k11=>?_,fun k11=>?_⟩
  case refine_2 =>
   rw[decide_eq_false (fun hh=>k11 hh.room)] at k
   exact k _ _ h
  rw[h.ld 0 rfl X5 (o:=8) (v:=v.1) rfl,h.ld 0 rfl Y2 (o:=5) (v := .int .i64 m.prev) rfl,II,h.ld 0 rfl Y2 (o:=3) (v := .int .i64 m.term) rfl]
  refine h.ask (fun B2 own base2=>Ct0 (base2 q) (by omega) (max 1 m.prev) m.term) fun w8 h=>?_
  have e:decide (WO r m)=RA m.recs (max 1 m.prev) m.term:=by
   rw[Bool.eq_iff_iff,decide_eq_true_eq]
   exact⟨fun hh=>hh.sound,fun hh=>⟨k1,k2,k3,k4,k5,k6,k7,k8,k9,by omega,k11,hh⟩⟩
  rw[e] at k
  exact k _ _ h
 rw[h.ld 0 rfl Y2 (o:=4) (v := .int .i64 m.index) rfl,F7,K3]
 refine⟨fun i0=>?_,fun i0=>rest (fun hh=>absurd hh i0) _ h⟩
 rw[h.ld 0 rfl Y2 (o:=5) (v := .int .i64 m.prev) rfl,Q7,G5,K3]
 refine⟨fun p0=>rest (fun _=>p0) _ h,fun p0=>?_⟩
 rw[decide_eq_false (fun hh=>p0 (hh.zero i0))] at k
 exact k _ _ h
set_option maxHeartbeats 1000000 in
theorem nG0(hk:Y9 r){m:R9}{v:SV}:Does Tryz.prog B (bA p r) (Z0 DI #[ptr p,(m.raw v).v]) fun u e' τ=>e'=bA p (Fj0 r m).1∧τ=[eG u (Fj0 r m).2]:=by
 refine Does.intro fun B' w K base h k=>?_
 refine MG.up ?_
 unfold MG.pt
 obtain⟨lv,h⟩:=bA.open h
 have h:Rel B' w [O1 p I1 (M_ r lv.1),Y3 X3 lv.1 r.log]:=h
 have hlen:=hk.len
 refine h.box fun o w1 h=>?_
 have h:Rel B' w1 [O1 p I1 (M_ r lv.1),Y3 X3 lv.1 r.log,O1 o Y1 (m.raw v).cs.toArray]:=h
 refine h.alloc qF fun t w2 h=>?_
 simp -zeta only[J5,U0 w_,U0 x_,U0 KC,U0 VU,U0 lN,U0 uK,U0 bF,U0 nN,Nat.zero_add,Nat.add_zero]
 rw[h.ld 2 rfl Y2 (o:=1) (v := .int .i64 m.from_) rfl]
 refine h.ask (fun B2 own base2=>dX (pJ.of lv.2 (own (i:=0) rfl) (Y3.read (own (i:=1) rfl))) 1 m.from_) fun w3 h=>?_
 refine h.R8 (ds:=((BN r m false).raw ⟨.slice none 0 0,rfl⟩).cs.toArray) vJ rfl Z8 rfl (fun v hv=>Enc.one ((BN r m false).raw ⟨.slice none 0 0,rfl⟩) v hv) fun a w4 h=>?_
 simp -zeta only[U0 vK,Nat.zero_add]
 have h:Rel B' w4 [O1 p I1 (M_ r lv.1),Y3 X3 lv.1 r.log,O1 o Y1 (m.raw v).cs.toArray,O1 t F3 (f_ o0 (.slice none 0 0) (.slice none 0 0)),O1 a Y1 ((BN r m false).raw ⟨.slice none 0 0,rfl⟩).cs.toArray]:=h
 rw[h.ld 0 rfl X5 (o:=3) (v:=lv.1) rfl,O4.len (Y3.read (h.here (i:=1) rfl)) u6]
 refine h.ask (fun B2 own base2=>gX (pJ.of lv.2 (own (i:=0) rfl) (Y3.read (own (i:=1) rfl))) (by omega) ⟨by omega,by omega⟩) fun w5 h=>?_
 have fin:∀(yes:Bool) (r':G8) (w':World),(if xY r m then({ r with hard:=⟨r.hard.term,m.from_⟩ },{ o0 with send:=[BN r m true] }) else(r,{ o0 with send:=[BN r m false] }))=(r',{ o0 with send:=[BN r m yes] })→r'.log=r.log →
   Rel B' w' [O1 p I1 (M_ r' lv.1),Y3 X3 lv.1 r.log,O1 o Y1 (m.raw v).cs.toArray,O1 t F3 (f_ o0 (.slice none 0 0) (.slice none 0 0)),O1 a Y1 ((BN r m yes).raw ⟨.slice none 0 0,rfl⟩).cs.toArray] →
   Y0 Tryz.prog (X0 Y1 (.pointer (some ⟨a,0,none⟩))) w' fun t75=>upK Tryz.prog (Z0 A_ #[t75]) w' fun t76 w9=>upK Tryz.prog (I4 F3 (.pointer (some ⟨t,0,none⟩)) t76) w9 fun tu_1 w10 =>
    U9 Tryz.prog (do loadVar F3 (←asAddr (.pointer (some ⟨t,0,none⟩)))) w10 fun t4_1=>K t4_1 w10:=by
  intro yes r' w' e1 elog h
  rw[h.r9 4 rfl Z8 rfl]
  refine h.make (fun B2 own base2=>te0 (m:=BN r m yes) (v:=⟨.slice none 0 0,rfl⟩) AX) fun u τ w9 hp h=>?_
  obtain⟨s,rfl,rfl⟩:=hp
  refine h.YG 3 rfl EC rfl rfl (FE rfl s.2) fun w10 h=>?_
  rw[qJ h 3 rfl EC rfl]
  have e2:Fj0 r m=(r',{ o0 with send:=[BN r m yes] }):=e1
  have h:=h.pick [0,1,5] (by decide)
  have h:Rel B' w10 ([O1 p I1 (M_ r' lv.1),Y3 X3 lv.1 r.log]++[Y3 Y1 s.1 [(BN r m yes).raw ⟨.slice none 0 0,rfl⟩]]):=h
  have h:=h.wrap (c:=eG (.agg (f_ { o0 with send:=[BN r m yes] } (.slice none 0 0) s.1)) { o0 with send:=[BN r m yes] }) fun B2 own=>eG.of rfl s.2 AX (CZ (Y3.read (own (i:=0) rfl)) AX)
  refine k _ _ _ _ ⟨rfl,rfl⟩ ?_
  rw[e2]
  refine bA.close lv ?_
  unfold Rz0
  rw[elog]
  exact h
 refine P6 fun J1 hJ1=>?_
 replace hJ1:∀(b:Bool) (w':World),b=decide (Mk0 r m)→Rel B' w' [O1 p I1 (M_ r lv.1),Y3 X3 lv.1 r.log,O1 o Y1 (m.raw v).cs.toArray,O1 t F3 (f_ o0 (.slice none 0 0) (.slice none 0 0)),O1 a Y1 ((BN r m false).raw ⟨.slice none 0 0,rfl⟩).cs.toArray]→J1 (.bool b,()) w':=by
  intro b w' hb h
  refine hJ1 _ _ ?_
  clear hJ1
  refine P6 fun J2 hJ2=>?_
  replace hJ2:∀(yes:Bool) (r':G8) (w':World),(if xY r m then({ r with hard:=⟨r.hard.term,m.from_⟩ },{ o0 with send:=[BN r m true] }) else(r,{ o0 with send:=[BN r m false] }))=(r',{ o0 with send:=[BN r m yes] })→r'.log=r.log →
   Rel B' w' [O1 p I1 (M_ r' lv.1),Y3 X3 lv.1 r.log,O1 o Y1 (m.raw v).cs.toArray,O1 t F3 (f_ o0 (.slice none 0 0) (.slice none 0 0)),O1 a Y1 ((BN r m yes).raw ⟨.slice none 0 0,rfl⟩).cs.toArray]→J2 () w':=fun yes r' w' e1 e2 h=>hJ2 _ _ (fin yes r' w' e1 e2 h)
  refine P6 fun J3 hJ3=>?_
  replace hJ3:∀(b:Bool) (w':World),b=decide (xY r m)→Rel B' w' [O1 p I1 (M_ r lv.1),Y3 X3 lv.1 r.log,O1 o Y1 (m.raw v).cs.toArray,O1 t F3 (f_ o0 (.slice none 0 0) (.slice none 0 0)),O1 a Y1 ((BN r m false).raw ⟨.slice none 0 0,rfl⟩).cs.toArray]→J3 (.bool b,()) w':=by
   intro b w' hb h
   refine hJ3 _ _ ?_
   show ifB (.bool b) _ _
   rw[hb,K3]
   refine⟨fun c=>?_,fun c=>?_⟩
   ·have h:=h.tick
    generalize tick w'=w' at *
    rw[h.ld 2 rfl Y2 (o:=1) (v := .int .i64 m.from_) rfl]
    refine h.st 4 rfl AB (o:=7) (show 7<9 by omega) rfl fun w12 h=>?_
    refine⟨h.is 2 rfl Y2 (o:=1) rfl,?_⟩
    refine h.st 0 rfl Y2 (o:=2) (show 2<15 by omega) rfl fun w13 h=>?_
    exact hJ2 true { r with hard:=⟨r.hard.term,m.from_⟩ } _ (if_pos c) rfl h
   ·exact hJ2 false r _ (if_neg c) rfl h
  have h:=h.tick
  generalize tick w'=w' at *
  rw[h.ld 2 rfl Y2 (o:=3) (v := .int .i64 m.term) rfl,h.ld 0 rfl Y2 (o:=1) (v := .int .i64 r.hard.term) rfl,F7,K3]
  refine⟨fun c1=>?_,fun c1=>hJ3 false _ (decide_eq_false fun hh=>c1 hh.1).symm h⟩
  have hv:decide (r.hard.vote = -1∨r.hard.vote=m.from_)=true→b=decide (xY r m):=fun hv=>by
   rw[hb]
   exact decide_eq_decide.2 ⟨fun hf=>⟨c1,of_decide_eq_true hv,hf⟩,fun hh=>hh.2.2⟩
  rw[h.ld 0 rfl Y2 (o:=1+1) (v := .int .i64 r.hard.vote) rfl,F7,K3]
  refine⟨fun c2=>hJ3 b _ (hv (decide_eq_true (.inl c2))) h,fun c2=>?_⟩
  rw[h.ld 0 rfl Y2 (o:=1+1) (v := .int .i64 r.hard.vote) rfl,h.ld 2 rfl Y2 (o:=1) (v := .int .i64 m.from_) rfl,F7,K3]
  exact⟨fun c3=>hJ3 b _ (hv (decide_eq_true (.inr c3))) h,fun c3=>hJ3 false _ (decide_eq_false fun hh=>hh.2.1.elim c2 c3).symm h⟩
 clear fin
 have h:=h.tick
 generalize tick w5=w5 at *
 rw[h.ld 2 rfl Y2 (o:=5) (v := .int .i64 m.prev) rfl,x9,K3]
 refine⟨fun c1=>hJ1 true _ (decide_eq_true (.inl c1)).symm h,fun c1=>?_⟩
 rw[h.ld 2 rfl Y2 (o:=5) (v := .int .i64 m.prev) rfl,F7,K3]
 refine⟨fun c2=>?_,fun c2=>hJ1 false _ (decide_eq_false fun hh=>hh.elim c1 fun h=>c2 h.1).symm h⟩
 rw[h.ld 2 rfl Y2 (o:=4) (v := .int .i64 m.index) rfl,h.ld 0 rfl X5 (o:=3) (v:=lv.1) rfl,O4.len (Y3.read (h.here (i:=1) rfl)) u6,FC]
 refine hJ1 _ _ ?_ h
 exact decide_eq_decide.2 ⟨fun hh => .inr ⟨c2,by omega⟩,fun hh=>hh.elim (fun h=>absurd h c1) fun h=>by omega⟩
end
end Go.Proofs.YtngbebnhegcokaaGreatDoor

namespace Go.Proofs.YtngbebnhegcokaaGreatDoor
open Go.RowKit
set_option maxRecDepth 100000
def nC:SV:=⟨.slice none 0 0,rfl⟩
theorem bd3{K:Value→Prop}:M0 Tryz.prog (H6 VH #[]) K=K (.agg #[.bool false,.bool false,.bool false]):=F5 fun w=>by kernel_rfl
theorem zG0:agB Tryz.prog VH 3=true:=by kernel_rfl
section
variable {B:Base} {w:World} {σ τ:List Dat} {p:Nat} {r:G8} {K:Value→World→Prop}
theorem BK{t i:Nat}{cs ds:Array Value}(h:Rel B w σ)(hi:σ[i]? = some (O1 t F3 cs))(hc:cs.size=6)(hd:ds.size=6)(h1:∀v∈ds.toList,v.oneCell'=true)(k:∀w',Rel B w' (σ.set i (O1 t F3 ds))→K (.agg ds) w') :
  upK Tryz.prog (I4 F3 (.pointer (some ⟨t,0,none⟩)) (.agg ds)) w fun _ w'=>U9 Tryz.prog (do loadVar F3 (←asAddr (.pointer (some ⟨t,0,none⟩)))) w' fun v=>K v w':=by
 refine h.YG i hi EC hd hc h1 fun w' h=>?_
 have hlt:i<σ.length:=(List.getElem?_eq_some_iff.1 hi).1
 rw[qJ h i (by rw[List.getElem?_set_self hlt]) EC hd]
 exact k w' h
theorem UI{t i:Nat}{cs:Array Value}(h:Rel B w σ)(hi:σ[i]? = some (O1 t F3 cs))(hc:cs.size=6)(k:∀w',Rel B w' (σ.set i (O1 t F3 (f_ o0 (.slice none 0 0) (.slice none 0 0))))→K (.agg (f_ o0 (.slice none 0 0) (.slice none 0 0))) w') :
  M0 Tryz.prog (H6 F3 #[]) fun x=>upK Tryz.prog (I4 F3 (.pointer (some ⟨t,0,none⟩)) x) w fun _ w'=>U9 Tryz.prog (do loadVar F3 (←asAddr (.pointer (some ⟨t,0,none⟩)))) w' fun v=>K v w':=by
 rw[wm0]
 exact BK h hi hc rfl (FE (o:=o0) (rv := .slice none 0 0) (sv := .slice none 0 0) rfl rfl) k
theorem vf0{lv:Value}(h:O1 p I1 (M_ r lv) B):K6 p 1 r.hard.cs B:=O1.sub h rfl
theorem Id0{lv:Value}{Kp:Value→Prop}(h:(O1 p I1 (M_ r lv)).here w):Y0 Tryz.prog (X0 O5 (.pointer (some ⟨p,1,none⟩))) w Kp=Kp (.agg r.hard.cs.toArray):=K6.r9 (vf0 h) fC rfl
theorem bC0{lv:Value}(h:(O1 p I1 (M_ r lv)).here w):Is Tryz.prog (X0 O5 (.pointer (some ⟨p,1,none⟩))) (.agg r.hard.cs.toArray) w:=K6.bV (vf0 h) fC rfl
theorem LZ{o:vE}{sv:Value}{lv:SV}{l:List uB}(h1:sv.oneCell'=true)(ho:o.recs=[])(h:Rel B w [O1 p I1 (M_ r lv.1),Y3 X3 lv.1 l,wN sv o.send])(hl:r.log=l):Rel B w [bA p r,eG (.agg (f_ o (.slice none 0 0) sv)) o]:=by
 have h:Rel B w ([O1 p I1 (M_ r lv.1),Y3 X3 lv.1 l]++[wN sv o.send]):=h
 have h:=h.wrap (c:=eG (.agg (f_ o (.slice none 0 0) sv)) o) fun B2 own=>eG.of rfl h1 (by rw[ho];exact AX) (own (i:=0) rfl)
 subst hl
 exact bA.close lv h
theorem oD{lv:SV}{l:List uB}(h:Rel B w [O1 p I1 (M_ r lv.1),Y3 X3 lv.1 l])(hl:r.log=l):Rel B w [bA p r,eG (.agg (f_ o0 (.slice none 0 0) (.slice none 0 0))) o0] :=
 LZ rfl rfl (h.ak0 fun B=>Zy0) hl
theorem Jz0{L:List R9}(h:∀m∈L,m.recs=[]){v:Value}(hr:O4 v (L.map fun m=>m.raw nC) B):wN v L B:=by
 refine⟨L.map fun _=>nC,List.length_map ..,?_,fun q hq=>?_⟩
 ·have e:List.zipWith R9.raw L (L.map fun _=>nC)=L.map fun m=>m.raw nC:=by
   rw[List.zipWith_map_right]
   exact List.zipWith_self (f:=fun(m:R9) (_:R9)=>m.raw nC) ..
  rw[e]
  exact hr
 ·obtain⟨h1,h2⟩:=List.of_mem_zip hq
  obtain⟨q1,q2⟩:=q
  obtain⟨_,_,e⟩:=List.mem_map.1 h2
  have e:nC=q2:=e
  subst e
  have e1:q1.recs=[]:=h q1 h1
  show O4 _ q1.recs B
  rw[e1]
  exact AX
set_option maxHeartbeats 2000000 in
theorem fG0(hk:Y9 r):Does Tryz.prog B (bA p r) (Z0 PN #[ptr p]) fun u e' τ=>e'=bA p (oI r).1∧τ=[eG u (oI r).2]:=by
 refine Does.intro fun B' w K base h k=>?_
 refine KG.up ?_
 unfold KG.pt
 obtain⟨lv,h⟩:=bA.open h
 have h:Rel B' w [O1 p I1 (M_ r lv.1),Y3 X3 lv.1 r.log]:=h
 have hlen:=hk.len
 have hterm:=hk.term
 have hid:=hk.id
 unfold oI at k
 refine h.alloc qF fun t w1 h=>?_
 have h:Rel B' w1 [O1 p I1 (M_ r lv.1),Y3 X3 lv.1 r.log,O1 t F3 (f_ o0 (.slice none 0 0) (.slice none 0 0))]:=h
 simp -zeta only[J5,U0 kH,U0 w_,U0 x_,U0 NC,U0 AQ,U0 KC,Nat.zero_add,Nat.add_zero]
 rw[h.ld 0 rfl Y2 (o:=4) (v := .int .i64 r.role) rfl,F7,K3]
 refine⟨fun c1=>?_,fun c1=>?_⟩
 ·rw[if_pos c1] at k
  refine h.make (fun B2 own base2=>Ar0 (pJ.of lv.2 (own (i:=0) rfl) (Y3.read (own (i:=1) rfl))) hk c1) fun u τ w2 hp h=>?_
  obtain⟨rfl,x,n,c,rfl⟩:=hp
  rw[MU]
  refine BK (i:=2) h rfl rfl rfl (FE (o:={ o0 with send:=PR r }) rfl (rfl:(Value.slice x n c).oneCell'=true)) fun w3 h=>?_
  exact k _ _ _ _ ⟨rfl,rfl⟩ (LZ (o:={ o0 with send:=PR r }) rfl rfl (h.pick [0,1,3] (by decide)) rfl)
 rw[if_neg c1] at k
 rw[h.ld 0 rfl Y2 (o:=1) (v := .int .i64 r.hard.term) rfl,F7,K3]
 refine⟨fun c2=>?_,fun c2=>?_⟩
 ·rw[if_pos c2] at k
  refine UI (i:=2) h rfl rfl fun w3 h=>?_
  exact k _ _ _ _ ⟨rfl,rfl⟩ (oD (h.pick [0,1] (by decide)) rfl)
 rw[if_neg c2] at k
 have h:=h.tick
 generalize tick w1=w1 at *
 rw[h.ld 0 rfl Y2 (o:=1) (v := .int .i64 r.hard.term) rfl,Z5,E5 (by omega) (by omega),h.ld 0 rfl Y2 (o:=0) (v := .int .i64 r.id) rfl,rQ]
 refine h.mr0 0 (n:=2) (o:=1) rfl fC rfl (show 1+2≤15 by omega) (fun v hv=>?_) fun w2 h=>?_
 ·have hv:v∈[Value.int .i64 (r.hard.term+1),.int .i64 r.id]:=hv
  simp only[List.mem_cons,List.not_mem_nil,or_false] at hv
  rcases hv with rfl | rfl<;>rfl
 rw[bd3]
 refine h.st 0 rfl Y2 (o:=4) (show 4<15 by omega) rfl fun w3 h=>?_
 refine h.mr0 0 (n:=3) (o:=6) rfl zG0 rfl (show 6+3≤15 by omega) (fun v hv=>?_) fun w4 h=>?_
 ·have hv:v∈[Value.bool false,.bool false,.bool false]:=hv
  simp only[List.mem_cons,List.not_mem_nil,or_false] at hv
  rcases hv with rfl | rfl | rfl<;>rfl
 have h:Rel B' w4 [O1 p I1 (M_ { r with hard:=⟨r.hard.term+1,r.id⟩,role:=1,votes:=⟨false,false,false⟩ } lv.1),Y3 X3 lv.1 r.log,O1 t F3 (f_ o0 (.slice none 0 0) (.slice none 0 0))]:=h
 have h:=h.tick
 generalize tick w4=w4 at *
 rw[h.ld 0 rfl Y2 (o:=0) (v := .int .i64 r.id) rfl,gE0 hid]
 refine h.st 0 rfl AB (o:=6+r.id.toNat) (show 6+r.id.toNat<15 by unfold I3 at hid;omega) rfl fun w5 h=>?_
 rw[(mV (r:={ r with hard:=⟨r.hard.term+1,r.id⟩,role:=1,votes:=⟨false,false,false⟩ }) (lv:=lv.1) hid 0 true).2.2] at h
 have h:Rel B' w5 [O1 p I1 (M_ (PO r) lv.1),Y3 X3 lv.1 r.log,O1 t F3 (f_ o0 (.slice none 0 0) (.slice none 0 0))]:=h
 have hlog:(PO r).log=r.log:=rfl
 have hrid:(PO r).id=r.id:=rfl
 have hht:(PO r).hard.term=r.hard.term+1:=rfl
 generalize PO r=r' at *
 rw[Id0 (h.here (i:=0) rfl),show (Value.agg r'.hard.cs.toArray) = .agg #[.int .i64 r'.hard.term,.int .i64 r'.hard.vote] from rfl,ye0]
 refine h.R8 (ds:=f_ { o0 with save:=true,hard:=r'.hard } (.slice none 0 0) (.slice none 0 0)) qF rfl EC rfl (FE rfl rfl) fun o3 w6 h=>?_
 refine h.make (fun B2 own base2=>bg0 (r:=r') (pJ.of lv.2 (own (i:=0) rfl) (by rw[hlog];exact Y3.read (own (i:=1) rfl)))) fun ov τ w7 hp h=>?_
 subst hp
 have ho3:=sS r.id
 rw[hrid] at h
 have h:=h.VC nm0 Y1
 have h:Rel B' w7 [O1 p I1 (M_ r' lv.1),Y3 X3 lv.1 r.log,O1 t F3 (f_ o0 (.slice none 0 0) (.slice none 0 0)),O1 o3 F3 (f_ { o0 with save:=true,hard:=r'.hard } (.slice none 0 0) (.slice none 0 0)),Y3 Q0 ov (o8 r.id),Y3 Y1 (.slice none 0 0) ([]:List nm0)]:=h
 rw[O4.len (Y3.read (h.here (i:=4) rfl)) N8]
 refine F6 (fun z w'=>∃(i:Nat) (sv:SV),i≤(o8 r.id).length∧z=(.int .i64 i,())∧Rel B' w' [O1 p I1 (M_ r' lv.1),Y3 X3 lv.1 r.log,O1 t F3 (f_ o0 (.slice none 0 0) (.slice none 0 0)),O1 o3 F3 (f_ { o0 with save:=true,hard:=r'.hard } (.slice none 0 0) sv.1),Y3 Q0 ov (o8 r.id),Y3 Y1 sv.1 ((((o8 r.id).take i).map (ed0 r')).map fun m=>m.raw nC)])
  (fun z _=>(o8 r.id).length-(match z.1 with | .int _ n=>n.toNat | _=>0)) ⟨0,nC,Nat.zero_le _,rfl,h⟩ ?_
 clear h
 rintro z w8 ⟨i,sv,hi,rfl,h⟩ next hnext
 simp -zeta only[G6,K3]
 refine⟨fun hlt=>?_,fun hge=>?_⟩
 case refine_2 =>
  have:i=(o8 r.id).length:=by omega
  subst this
  rw[List.take_length] at h
  rw[h.r9 3 rfl EC rfl]
  refine BK (i:=2) h rfl rfl rfl (FE rfl sv.2) fun w9 h=>?_
  have h:Rel B' w9 ([O1 p I1 (M_ r' lv.1),Y3 X3 lv.1 r.log]++[Y3 Y1 sv.1 (((o8 r.id).map (ed0 r')).map fun m=>m.raw nC)]):=h.pick [0,1,5] (by decide)
  have h:=h.wrap (c:=wN sv.1 ((o8 r.id).map (ed0 r'))) fun B2 own=>Jz0 (fun m hm=>by obtain⟨j,_,rfl⟩:=List.mem_map.1 hm;rfl) (Y3.read (own (i:=0) rfl))
  exact k _ _ _ _ ⟨rfl,rfl⟩ (LZ (o:={ o0 with save:=true,hard:=r'.hard,send:=(o8 r.id).map (ed0 r') }) sv.2 rfl h hlog)
 have hil:i<(o8 r.id).length:=by omega
 obtain⟨g,o,hx,hc⟩:=O4.idx (Y3.read (h.here (i:=4) rfl)) N8 (P:=Tryz.prog) hil
 rw[hx,K6.ld0 hc Y2 (v := .int .i64 (o8 r.id)[i]) rfl]
 clear hc hx
 have htk:(((o8 r.id).take (i+1)).map (ed0 r')).map (fun m=>m.raw nC)=(((o8 r.id).take i).map (ed0 r')).map (fun m=>m.raw nC)++[(ed0 r' (o8 r.id)[i]).raw nC]:=by
  rw[List.take_succ_eq_append_getElem hil,List.map_append,List.map_append]
  rfl
 have hll:((((o8 r.id).take i).map (ed0 r')).map fun m=>m.raw nC).length=i:=by rw[List.length_map,List.length_map,List.length_take];omega
 generalize (((o8 r.id).take i).map (ed0 r')).map (fun m=>m.raw nC)=L at *
 generalize (o8 r.id)[i]=to_ at *
 refine h.ask (fun B2 own base2=>dX (r:=r') (pJ.of lv.2 (own (i:=0) rfl) (by rw[hlog];exact Y3.read (own (i:=1) rfl))) 0 to_) fun w9 h=>?_
 have hm0:BF0 0 r'.id to_ r'.hard.term 0 0 0 false (.slice none 0 0)=((⟨0,r'.id,to_,r'.hard.term,0,0,0,false,[]⟩:R9).raw nC).v:=rfl
 rw[hm0]
 refine h.R8 (ds:=((⟨0,r'.id,to_,r'.hard.term,0,0,0,false,[]⟩:R9).raw nC).cs.toArray) vJ rfl Z8 rfl (fun v hv=>Enc.one ((⟨0,r'.id,to_,r'.hard.term,0,0,0,false,[]⟩:R9).raw nC) v hv) fun m6 w10 h=>?_
 have h:=h.tick
 generalize tick w10=w10 at *
 simp -zeta only[U0 bF,U0 nN,U0 ZV,Nat.zero_add]
 rw[h.ld 0 rfl X5 (o:=3) (v:=lv.1) rfl,O4.len (Y3.read (h.here (i:=1) rfl)) u6,h.ld 0 rfl X5 (o:=3) (v:=lv.1) rfl,O4.len (Y3.read (h.here (i:=1) rfl)) u6]
 refine h.ask (fun B2 own base2=>gX (r:=r') (n:=r.log.length) (pJ.of lv.2 (own (i:=0) rfl) (by rw[hlog];exact Y3.read (own (i:=1) rfl))) (by rw[hlog];omega) ⟨by omega,by rw[hlog];omega⟩) fun w11 h=>?_
 have isl:Is Tryz.prog (M5 .len #[U3] Q0 #[false] #[lv.1]) (.int .i64 r.log.length) w11:=by
  have:=O4.len (P:=Tryz.prog) (w:=w11) (T:=U3) (U:=Q0) (bs:=#[false]) (Kp:=fun x=>x = .int .i64 r.log.length) (Y3.read (h.here (i:=1) rfl)) u6
  obtain⟨x,h1,rfl⟩:=this.mpr rfl
  exact h1
 refine⟨isl,h.is 0 rfl X5 (o:=3) rfl,?_⟩
 refine h.st 6 rfl Y2 (o:=4) (show 4<9 by omega) rfl fun w12 h=>?_
 refine h.st 6 rfl Y2 (o:=5) (show 5<9 by omega) rfl fun w13 h=>?_
 rw[h.ld 3 rfl pR (o:=5) (v:=sv.1) rfl,h.r9 6 rfl Z8 rfl]
 refine h.WS (α:=nm0) 5 rfl ((ed0 r' to_).raw nC) vL (by decide) (by omega) (by omega) (hx:=by unfold ed0;rw[hlog];rfl) fun v' w14 h=>?_
 ·have hv1:v'.oneCell'=true:=h.oneCell (i:=5) rfl
  refine h.st 3 rfl pR (o:=5) (show 5<6 by omega) hv1 fun w15 h=>?_
  rw[Z5,E5 (by omega) (by omega)]
  refine hnext _ _ ⟨i+1,⟨v',hv1⟩,hil,rfl,?_⟩ (by simp only;omega)
  rw[htk]
  exact h.take 6
end
end Go.Proofs.YtngbebnhegcokaaGreatDoor

namespace Go.Proofs.YtngbebnhegcokaaGreatDoor
open Go.RowKit
set_option maxRecDepth 100000
def OU(t:T3 Bool):Nat→Nat
 | 0=>0
 | 1=>if t.a then 1 else 0
 | 2=>(if t.a then 1 else 0)+(if t.b then 1 else 0)
 | _=>OV t
def Bc0(r:G8):Nat→G8
 | 0=>{ r with role:=2 }
 | i+1=>{ Bc0 r i with next:=(Bc0 r i).next.set i (r.log.length+1),mtch:=(Bc0 r i).mtch.set i 0 }
theorem wF0(r:G8):Bc0 r 3=AZ r:=rfl
theorem Kf0{r:G8}(hk:Y9 r):Y9 (AZ r) where
 id:=hk.id
 term:=hk.term
 vote:=hk.vote
 len:=hk.len
 sound:=hk.sound
 role := .inr (.inr rfl)
 commit:=hk.commit
 next:=fun _ i hi=>by
  rcases hi.cases with rfl | rfl | rfl<;>(show 1≤((r.log.length:Int)+1)∧((r.log.length:Int)+1)≤(r.log.length:Int)+1;omega)
 mtch:=fun _ i hi=>by
  rcases hi.cases with rfl | rfl | rfl<;>(show (0:Int)≤0∧(0:Int)≤(r.log.length:Int);omega)
theorem VZ{r:G8}(hk:Y9 r)(t:T3 Bool):Y9 { r with votes:=t }:=⟨hk.id,hk.term,hk.vote,hk.len,hk.sound,hk.role,hk.commit,hk.next,hk.mtch⟩
def aj0(r:G8):Int:=(o8 r.id).foldl (fun a i=>max a (r.mtch.get i)) 0
def kJ(r:G8):G8:=if r.commit<aj0 r∧bK r.log (aj0 r)=r.hard.term then { r with commit:=aj0 r } else r
theorem qf0{f:Int→Int}{n:Int}:∀{l:List Int} {a:Int},(∀i∈l,f i≤n)→0≤a→a≤n→0≤l.foldl (fun a i=>max a (f i)) a∧l.foldl (fun a i=>max a (f i)) a≤n
 | [],_,_,h0,h1=>⟨h0,h1⟩
 | i :: l,a,h,h0,h1=>by
  have:=h i (List.mem_cons_self ..)
  exact qf0 (l:=l) (fun j hj=>h j (List.mem_cons_of_mem _ hj)) (show 0≤max a (f i) by omega) (show max a (f i)≤n by omega)
theorem Qf0{r:G8}(hk:Y9 r)(hl:r.role=2):0≤aj0 r∧aj0 r≤r.log.length :=
 qf0 (fun i hi=>(hk.mtch hl i (sU hi)).2) (Int.le_refl 0) (by omega)
theorem nF0{Kp:Value→Prop}{a b c:Bool}:M0 Tryz.prog (IY VH (.agg #[.bool a,.bool b,.bool c]) (.int .i64 (0:Nat))) Kp=Kp (.bool a)∧M0 Tryz.prog (IY VH (.agg #[.bool a,.bool b,.bool c]) (.int .i64 (1:Nat))) Kp=Kp (.bool b)∧M0 Tryz.prog (IY VH (.agg #[.bool a,.bool b,.bool c]) (.int .i64 (2:Nat))) Kp=Kp (.bool c) :=
 ⟨F5 fun w=>by kernel_rfl,F5 fun w=>by kernel_rfl,F5 fun w=>by kernel_rfl⟩
section
variable {B:Base} {w:World} {σ τ:List Dat} {p:Nat} {r:G8} {K:Value→World→Prop}
theorem Zo0{lv:Value}(h:O1 p I1 (M_ r lv) B):K6 p 6 [Value.bool r.votes.a,.bool r.votes.b,.bool r.votes.c] B:=O1.sub h rfl
theorem SA0{lv:Value}{Kp:Value→Prop}(h:(O1 p I1 (M_ r lv)).here w):Y0 Tryz.prog (X0 VH (.pointer (some ⟨p,6,none⟩))) w Kp=Kp (.agg #[.bool r.votes.a,.bool r.votes.b,.bool r.votes.c]):=K6.r9 (Zo0 h) zG0 rfl
set_option maxHeartbeats 2000000 in
theorem JD0(hk:Y9 r){m:R9}{v:SV}(hf:I3 m.from_):Does Tryz.prog B (bA p r) (Z0 RH #[ptr p,(m.raw v).v]) fun u e' τ=>e'=bA p (Yb0 r m).1∧τ=[eG u (Yb0 r m).2]:=by
 refine Does.intro fun B' w K base h k=>?_
 refine RF.up ?_
 unfold RF.pt
 obtain⟨lv,h⟩:=bA.open h
 have h:Rel B' w [O1 p I1 (M_ r lv.1),Y3 X3 lv.1 r.log]:=h
 have hlen:=hk.len
 refine h.box fun o w1 h=>?_
 have h:Rel B' w1 [O1 p I1 (M_ r lv.1),Y3 X3 lv.1 r.log,O1 o Y1 (m.raw v).cs.toArray]:=h
 refine h.alloc qF fun t w2 h=>?_
 have h:Rel B' w2 [O1 p I1 (M_ r lv.1),Y3 X3 lv.1 r.log,O1 o Y1 (m.raw v).cs.toArray,O1 t F3 (f_ o0 (.slice none 0 0) (.slice none 0 0))]:=h
 have h:=h.tick
 generalize tick w2=w2 at *
 unfold Yb0 at k
 simp -zeta only[J5,U0 w_,U0 x_,U0 NC,U0 AQ,U0 UL,U0 VL,U0 KC,U0 lN,U0 uK,U0 vK,Nat.zero_add,Nat.add_zero]
 rw[h.ld 0 rfl Y2 (o:=4) (v := .int .i64 r.role) rfl,Q7,G5,K3]
 refine⟨fun c1=>?_,fun c1=>?_⟩
 case refine_2 =>
  rw[if_pos (.inl c1)] at k
  refine UI (i:=3) h rfl rfl fun w3 h=>?_
  exact k _ _ _ _ ⟨rfl,rfl⟩ (oD (h.pick [0,1] (by decide)) rfl)
 rw[h.ld 2 rfl Y2 (o:=3) (v := .int .i64 m.term) rfl,h.ld 0 rfl Y2 (o:=1) (v := .int .i64 r.hard.term) rfl,Q7,G5,K3]
 refine⟨fun c2=>?_,fun c2=>?_⟩
 case refine_2 =>
  rw[if_pos (.inr (.inl c2))] at k
  refine UI (i:=3) h rfl rfl fun w3 h=>?_
  exact k _ _ _ _ ⟨rfl,rfl⟩ (oD (h.pick [0,1] (by decide)) rfl)
 rw[h.ld 2 rfl AB (o:=7) (v := .bool m.yes) rfl,V7,G5,R5]
 refine⟨fun c3=>?_,fun c3=>?_⟩
 case refine_2 =>
  rw[if_pos (.inr (.inr c3))] at k
  refine UI (i:=3) h rfl rfl fun w3 h=>?_
  exact k _ _ _ _ ⟨rfl,rfl⟩ (oD (h.pick [0,1] (by decide)) rfl)
 rw[if_neg (fun hh=>hh.elim (fun h=>h c1) fun hh=>hh.elim (fun h=>h c2) fun h=>by rw[c3] at h;cases h)] at k
 have h:=h.tick
 generalize tick w2=w2 at *
 rw[h.ld 2 rfl Y2 (o:=1) (v := .int .i64 m.from_) rfl,gE0 hf]
 refine h.st 0 rfl AB (o:=6+m.from_.toNat) (show 6+m.from_.toNat<15 by unfold I3 at hf;omega) rfl fun w5 h=>?_
 rw[(mV (r:=r) (lv:=lv.1) hf 0 true).2.2] at h
 have hk:Y9 { r with votes:=r.votes.set m.from_ true }:=VZ hk _
 have hlog:r.log={ r with votes:=r.votes.set m.from_ true }.log:=rfl
 have h:Rel B' w5 [O1 p I1 (M_ { r with votes:=r.votes.set m.from_ true } lv.1),Y3 X3 lv.1 r.log,O1 o Y1 (m.raw v).cs.toArray,O1 t F3 (f_ o0 (.slice none 0 0) (.slice none 0 0))]:=h
 have hct:OV (r.votes.set m.from_ true)=OV { r with votes:=r.votes.set m.from_ true }.votes:=rfl
 rw[hct] at k
 clear hct
 rw[hlog] at h hlen
 clear hlog
 generalize { r with votes:=r.votes.set m.from_ true }=r at *
 rw[SA0 (h.here (i:=0) rfl)]
 refine F6 (fun z w'=>∃i:Nat,i≤3∧z=(.int .i64 (OU r.votes i),.int .i64 i,())∧Rel B' w' [O1 p I1 (M_ r lv.1),Y3 X3 lv.1 r.log,O1 o Y1 (m.raw v).cs.toArray,O1 t F3 (f_ o0 (.slice none 0 0) (.slice none 0 0))])
  (fun z _=>3-(match z.2.1 with | .int _ n=>n.toNat | _=>0)) ⟨0,by omega,rfl,h⟩ ?_
 clear h
 rintro z w6 ⟨i,hi,rfl,h⟩ next hnext
 simp -zeta only[G6,K3]
 refine⟨fun hlt=>?_,fun hge=>?_⟩
 ·refine P6 fun J hJ=>?_
  replace hJ:∀w',Rel B' w' [O1 p I1 (M_ r lv.1),Y3 X3 lv.1 r.log,O1 o Y1 (m.raw v).cs.toArray,O1 t F3 (f_ o0 (.slice none 0 0) (.slice none 0 0))]→J (.int .i64 (OU r.votes (i+1)),()) w':=by
   intro w' h
   refine hJ _ _ ?_
   rw[Z5,E5 (by omega) (by omega)]
   exact hnext _ _ ⟨i+1,by omega,rfl,h⟩ (by simp only;omega)
  clear hnext
  have hi3:i=0∨i=1∨i=2:=by omega
  rcases hi3 with rfl | rfl | rfl
  ·rw[nF0.1,R5]
   refine⟨fun c=>?_,fun c=>?_⟩
   ·rw[Z5]
    have e:IntKind.wrap .i64 ((OU r.votes 0:Nat)+1)=((OU r.votes (0+1):Nat):Int):=by
     unfold OU
     rw[if_pos c]
     rfl
    rw[e]
    exact hJ _ h
   ·have e:OU r.votes (0+1)=OU r.votes 0:=by
     show (if r.votes.a=true then 1 else 0)=0
     rw[if_neg (by rw[c];decide)]
    rw[e] at hJ
    exact hJ _ h
  ·rw[nF0.2.1,R5]
   refine⟨fun c=>?_,fun c=>?_⟩
   ·rw[Z5]
    have e:IntKind.wrap .i64 ((OU r.votes 1:Nat)+1)=((OU r.votes (1+1):Nat):Int):=by
     show IntKind.wrap .i64 (((if r.votes.a=true then 1 else 0:Nat):Int)+1)=(((if r.votes.a=true then 1 else 0)+(if r.votes.b=true then 1 else 0):Nat):Int)
     rw[if_pos c]
     generalize r.votes.a=x
     cases x<;>rfl
    rw[e]
    exact hJ _ h
   ·have e:OU r.votes (1+1)=OU r.votes 1:=by
     show (if r.votes.a=true then 1 else 0)+(if r.votes.b=true then 1 else 0)=(if r.votes.a=true then 1 else 0)
     rw[if_neg (c:=r.votes.b=true) (by rw[c];decide),Nat.add_zero]
    rw[e] at hJ
    exact hJ _ h
  ·rw[nF0.2.2,R5]
   refine⟨fun c=>?_,fun c=>?_⟩
   ·rw[Z5]
    have e:IntKind.wrap .i64 ((OU r.votes 2:Nat)+1)=((OU r.votes (2+1):Nat):Int):=by
     show IntKind.wrap .i64 ((((if r.votes.a=true then 1 else 0)+(if r.votes.b=true then 1 else 0):Nat):Int)+1)=(((if r.votes.a=true then 1 else 0)+(if r.votes.b=true then 1 else 0)+(if r.votes.c=true then 1 else 0):Nat):Int)
     rw[if_pos (c:=r.votes.c=true) c]
     generalize r.votes.a=x
     generalize r.votes.b=y
     cases x<;>cases y<;>rfl
    rw[e]
    exact hJ _ h
   ·have e:OU r.votes (2+1)=OU r.votes 2:=by
     show (if r.votes.a=true then 1 else 0)+(if r.votes.b=true then 1 else 0)+(if r.votes.c=true then 1 else 0)=(if r.votes.a=true then 1 else 0)+(if r.votes.b=true then 1 else 0)
     rw[if_neg (c:=r.votes.c=true) (by rw[c];decide),Nat.add_zero]
    rw[e] at hJ
    exact hJ _ h
 have:i=3:=by omega
 subst this
 refine⟨fun c4=>?_,fun c4=>?_⟩
 ·have c4:OV r.votes<2:=by
   have:((OU r.votes 3:Nat):Int)<2:=c4
   have e:OU r.votes 3=OV r.votes:=rfl
   omega
  rw[if_pos c4] at k
  refine UI (i:=3) h rfl rfl fun w3 h=>?_
  exact k _ _ _ _ ⟨rfl,rfl⟩ (oD (h.pick [0,1] (by decide)) rfl)
 have c4:¬OV r.votes<2:=by
  have:¬((OU r.votes 3:Nat):Int)<2:=c4
  have e:OU r.votes 3=OV r.votes:=rfl
  omega
 rw[if_neg c4] at k
 refine h.st 0 rfl Y2 (o:=4) (show 4<15 by omega) rfl fun w7 h=>?_
 refine F6 (fun z w'=>∃i:Nat,i≤3∧z=(.int .i64 i,())∧Rel B' w' [O1 p I1 (M_ (Bc0 r i) lv.1),Y3 X3 lv.1 r.log,O1 o Y1 (m.raw v).cs.toArray,O1 t F3 (f_ o0 (.slice none 0 0) (.slice none 0 0))])
  (fun z _=>3-(match z.1 with | .int _ n=>n.toNat | _=>0)) ⟨0,by omega,rfl,h⟩ ?_
 clear h
 rintro z w8 ⟨i,hi,rfl,h⟩ next hnext
 simp -zeta only[G6,K3]
 refine⟨fun hlt=>?_,fun hge=>?_⟩
 ·have h:=h.tick
  generalize tick w8=w8 at *
  have hi3:I3 (i:Int):=by unfold I3;omega
  rw[h.ld 0 rfl X5 (o:=3) (v:=lv.1) rfl,O4.len (Y3.read (h.here (i:=1) rfl)) u6,Z5,E5 (by omega) (by omega),bv0 hi3]
  refine h.st 0 rfl Y2 (o:=9+(i:Int).toNat) (show 9+(i:Int).toNat<15 by omega) rfl fun w9 h=>?_
  rw[(mV (r:=Bc0 r i) (lv:=lv.1) hi3 (r.log.length+1) true).1] at h
  rw[bv0 hi3]
  refine h.st 0 rfl Y2 (o:=12+(i:Int).toNat) (show 12+(i:Int).toNat<15 by omega) rfl fun w9 h=>?_
  rw[(mV (r:={ Bc0 r i with next:=(Bc0 r i).next.set i (r.log.length+1) }) (lv:=lv.1) hi3 0 true).2.1] at h
  rw[Z5,E5 (by omega) (by omega)]
  exact hnext _ _ ⟨i+1,by omega,rfl,h⟩ (by simp only;omega)
 have:i=3:=by omega
 subst this
 rw[wF0] at h
 have hll:(AZ r).log=r.log:=rfl
 refine h.make (fun B2 own base2=>Ar0 (pJ.of lv.2 (own (i:=0) rfl) (Y3.read (own (i:=1) rfl))) (Kf0 hk) rfl) fun u τ w2 hp h=>?_
 obtain⟨rfl,x,n,c,rfl⟩:=hp
 rw[MU]
 refine BK (i:=3) h rfl rfl rfl (FE (o:={ o0 with send:=PR (AZ r) }) rfl (rfl:(Value.slice x n c).oneCell'=true)) fun w3 h=>?_
 exact k _ _ _ _ ⟨rfl,rfl⟩ (LZ (o:={ o0 with send:=PR (AZ r) }) rfl rfl (h.pick [0,1,4] (by decide)) rfl)
set_option maxHeartbeats 1000000 in
theorem Zt0(hk:Y9 r)(hl:r.role=2):Does Tryz.prog B (bA p r) (Z0 ZF #[ptr p]) fun _ e' τ=>e'=bA p (kJ r)∧τ=[]:=by
 refine Does.intro fun B' w K base h k=>?_
 refine fE.up ?_
 unfold fE.pt
 obtain⟨lv,h⟩:=bA.open h
 have h:Rel B' w [O1 p I1 (M_ r lv.1),Y3 X3 lv.1 r.log]:=h
 have hlen:=hk.len
 have hmr:=Qf0 hk hl
 have fin:∀(r':G8) (z:Value) (w':World),kJ r=r'→r'.log=r.log→Rel B' w' [O1 p I1 (M_ r' lv.1),Y3 X3 lv.1 r.log]→K z w':=by
  intro r' z w' e elog h
  refine k z _ [] w' ⟨rfl,rfl⟩ ?_
  rw[e]
  refine bA.close lv ?_
  unfold Rz0
  rw[elog]
  exact h
 clear k
 unfold kJ at fin
 refine h.make (fun B2 own base2=>bg0 (pJ.of lv.2 (own (i:=0) rfl) (Y3.read (own (i:=1) rfl)))) fun ov τ w1 hp h=>?_
 subst hp
 have h:Rel B' w1 [O1 p I1 (M_ r lv.1),Y3 X3 lv.1 r.log,Y3 Q0 ov (o8 r.id)]:=h
 have ho3:=sS r.id
 rw[O4.len (Y3.read (h.here (i:=2) rfl)) N8]
 refine F6 (fun z w'=>∃i:Nat,i≤(o8 r.id).length∧z=(.int .i64 (((o8 r.id).take i).foldl (fun a i=>max a (r.mtch.get i)) 0),.int .i64 i,())∧Rel B' w' [O1 p I1 (M_ r lv.1),Y3 X3 lv.1 r.log,Y3 Q0 ov (o8 r.id)])
  (fun z _=>(o8 r.id).length-(match z.2.1 with | .int _ n=>n.toNat | _=>0)) ⟨0,Nat.zero_le _,rfl,h⟩ ?_
 clear h
 rintro z w2 ⟨i,hi,rfl,h⟩ next hnext
 simp -zeta only[G6,K3]
 refine⟨fun hlt=>?_,fun hge=>?_⟩
 ·have hil:i<(o8 r.id).length:=by omega
  have hmem:=sU (List.getElem_mem hil)
  obtain⟨g,o,hx,hc⟩:=O4.idx (Y3.read (h.here (i:=2) rfl)) N8 (P:=Tryz.prog) hil
  rw[hx,K6.ld0 hc Y2 (v := .int .i64 (o8 r.id)[i]) rfl]
  clear hc hx
  simp -zeta only[J5,U0 VL,Nat.zero_add]
  rw[bv0 hmem,h.ld 0 rfl Y2 (o:=12+((o8 r.id)[i]).toNat) (XU hmem).2.1,II,Z5,E5 (by omega) (by omega)]
  refine hnext _ _ ⟨i+1,hil,?_,h⟩ (by simp only;omega)
  rw[List.take_succ_eq_append_getElem hil,List.foldl_append]
  rfl
 have:i=(o8 r.id).length:=by omega
 subst this
 rw[List.take_length]
 have em:(o8 r.id).foldl (fun a i=>max a (r.mtch.get i)) 0=aj0 r:=rfl
 rw[em]
 have h:=h.tick
 generalize tick w2=w2 at *
 simp -zeta only[J5,U0 w_,U0 lH,U0 KC,Nat.zero_add,Nat.add_zero]
 rw[h.ld 0 rfl Y2 (o:=5) (v := .int .i64 r.commit) rfl,x9,K3]
 refine⟨fun c1=>?_,fun c1=>?_⟩
 case refine_2 =>
  rw[if_neg (fun hh=>c1 hh.1)] at fin
  exact fin r _ _ rfl rfl (h.pick [0,1] (by decide))
 rw[h.ld 0 rfl Y2 (o:=1) (v := .int .i64 r.hard.term) rfl]
 refine h.ask (fun B2 own base2=>gX (pJ.of lv.2 (own (i:=0) rfl) (Y3.read (own (i:=1) rfl))) (by omega) hmr) fun w3 h=>?_
 refine⟨h.is 0 rfl Y2 (o:=1) rfl,?_⟩
 rw[F7,K3]
 refine⟨fun c2=>?_,fun c2=>?_⟩
 case refine_2 =>
  rw[if_neg (fun hh=>c2 hh.2)] at fin
  exact fin r _ _ rfl rfl (h.pick [0,1] (by decide))
 refine h.st 0 rfl Y2 (o:=5) (show 5<15 by omega) rfl fun w4 h=>?_
 rw[if_pos ⟨c1,c2⟩] at fin
 exact fin _ _ _ rfl rfl (h.pick [0,1] (by decide))
end
end Go.Proofs.YtngbebnhegcokaaGreatDoor

namespace Go.Proofs.YtngbebnhegcokaaGreatDoor
open Go.RowKit
set_option maxRecDepth 100000
theorem T3.IA{α:Type}(t:T3 α){i:Int}(hi:I3 i)(x:α):(t.set i x).get i=x:=by
 rcases hi.cases with rfl | rfl | rfl<;>rfl
theorem T3.WG{α:Type}(t:T3 α){i j:Int}(hi:I3 i)(hj:I3 j)(x:α)(h:j≠i):(t.set i x).get j=t.get j:=by
 rcases hi.cases with rfl | rfl | rfl<;>rcases hj.cases with rfl | rfl | rfl<;>first | rfl | exact absurd rfl h
theorem Ud0{r:G8}(hk:Y9 r){i n:Int}(hi:I3 i)(hn:1≤n∧n≤r.log.length+1):Y9 { r with next:=r.next.set i n } :=
 ⟨hk.id,hk.term,hk.vote,hk.len,hk.sound,hk.role,hk.commit,fun hl j hj=>by
  show 1≤(r.next.set i n).get j∧(r.next.set i n).get j≤_
  by_cases c:j=i
  ·rw[c,T3.IA _ hi];exact hn
  ·rw[T3.WG _ hi hj _ c];exact hk.next hl j hj,hk.mtch⟩
theorem Ms0{r:G8}(hk:Y9 r){i n:Int}(hi:I3 i)(hn:0≤n∧n≤r.log.length):Y9 { r with mtch:=r.mtch.set i n } :=
 ⟨hk.id,hk.term,hk.vote,hk.len,hk.sound,hk.role,hk.commit,hk.next,fun hl j hj=>by
  show 0≤(r.mtch.set i n).get j∧(r.mtch.set i n).get j≤_
  by_cases c:j=i
  ·rw[c,T3.IA _ hi];exact hn
  ·rw[T3.WG _ hi hj _ c];exact hk.mtch hl j hj⟩
theorem qe0{r:G8}(hk:Y9 r)(hl:r.role=2):Y9 (kJ r):=by
 have:=Qf0 hk hl
 unfold kJ
 split
 ·exact⟨hk.id,hk.term,hk.vote,hk.len,hk.sound,hk.role,this,hk.next,hk.mtch⟩
 ·exact hk
theorem bk0(r:G8):(kJ r).role=r.role∧(kJ r).log=r.log∧(kJ r).next=r.next:=by unfold kJ;split<;>exact⟨rfl,rfl,rfl⟩
def li0(r:G8)(m:R9):G8:={ r with next:=r.next.set m.from_ (max (r.mtch.get m.from_+1) (min (r.next.get m.from_-1) (m.index+1))) }
def BV(r:G8)(m:R9):G8:=kJ { r with mtch:=r.mtch.set m.from_ (max (r.mtch.get m.from_) m.index),next:=r.next.set m.from_ (max (r.mtch.get m.from_) m.index+1) }
def vR(r:G8)(m:R9):G8×vE :=
 if r.role≠2∨m.term≠r.hard.term∨(m.yes=true∧(r.log.length:Int)<m.index) then(r,o0)
 else if m.yes=false then(li0 r m,{ o0 with send:=[z_ (li0 r m) m.from_] })
 else if max (r.mtch.get m.from_) m.index+1≤r.log.length then(BV r m,{ o0 with send:=[z_ (BV r m) m.from_] })
 else(BV r m,o0)
section
variable {B:Base} {w:World} {σ τ:List Dat} {p:Nat} {r:G8} {K:Value→World→Prop}
set_option maxHeartbeats 2000000 in
theorem yt0{lv:SV}{o t:Nat}{cs ds:Array Value}(hk:Y9 r)(hlead:r.role=2){to_:Int}(ht:I3 to_)(hc:cs.size=6)
  (h:Rel B w [O1 p I1 (M_ r lv.1),Y3 X3 lv.1 r.log,O1 o Y1 ds,O1 t F3 cs])
  (k:∀u w',Rel B w' [bA p r,eG u { o0 with send:=[z_ r to_] }]→K u w') :
  upK Tryz.prog (Z0 yA #[ptr p,.int .i64 to_]) w fun t70 w5 =>
  upK Tryz.prog (Z0 A_ #[t70]) w5 fun t71 w6 =>
  upK Tryz.prog (I4 F3 (.pointer (some ⟨t,0,none⟩)) t71) w6 fun _ w7 =>
  U9 Tryz.prog (do loadVar F3 (←asAddr (.pointer (some ⟨t,0,none⟩)))) w7 fun t4_1=>K t4_1 w7:=by
 refine h.make (fun B2 own base2=>wi0 (pJ.of lv.2 (own (i:=0) rfl) (Y3.read (own (i:=1) rfl))) hk hlead ht) fun u τ w1 hp h=>?_
 obtain⟨v,rfl,rfl⟩:=hp
 refine h.make (fun B2 own base2=>te0 (m:=z_ r to_) (v:=v) (Y3.read (own (i:=4) rfl))) fun u τ w2 hp h=>?_
 obtain⟨s,rfl,rfl⟩:=hp
 refine BK (i:=3) h rfl hc rfl (FE (o:={ o0 with send:=[z_ r to_] }) rfl s.2) fun w3 h=>?_
 have h:=h.pick [0,1,4,5] (by decide)
 have h:Rel B w3 ([O1 p I1 (M_ r lv.1),Y3 X3 lv.1 r.log]++[Y3 X3 v.1 (z_ r to_).recs,Y3 Y1 s.1 [(z_ r to_).raw v]]):=h
 have h:=h.wrap (c:=eG (.agg (f_ { o0 with send:=[z_ r to_] } (.slice none 0 0) s.1)) { o0 with send:=[z_ r to_] }) fun B2 own=>eG.of rfl s.2 AX (CZ (Y3.read (own (i:=1) rfl)) (Y3.read (own (i:=0) rfl)))
 exact k _ _ (bA.close lv h)
set_option maxHeartbeats 2000000 in
theorem np0(hk:Y9 r){m:R9}{v:SV}(hf:I3 m.from_)(hi:0≤m.index∧m.index≤4000):Does Tryz.prog B (bA p r) (Z0 rF #[ptr p,(m.raw v).v]) fun u e' τ=>e'=bA p (vR r m).1∧τ=[eG u (vR r m).2]:=by
 refine Does.intro fun B' w K base h k=>?_
 refine vD.up ?_
 unfold vD.pt
 obtain⟨lv,h⟩:=bA.open h
 have h:Rel B' w [O1 p I1 (M_ r lv.1),Y3 X3 lv.1 r.log]:=h
 have hlen:=hk.len
 refine h.box fun o w1 h=>?_
 have h:Rel B' w1 [O1 p I1 (M_ r lv.1),Y3 X3 lv.1 r.log,O1 o Y1 (m.raw v).cs.toArray]:=h
 refine h.alloc qF fun t w2 h=>?_
 have h:Rel B' w2 [O1 p I1 (M_ r lv.1),Y3 X3 lv.1 r.log,O1 o Y1 (m.raw v).cs.toArray,O1 t F3 (f_ o0 (.slice none 0 0) (.slice none 0 0))]:=h
 refine P6 fun J hJ=>?_
 have h:=h.tick
 generalize tick w2=w2 at *
 unfold vR at k
 simp -zeta only[J5,U0 w_,U0 x_,U0 NC,U0 KC,U0 uK,U0 bF,U0 vK,Nat.zero_add,Nat.add_zero]
 rw[h.ld 0 rfl Y2 (o:=4) (v := .int .i64 r.role) rfl,Q7,G5,K3]
 refine⟨fun c1=>?_,fun c1=>?_⟩
 case refine_2 =>
  rw[if_pos (.inl c1)] at k
  refine UI (i:=3) h rfl rfl fun w3 h=>?_
  exact k _ _ _ _ ⟨rfl,rfl⟩ (oD (h.pick [0,1] (by decide)) rfl)
 rw[h.ld 2 rfl Y2 (o:=3) (v := .int .i64 m.term) rfl,h.ld 0 rfl Y2 (o:=1) (v := .int .i64 r.hard.term) rfl,Q7,G5,K3]
 refine⟨fun c2=>?_,fun c2=>?_⟩
 case refine_2 =>
  rw[if_pos (.inr (.inl c2))] at k
  refine UI (i:=3) h rfl rfl fun w3 h=>?_
  exact k _ _ _ _ ⟨rfl,rfl⟩ (oD (h.pick [0,1] (by decide)) rfl)
 have go:¬(m.yes=true∧(r.log.length:Int)<m.index)→∀w',Rel B' w' [O1 p I1 (M_ r lv.1),Y3 X3 lv.1 r.log,O1 o Y1 (m.raw v).cs.toArray,O1 t F3 (f_ o0 (.slice none 0 0) (.slice none 0 0))]→J () w':=by
  intro c3 w' h
  refine hJ _ _ ?_
  clear hJ
  rw[if_neg (fun hh=>hh.elim (fun h=>h c1) fun hh=>hh.elim (fun h=>h c2) c3)] at k
  have h:=h.tick
  generalize tick w'=w' at *
  simp -zeta only[U0 lN,Nat.zero_add]
  rw[h.ld 2 rfl Y2 (o:=1) (v := .int .i64 m.from_) rfl]
  simp -zeta only[J5,U0 UL,U0 VL,U0 bF,U0 vK,Nat.zero_add]
  rw[bv0 hf,h.ld 2 rfl Y2 (o:=1) (v := .int .i64 m.from_) rfl,bv0 hf]
  simp -zeta only[J5]
  have hn:=hk.next c1 _ hf
  have hm:=hk.mtch c1 _ hf
  rw[h.ld 2 rfl AB (o:=7) (v := .bool m.yes) rfl,V7,G5,R5]
  have h:=h.tick
  generalize tick w'=w' at *
  refine⟨fun c4=>?_,fun c4=>?_⟩
  ·rw[if_neg (by rw[c4];decide)] at k
   have c5:m.index≤r.log.length:=by
    by_cases c:(r.log.length:Int)<m.index
    ·exact absurd ⟨c4,c⟩ c3
    ·omega
   rw[h.ld 0 rfl Y2 (o:=12+m.from_.toNat) (XU hf).2.1,h.ld 2 rfl Y2 (o:=4) (v := .int .i64 m.index) rfl,II]
   refine h.st 0 rfl Y2 (o:=12+m.from_.toNat) (show 12+m.from_.toNat<15 by unfold I3 at hf;omega) rfl fun w3 h=>?_
   rw[(mV (r:=r) (lv:=lv.1) hf _ true).2.1] at h
   have g:=(XU (r:={ r with mtch:=r.mtch.set m.from_ (max (r.mtch.get m.from_) m.index) }) (lv:=lv.1) hf).2.1
   rw[show T3.get ({ r with mtch:=r.mtch.set m.from_ (max (r.mtch.get m.from_) m.index) }:G8).mtch m.from_=max (r.mtch.get m.from_) m.index from T3.IA _ hf _] at g
   have h:Rel B' w3 [O1 p I1 (M_ { r with mtch:=r.mtch.set m.from_ (max (r.mtch.get m.from_) m.index) } lv.1),Y3 X3 lv.1 r.log,O1 o Y1 (m.raw v).cs.toArray,O1 t F3 (f_ o0 (.slice none 0 0) (.slice none 0 0))]:=h
   rw[h.ld 0 rfl Y2 (o:=12+m.from_.toNat) g,Z5,E5 (by omega) (by omega)]
   refine h.st 0 rfl Y2 (o:=9+m.from_.toNat) (show 9+m.from_.toNat<15 by unfold I3 at hf;omega) rfl fun w4 h=>?_
   rw[(mV (r:={ r with mtch:=r.mtch.set m.from_ (max (r.mtch.get m.from_) m.index) }) (lv:=lv.1) hf _ true).1] at h
   have hk2:Y9 { r with mtch:=r.mtch.set m.from_ (max (r.mtch.get m.from_) m.index),next:=r.next.set m.from_ (max (r.mtch.get m.from_) m.index+1) }:=Ud0 (r:={ r with mtch:=r.mtch.set m.from_ (max (r.mtch.get m.from_) m.index) }) (Ms0 hk hf (by omega)) hf (by show _∧_≤(r.log.length:Int)+1;omega)
   have h:Rel B' w4 ([O1 p I1 (M_ { r with mtch:=r.mtch.set m.from_ (max (r.mtch.get m.from_) m.index),next:=r.next.set m.from_ (max (r.mtch.get m.from_) m.index+1) } lv.1),Y3 X3 lv.1 r.log]++[O1 o Y1 (m.raw v).cs.toArray,O1 t F3 (f_ o0 (.slice none 0 0) (.slice none 0 0))]):=h
   have h:=bA.close (r:={ r with mtch:=r.mtch.set m.from_ (max (r.mtch.get m.from_) m.index),next:=r.next.set m.from_ (max (r.mtch.get m.from_) m.index+1) }) lv h
   refine h.act 0 rfl (fun B2 own base2=>Zt0 hk2 c1) fun u e' τ w5 hp h=>?_
   obtain⟨rfl,rfl⟩:=hp
   have hac:=bk0 { r with mtch:=r.mtch.set m.from_ (max (r.mtch.get m.from_) m.index),next:=r.next.set m.from_ (max (r.mtch.get m.from_) m.index+1) }
   have hk3:=qe0 hk2 c1
   have e1:(BV r m).log=r.log:=hac.2.1
   have e2:(BV r m).role=2:=hac.1.trans c1
   have e3:(BV r m).next.get m.from_=max (r.mtch.get m.from_) m.index+1:=by
    rw[show (BV r m).next=r.next.set m.from_ (max (r.mtch.get m.from_) m.index+1) from hac.2.2]
    exact T3.IA _ hf _
   have h:Rel B' w5 (bA p (BV r m) :: [O1 o Y1 (m.raw v).cs.toArray,O1 t F3 (f_ o0 (.slice none 0 0) (.slice none 0 0))]):=h
   have hk3:Y9 (BV r m):=hk3
   generalize BV r m=r2 at *
   clear hac hk2
   obtain⟨lv2,h⟩:=bA.open h
   have h:Rel B' w5 [O1 p I1 (M_ r2 lv2.1),Y3 X3 lv2.1 r2.log,O1 o Y1 (m.raw v).cs.toArray,O1 t F3 (f_ o0 (.slice none 0 0) (.slice none 0 0))]:=h
   have h:=h.tick
   generalize tick w5=w5 at *
   have g2:=(XU (r:=r2) (lv:=lv2.1) hf).1
   rw[e3] at g2
   rw[h.ld 0 rfl Y2 (o:=9+m.from_.toNat) g2]
   simp -zeta only[J5,U0 x_,Nat.zero_add]
   rw[h.ld 0 rfl X5 (o:=3) (v:=lv2.1) rfl,O4.len (Y3.read (h.here (i:=1) rfl)) u6,WC,K3,e1]
   refine⟨fun c6=>?_,fun c6=>?_⟩
   ·rw[if_pos c6] at k
    rw[h.ld 2 rfl Y2 (o:=1) (v := .int .i64 m.from_) rfl]
    exact yt0 hk3 e2 hf rfl h fun u w' h=>k _ _ _ _ ⟨rfl,rfl⟩ h
   ·rw[if_neg c6] at k
    refine UI (i:=3) h rfl rfl fun w3 h=>?_
    exact k _ _ _ _ ⟨rfl,rfl⟩ (oD (h.pick [0,1] (by decide)) rfl)
  ·rw[if_pos c4] at k
   rw[h.ld 0 rfl Y2 (o:=12+m.from_.toNat) (XU hf).2.1,Z5,E5 (by omega) (by omega),h.ld 0 rfl Y2 (o:=9+m.from_.toNat) (XU hf).1,TB,E5 (by omega) (by omega),h.ld 2 rfl Y2 (o:=4) (v := .int .i64 m.index) rfl,Z5,E5 (by omega) (by omega),YK,II]
   refine h.st 0 rfl Y2 (o:=9+m.from_.toNat) (show 9+m.from_.toNat<15 by unfold I3 at hf;omega) rfl fun w3 h=>?_
   rw[(mV (r:=r) (lv:=lv.1) hf _ true).1] at h
   have hk2:Y9 (li0 r m):=Ud0 hk hf (by omega)
   have h:Rel B' w3 [O1 p I1 (M_ (li0 r m) lv.1),Y3 X3 lv.1 (li0 r m).log,O1 o Y1 (m.raw v).cs.toArray,O1 t F3 (f_ o0 (.slice none 0 0) (.slice none 0 0))]:=h
   rw[h.ld 2 rfl Y2 (o:=1) (v := .int .i64 m.from_) rfl]
   exact yt0 hk2 c1 hf rfl h fun u w' h=>k _ _ _ _ ⟨rfl,rfl⟩ h
 rw[h.ld 2 rfl AB (o:=7) (v := .bool m.yes) rfl,R5]
 refine⟨fun c3=>?_,fun c3=>go (fun hh=>by rw[c3] at hh;cases hh.1) _ h⟩
 rw[h.ld 2 rfl Y2 (o:=4) (v := .int .i64 m.index) rfl,h.ld 0 rfl X5 (o:=3) (v:=lv.1) rfl,O4.len (Y3.read (h.here (i:=1) rfl)) u6,x9,K3]
 refine⟨fun c4=>?_,fun c4=>go (fun hh=>c4 hh.2) _ h⟩
 rw[if_pos (.inr (.inr ⟨c3,c4⟩))] at k
 refine UI (i:=3) h rfl rfl fun w3 h=>?_
 exact k _ _ _ _ ⟨rfl,rfl⟩ (oD (h.pick [0,1] (by decide)) rfl)
end
end Go.Proofs.YtngbebnhegcokaaGreatDoor

namespace Go.Proofs.YtngbebnhegcokaaGreatDoor
open Go.RowKit
set_option maxRecDepth 100000
def yF(log:List uB):Nat→List uB→Nat
 | _,[]=>0
 | i,x :: l=>if i+1≤log.length∧bK log ((i:Int)+1)=x.term then yF log (i+1) l+1 else 0
theorem Yd0(log:List uB):∀(l:List uB) (i:Nat),yF log i l≤l.length
 | [],_=>Nat.le_refl _
 | x :: l,i=>by
  unfold yF
  have:=Yd0 log l (i+1)
  split
  ·rw[List.length_cons];omega
  ·omega
def qQ(r:G8)(m:R9)(yes:Bool)(i:Int):R9:=⟨3,r.id,m.from_,r.hard.term,i,0,0,yes,[]⟩
def wp0(r:G8)(m:R9):G8:={ r with commit:=max r.commit (min m.commit (m.index+m.recs.length)) }
def OZ(r:G8)(m:R9):G8×vE :=
 if(r.log.length:Int)<m.index∨bK r.log m.index≠m.prev then(r,{ o0 with send:=[qQ r m false (min r.log.length (m.index-1))] })
 else if yF r.log m.index.toNat m.recs=m.recs.length then(wp0 r m,{ o0 with send:=[qQ r m true (m.index+m.recs.length)] })
 else if m.index+yF r.log m.index.toNat m.recs+1≤r.commit then(r,o0)
 else(wp0 { r with log:=r.log.take (m.index.toNat+yF r.log m.index.toNat m.recs)++m.recs.drop (yF r.log m.index.toNat m.recs) } m,
  { o0 with from_:=m.index+yF r.log m.index.toNat m.recs+1,recs:=m.recs.drop (yF r.log m.index.toNat m.recs),send:=[qQ r m true (m.index+m.recs.length)] })
def PW(r:G8)(m:R9):G8×vE :=
 if m.term<r.hard.term then(r,{ o0 with send:=[qQ r m false 0] })
 else if r.role=2 then(r,o0)
 else OZ { r with role:=0 } m
section
variable {B:Base} {w:World} {σ τ:List Dat} {p:Nat} {r:G8} {K:Value→World→Prop}
theorem Uw0{r':G8}{lv:SV}{o t a:Nat}{cs ds:Array Value}{m:R9}(hm:m.recs=[])(hc:cs.size=6)
  (h:Rel B w [O1 p I1 (M_ r' lv.1),Y3 X3 lv.1 r'.log,O1 o Y1 ds,O1 t F3 cs,O1 a Y1 (m.raw nC).cs.toArray])
  (k:∀u w',Rel B w' [bA p r',eG u { o0 with send:=[m] }]→K u w') :
  Y0 Tryz.prog (X0 Y1 (.pointer (some ⟨a,0,none⟩))) w fun t70 =>
  upK Tryz.prog (Z0 A_ #[t70]) w fun t71 w6 =>
  upK Tryz.prog (I4 F3 (.pointer (some ⟨t,0,none⟩)) t71) w6 fun _ w7 =>
  U9 Tryz.prog (do loadVar F3 (←asAddr (.pointer (some ⟨t,0,none⟩)))) w7 fun t4_1=>K t4_1 w7:=by
 rw[h.r9 4 rfl Z8 rfl]
 refine h.make (fun B2 own base2=>te0 (m:=m) (v:=nC) (by rw[hm];exact AX)) fun u τ w9 hp h=>?_
 obtain⟨s,rfl,rfl⟩:=hp
 refine BK (i:=3) h rfl hc rfl (FE (o:={ o0 with send:=[m] }) rfl s.2) fun w10 h=>?_
 have h:=h.pick [0,1,5] (by decide)
 have h:Rel B w10 ([O1 p I1 (M_ r' lv.1),Y3 X3 lv.1 r'.log]++[Y3 Y1 s.1 [m.raw nC]]):=h
 have h:=h.wrap (c:=eG (.agg (f_ { o0 with send:=[m] } (.slice none 0 0) s.1)) { o0 with send:=[m] }) fun B2 own=>eG.of rfl s.2 AX (CZ (Y3.read (own (i:=0) rfl)) (by rw[hm];exact AX))
 exact k _ _ (bA.close lv h)
set_option maxHeartbeats 4000000 in
theorem Yw0(hk:Y9 r){m:R9}{v:SV}(hm:WO r m)(q:O4 v.1 m.recs B):Does Tryz.prog B (bA p r) (Z0 SG #[ptr p,(m.raw v).v]) fun u e' τ=>e'=bA p (PW r m).1∧τ=[eG u (PW r m).2]:=by
 refine Does.intro fun B' w K base h k=>?_
 replace q:=base q
 refine UE.up ?_
 unfold UE.pt
 obtain⟨lv,h⟩:=bA.open h
 have h:Rel B' w [O1 p I1 (M_ r lv.1),Y3 X3 lv.1 r.log]:=h
 have hlen:=hk.len
 have hmi:=hm.index
 have hmr:=hm.room
 have hmf:=hm.few
 refine h.box fun o w1 h=>?_
 have h:Rel B' w1 [O1 p I1 (M_ r lv.1),Y3 X3 lv.1 r.log,O1 o Y1 (m.raw v).cs.toArray]:=h
 refine h.alloc qF fun t w2 h=>?_
 have h:Rel B' w2 [O1 p I1 (M_ r lv.1),Y3 X3 lv.1 r.log,O1 o Y1 (m.raw v).cs.toArray,O1 t F3 (f_ o0 (.slice none 0 0) (.slice none 0 0))]:=h
 simp -zeta only[J5,U0 w_,U0 x_,U0 NC,U0 lH,U0 KC,U0 lN,U0 uK,U0 bF,U0 nN,U0 MS,U0 vK,U0 VP,Nat.zero_add,Nat.add_zero]
 rw[h.ld 2 rfl Y2 (o:=1) (v := .int .i64 m.from_) rfl]
 refine h.ask (fun B2 own base2=>dX (pJ.of lv.2 (own (i:=0) rfl) (Y3.read (own (i:=1) rfl))) 3 m.from_) fun w3 h=>?_
 refine h.R8 (ds:=((qQ r m false 0).raw nC).cs.toArray) vJ rfl Z8 rfl (fun v hv=>Enc.one ((qQ r m false 0).raw nC) v hv) fun a w4 h=>?_
 have h:Rel B' w4 [O1 p I1 (M_ r lv.1),Y3 X3 lv.1 r.log,O1 o Y1 (m.raw v).cs.toArray,O1 t F3 (f_ o0 (.slice none 0 0) (.slice none 0 0)),O1 a Y1 ((qQ r m false 0).raw nC).cs.toArray]:=h
 have h:=h.tick
 generalize tick w4=w4 at *
 unfold PW at k
 rw[h.ld 2 rfl Y2 (o:=3) (v := .int .i64 m.term) rfl,h.ld 0 rfl Y2 (o:=1) (v := .int .i64 r.hard.term) rfl,G6,K3]
 refine⟨fun c1=>?_,fun c1=>?_⟩
 ·rw[if_pos c1] at k
  exact Uw0 rfl rfl h fun u w' h=>k _ _ _ _ ⟨rfl,rfl⟩ h
 rw[if_neg c1] at k
 rw[h.ld 0 rfl Y2 (o:=4) (v := .int .i64 r.role) rfl,F7,K3]
 refine⟨fun c2=>?_,fun c2=>?_⟩
 ·rw[if_pos c2] at k
  refine UI (i:=3) h rfl rfl fun w3 h=>?_
  exact k _ _ _ _ ⟨rfl,rfl⟩ (oD (h.pick [0,1] (by decide)) rfl)
 rw[if_neg c2] at k
 refine h.st 0 rfl Y2 (o:=4) (show 4<15 by omega) rfl fun w5 h=>?_
 have h:Rel B' w5 [O1 p I1 (M_ { r with role:=0 } lv.1),Y3 X3 lv.1 { r with role:=0 }.log,O1 o Y1 (m.raw v).cs.toArray,O1 t F3 (f_ o0 (.slice none 0 0) (.slice none 0 0)),O1 a Y1 ((qQ { r with role:=0 } m false 0).raw nC).cs.toArray]:=h
 have hlen:{ r with role:=0 }.log.length≤4000:=hlen
 have hcom:0≤{ r with role:=0 }.commit∧{ r with role:=0 }.commit≤{ r with role:=0 }.log.length:=hk.commit
 clear hk c1 c2 hm
 generalize { r with role:=0 }=r at *
 unfold OZ at k
 have back:((r.log.length:Int)<m.index∨bK r.log m.index≠m.prev)→∀w',Rel B' w' [O1 p I1 (M_ r lv.1),Y3 X3 lv.1 r.log,O1 o Y1 (m.raw v).cs.toArray,O1 t F3 (f_ o0 (.slice none 0 0) (.slice none 0 0)),O1 a Y1 ((qQ r m false 0).raw nC).cs.toArray] →
   Y0 Tryz.prog (X0 U3 (.pointer (some ⟨p,3,none⟩))) w' fun t53 =>
   Y0 Tryz.prog (M5 .len #[U3] Q0 #[false] #[t53]) w' fun t54 =>
   Y0 Tryz.prog (X0 Q0 (.pointer (some ⟨o,4,none⟩))) w' fun t56 =>
   M0 Tryz.prog (V3 .sub Q0 (.tmp 56) (.const (.int .i64 1)) t56 (.int .i64 1)) fun t57 =>
   M0 Tryz.prog (M5 .min #[Q0,Q0] Q0 #[false,false] #[t54,t57]) fun t58 =>
   M0 Tryz.prog (O0 Y1 (.pointer (some ⟨a,0,none⟩)) 4) fun t59 =>
   upK Tryz.prog (I4 Q0 t59 t58) w' fun _ w10 =>
   Y0 Tryz.prog (X0 Y1 (.pointer (some ⟨a,0,none⟩))) w10 fun t60 =>
   upK Tryz.prog (Z0 A_ #[t60]) w10 fun t61 w11 =>
   upK Tryz.prog (I4 F3 (.pointer (some ⟨t,0,none⟩)) t61) w11 fun _ w12 =>
   U9 Tryz.prog (do loadVar F3 (←asAddr (.pointer (some ⟨t,0,none⟩)))) w12 fun t4_3=>K t4_3 w12:=by
  intro c w' h
  rw[if_pos c] at k
  rw[h.ld 0 rfl X5 (o:=3) (v:=lv.1) rfl,O4.len (Y3.read (h.here (i:=1) rfl)) u6,h.ld 2 rfl Y2 (o:=4) (v := .int .i64 m.index) rfl,TB,E5 (by omega) (by omega),YK,U0 bF,Nat.zero_add]
  refine h.st 4 rfl Y2 (o:=4) (show 4<9 by omega) rfl fun w6 h=>?_
  exact Uw0 (m:=qQ r m false (min r.log.length (m.index-1))) rfl rfl h fun u w' h=>k _ _ _ _ ⟨rfl,rfl⟩ h
 have h:=h.tick
 generalize tick w5=w5 at *
 rw[h.ld 2 rfl Y2 (o:=4) (v := .int .i64 m.index) rfl]
 rw[h.ld 0 rfl X5 (o:=3) (v:=lv.1) rfl,O4.len (Y3.read (h.here (i:=1) rfl)) u6,x9,K3]
 refine⟨fun c3=>back (.inl c3) _ h.tick,fun c3=>?_⟩
 rw[h.ld 2 rfl Y2 (o:=4) (v := .int .i64 m.index) rfl,h.ld 2 rfl Y2 (o:=5) (v := .int .i64 m.prev) rfl]
 refine h.ask (fun B2 own base2=>gX (pJ.of lv.2 (own (i:=0) rfl) (Y3.read (own (i:=1) rfl))) (by omega) ⟨by omega,by omega⟩) fun w6 h=>?_
 refine⟨h.is 2 rfl Y2 (o:=5) rfl,?_⟩
 rw[Q7,G5,K3]
 refine⟨fun c4=>?_,fun c4=>back (.inr c4) _ h.tick⟩
 clear back
 rw[if_neg (fun hh=>hh.elim c3 fun h=>h c4)] at k
 obtain⟨mi,emi⟩:∃mi:Nat,m.index=mi:=⟨m.index.toNat,by omega⟩
 have emn:m.index.toNat=mi:=by omega
 rw[emn] at k
 refine h.alloc qF fun o6 w7 h=>?_
 have h:Rel B' w7 [O1 p I1 (M_ r lv.1),Y3 X3 lv.1 r.log,O1 o Y1 (m.raw v).cs.toArray,O1 t F3 (f_ o0 (.slice none 0 0) (.slice none 0 0)),O1 a Y1 ((qQ r m false 0).raw nC).cs.toArray,O1 o6 F3 (f_ o0 (.slice none 0 0) (.slice none 0 0))]:=h
 refine P6 fun J1 hJ1=>?_
 replace hJ1:∀(r':G8) (lv':SV) (o':vE) (rv:SV) (w':World),r'.commit=r.commit→(∀yes i,qQ r' m yes i=qQ r m yes i)→o'.send=[]→(∀u w',Rel B' w' [bA p (wp0 r' m),eG u { o' with send:=[qQ r m true (m.index+m.recs.length)] }]→K u w') →
   Rel B' w' [O1 p I1 (M_ r' lv'.1),Y3 X3 lv'.1 r'.log,O1 o Y1 (m.raw v).cs.toArray,O1 t F3 (f_ o0 (.slice none 0 0) (.slice none 0 0)),O1 a Y1 ((qQ r' m false 0).raw nC).cs.toArray,O1 o6 F3 (f_ o' rv.1 (.slice none 0 0)),O4 rv.1 o'.recs]→J1 () w':=by
  intro r' lv' o' rv w' hc ha hs k2 h
  refine hJ1 _ _ ?_
  clear hJ1 k
  have h:=h.tick
  generalize tick w'=w' at *
  rw[h.ld 2 rfl Y2 (o:=4) (v := .int .i64 m.index) rfl,h.ld 2 rfl X5 (o:=8) (v:=v.1) rfl,O4.len q u6,Z5,E5 (by omega) (by omega)]
  simp -zeta only[U0 vK,U0 bF,Nat.zero_add]
  refine h.st 4 rfl AB (o:=7) (show 7<9 by omega) rfl fun w8 h=>?_
  refine⟨?_,h.is 2 rfl X5 (o:=8) rfl,h.is 2 rfl Y2 (o:=4) rfl,?_⟩
  ·have:=O4.len (P:=Tryz.prog) (w:=w8) (T:=U3) (U:=Q0) (bs:=#[false]) (Kp:=fun x=>x = .int .i64 m.recs.length) (h.L6 q) u6
   obtain⟨x,h1,rfl⟩:=this.mpr rfl
   exact h1
  refine h.st 4 rfl Y2 (o:=4) (show 4<9 by omega) rfl fun w9 h=>?_
  have h:=h.tick
  generalize tick w9=w9 at *
  have h:Rel B' w9 [O1 p I1 (M_ r' lv'.1),Y3 X3 lv'.1 r'.log,O1 o Y1 (m.raw v).cs.toArray,O1 t F3 (f_ o0 (.slice none 0 0) (.slice none 0 0)),O1 a Y1 ((qQ r' m true (m.index+m.recs.length)).raw nC).cs.toArray,O1 o6 F3 (f_ o' rv.1 (.slice none 0 0)),O4 rv.1 o'.recs]:=h
  rw[h.ld 0 rfl Y2 (o:=5) (v := .int .i64 r'.commit) rfl,h.ld 2 rfl Y2 (o:=6) (v := .int .i64 m.commit) rfl,h.ld 4 rfl Y2 (o:=4) (v := .int .i64 (m.index+m.recs.length)) rfl,YK,II]
  refine h.st 0 rfl Y2 (o:=5) (show 5<15 by omega) rfl fun w10 h=>?_
  have h:Rel B' w10 [O1 p I1 (M_ (wp0 r' m) lv'.1),Y3 X3 lv'.1 r'.log,O1 o Y1 (m.raw v).cs.toArray,O1 t F3 (f_ o0 (.slice none 0 0) (.slice none 0 0)),O1 a Y1 ((qQ r' m true (m.index+m.recs.length)).raw nC).cs.toArray,O1 o6 F3 (f_ o' rv.1 (.slice none 0 0)),O4 rv.1 o'.recs]:=h
  rw[h.r9 4 rfl Z8 rfl,ha]
  refine h.XH (α:=nm0) ((qQ r m true (m.index+m.recs.length)).raw nC) vL (by decide) fun s w11 h=>?_
  have hs1:s.oneCell'=true:=h.oneCell (i:=7) rfl
  simp -zeta only[U0 ZV,Nat.zero_add]
  refine h.st 5 rfl pR (o:=5) (show 5<6 by omega) hs1 fun w12 h=>?_
  rw[h.r9 5 rfl EC rfl]
  refine BK (i:=3) (ds:=f_ { o' with send:=[qQ r m true (m.index+m.recs.length)] } rv.1 s) h rfl rfl rfl (FE rv.2 hs1) fun w13 h=>?_
  have h:=h.pick [0,1,6,7] (by decide)
  have h:Rel B' w13 ([O1 p I1 (M_ (wp0 r' m) lv'.1),Y3 X3 lv'.1 (wp0 r' m).log]++[O4 rv.1 o'.recs,Y3 Y1 s [(qQ r m true (m.index+m.recs.length)).raw nC]]):=h
  have h:=h.wrap (c:=eG (.agg (f_ { o' with send:=[qQ r m true (m.index+m.recs.length)] } rv.1 s)) { o' with send:=[qQ r m true (m.index+m.recs.length)] }) fun B2 own=>eG.of rv.2 hs1 (own (i:=0) rfl) (CZ (v:=nC) (Y3.read (own (i:=1) rfl)) AX)
  exact k2 _ _ (bA.close lv' h)
 rw[h.ld 2 rfl X5 (o:=8) (v:=v.1) rfl,O4.len q u6]
 refine F6 (fun z w'=>∃i:Nat,i≤m.recs.length∧z=(.int .i64 i,())∧mi+i≤r.log.length∧yF r.log mi m.recs=yF r.log (mi+i) (m.recs.drop i)+i∧Rel B' w' [O1 p I1 (M_ r lv.1),Y3 X3 lv.1 r.log,O1 o Y1 (m.raw v).cs.toArray,O1 t F3 (f_ o0 (.slice none 0 0) (.slice none 0 0)),O1 a Y1 ((qQ r m false 0).raw nC).cs.toArray,O1 o6 F3 (f_ o0 (.slice none 0 0) (.slice none 0 0))])
  (fun z _=>m.recs.length-(match z.1 with | .int _ n=>n.toNat | _=>0)) ⟨0,Nat.zero_le _,rfl,by omega,rfl,h⟩ ?_
 clear h
 rintro z w8 ⟨i,hi,rfl,hmil,hsk,h⟩ next hnext
 rw[G6,K3]
 refine⟨fun hlt=>?_,fun hge=>?_⟩
 case refine_2 =>
  have:i=m.recs.length:=by omega
  subst this
  rw[List.drop_length,yF,Nat.zero_add] at hsk
  rw[if_pos hsk] at k
  refine hJ1 r lv o0 nC _ rfl (fun _ _=>rfl) rfl (fun u w' h=>k _ _ _ _ ⟨rfl,rfl⟩ h) ?_
  exact h.ak0 fun B=>AX
 have hil:i<m.recs.length:=by omega
 rw[List.drop_eq_getElem_cons hil,yF] at hsk
 obtain⟨g,og,hx,hc⟩:=O4.idx q u6 (P:=Tryz.prog) hil
 have hc:K6 g og m.recs[i].cs B':=hc
 rw[hx,K6.r9 (h.L6 hc) S9 rfl]
 have hsl:=Yd0 r.log m.recs mi
 generalize m.recs[i]=x at hsk ⊢
 refine h.R8 (ds:=x.cs.toArray) CL rfl S9 rfl (fun v hv=>Enc.one x v hv) fun b w9 h=>?_
 have h:Rel B' w9 [O1 p I1 (M_ r lv.1),Y3 X3 lv.1 r.log,O1 o Y1 (m.raw v).cs.toArray,O1 t F3 (f_ o0 (.slice none 0 0) (.slice none 0 0)),O1 a Y1 ((qQ r m false 0).raw nC).cs.toArray,O1 o6 F3 (f_ o0 (.slice none 0 0) (.slice none 0 0)),O1 b X3 x.cs.toArray]:=h
 rw[h.ld 2 rfl Y2 (o:=4) (v := .int .i64 m.index) rfl,Z5,E5 (by omega) (by omega),Z5,E5 (by omega) (by omega)]
 rw[emi]
 refine P6 fun J2 hJ2=>?_
 replace hJ2:¬(mi+i+1≤r.log.length∧bK r.log ((mi+i:Nat)+1)=x.term)→∀w',Rel B' w' [O1 p I1 (M_ r lv.1),Y3 X3 lv.1 r.log,O1 o Y1 (m.raw v).cs.toArray,O1 t F3 (f_ o0 (.slice none 0 0) (.slice none 0 0)),O1 a Y1 ((qQ r m false 0).raw nC).cs.toArray,O1 o6 F3 (f_ o0 (.slice none 0 0) (.slice none 0 0)),O1 b X3 x.cs.toArray]→J2 () w':=by
  intro c w' h
  refine hJ2 _ _ ?_
  clear hJ2 hnext
  rw[if_neg c,Nat.zero_add] at hsk
  rw[hsk,if_neg (by omega)] at k
  rw[h.ld 0 rfl Y2 (o:=5) (v := .int .i64 r.commit) rfl,WC,K3]
  refine⟨fun c5=>?_,fun c5=>?_⟩
  ·rw[if_pos (by omega)] at k
   refine UI (i:=3) h rfl rfl fun w3 h=>?_
   exact k _ _ _ _ ⟨rfl,rfl⟩ (oD (h.pick [0,1] (by decide)) rfl)
  rw[if_neg (by omega)] at k
  simp -zeta only[U0 YV,U0 qc0,Nat.zero_add]
  rw[h.ld 2 rfl X5 (o:=8) (v:=v.1) rfl]
  have hcut:∀Kp:Value→Prop,M0 Tryz.prog (y9 U3 v.1 (some (.int .i64 i)) none none) Kp=Kp (cutV 2 v.1 i m.recs.length):=fun Kp =>
   O4.Me0 (α:=uB) (P:=Tryz.prog) (lo:=i) (hi:=m.recs.length) q u6 Bnd.some Bnd.none (by omega) (Nat.le_refl _)
  rw[hcut]
  have rc:=O4.rk0 (lo:=i) (hi:=m.recs.length) q (by omega) (Nat.le_refl _)
  rw[List.take_length] at rc
  have hdl:(m.recs.drop i).length≤8:=by rw[List.length_drop];omega
  refine h.make (fun B2 own base2=>P_ (base2 rc) (by omega) (by omega)) fun u τ w10 hp h=>?_
  subst hp
  have hu1:u.oneCell'=true:=h.oneCell (i:=7) rfl
  refine h.st 5 rfl Y2 (o:=3) (show 3<6 by omega) rfl fun w11 h=>?_
  refine h.st 5 rfl X5 (o:=4) (show 4<6 by omega) hu1 fun w12 h=>?_
  have h:=h.tick
  generalize tick w12=w12 at *
  rw[h.ld 0 rfl X5 (o:=3) (v:=lv.1) rfl,TB,E5 (by omega) (by omega)]
  have hcut2:∀Kp:Value→Prop,M0 Tryz.prog (y9 U3 lv.1 none (some (.int .i64 ((mi:Int)+i+1-1))) none) Kp=Kp (cutV 2 lv.1 0 (mi+i)):=fun Kp=>by
   rw[show (mi:Int)+i+1-1=((mi+i:Nat):Int) by omega]
   exact O4.Me0 (α:=uB) (P:=Tryz.prog) (lo:=0) (hi:=mi+i) (Y3.read (h.here (i:=1) rfl)) u6 Bnd.none Bnd.some (by omega) (by omega)
  rw[hcut2,h.ld 5 rfl X5 (o:=4) (v:=u) rfl]
  have htl:(r.log.take (mi+i)).length≤4000:=by rw[List.length_take];omega
  refine h.make (fun B2 own base2=>P_ (l:=r.log.take (mi+i)) (by
   have:=O4.rk0 (lo:=0) (hi:=mi+i) (Y3.read (own (i:=1) rfl)) (by omega) (by omega)
   exact this) (by omega) (by omega)) fun u2 τ w13 hp h=>?_
  subst hp
  refine⟨h.is 5 rfl X5 (o:=4) rfl,?_⟩
  refine h.append (α:=uB) 8 rfl u6 (Rd.at 7 rfl) (by omega) (by omega) fun u3 w14 h=>?_
  have hu3:u3.oneCell'=true:=h.oneCell (i:=8) rfl
  refine h.st 0 rfl X5 (o:=3) (show 3<15 by omega) hu3 fun w15 h=>?_
  refine hJ1 { r with log:=r.log.take (mi+i)++m.recs.drop i } ⟨u3,hu3⟩ { o0 with from_:=m.index+i+1,recs:=m.recs.drop i } ⟨u,hu1⟩ _ rfl (fun _ _=>rfl) rfl (fun u w' h=>k _ _ _ _ ⟨rfl,rfl⟩ h) ?_
  rw[←emi] at h
  have h:=h.pick [0,8,2,3,4,5,7] (by decide)
  exact h.imp (i:=6) rfl fun B hB=>Y3.read hB
 have h:=h.tick
 generalize tick w9=w9 at *
 rw[h.ld 0 rfl X5 (o:=3) (v:=lv.1) rfl,O4.len (Y3.read (h.here (i:=1) rfl)) u6,WC,K3]
 refine⟨fun c5=>?_,fun c5=>hJ2 (fun hh=>c5 (by omega)) _ h⟩
 simp -zeta only[U0 NS,Nat.zero_add]
 rw[h.ld 6 rfl Y2 (o:=0) (v := .int .i64 x.term) rfl]
 refine h.ask (fun B2 own base2=>gX (pJ.of lv.2 (own (i:=0) rfl) (Y3.read (own (i:=1) rfl))) (by omega) ⟨by omega,by omega⟩) fun w10 h=>?_
 refine⟨h.is 6 rfl Y2 (o:=0) rfl,?_⟩
 rw[F7,K3]
 refine⟨fun c6=>?_,fun c6=>hJ2 (fun hh=>c6 (by rw[←hh.2,Int.natCast_add])) _ h⟩
 rw[Z5,E5 (by omega) (by omega)]
 refine hnext _ _ ⟨i+1,hil,rfl,by omega,?_,h.pick [0,1,2,3,4,5] (by decide)⟩ (by simp only;omega)
 rw[hsk,if_pos ⟨by omega,by rw[Int.natCast_add];exact c6⟩,Nat.add_assoc mi i 1]
 omega
end
end Go.Proofs.YtngbebnhegcokaaGreatDoor

namespace Go.Proofs.YtngbebnhegcokaaGreatDoor
open Go.RowKit
set_option maxRecDepth 100000
theorem xO:∀(l l2:List uB) (a b:Int),RA (l++l2) a b=(RA l a b&&RA l2 (((l.getLast?).map (·.term)).getD a) b)
 | [],l2,a,b=>by simp [RA]
 | x :: l,l2,a,b=>by
  rw[List.cons_append,RA,RA,xO l l2 x.term b]
  have:(((x :: l).getLast?).map (·.term)).getD a=((l.getLast?).map (·.term)).getD x.term:=by
   cases l with
   | nil=>rfl
   | cons y l=>rw[List.getLast?_cons_cons,List.getLast?_eq_some_getLast (List.cons_ne_nil y l)];rfl
  rw[this]
  split
  ·rw[Bool.false_and]
  split
  ·rw[Bool.false_and]
  split
  ·rw[Bool.false_and]
  rfl
theorem PY{b c:Int}(h:b≤c):∀(l:List uB) (a:Int),RA l a b=true→RA l a c=true
 | [],_,_=>rfl
 | x :: l,a,hs=>by
  rw[RA] at hs ⊢
  split at hs
  ·cases hs
  split at hs
  ·cases hs
  split at hs
  ·cases hs
  rename_i h1 h2 h3
  rw[if_neg h1,if_neg (by omega),if_neg h3]
  exact PY h l _ hs
theorem yo0{b:Int}:∀(l:List uB) {a a':Int},a'≤a→RA l a b=true→RA l a' b=true
 | [],_,_,_,_=>rfl
 | x :: l,a,a',h,hs=>by
  rw[RA] at hs ⊢
  split at hs
  ·cases hs
  rw[if_neg (by omega)]
  exact hs
theorem Og0{b:Int}:∀(l:List uB) (a:Int),a≤b→RA l a b=true→((l.getLast?).map (·.term)).getD a≤b
 | [],_,h,_=>h
 | [x],a,h,hs=>by
  rw[RA] at hs
  split at hs
  ·cases hs
  split at hs
  ·cases hs
  rename_i h1 h2
  show x.term≤b
  omega
 | x :: y :: l,a,h,hs=>by
  rw[RA] at hs
  split at hs
  ·cases hs
  split at hs
  ·cases hs
  split at hs
  ·cases hs
  rename_i h1 h2 h3
  have:=Og0 (y :: l) x.term (by omega) hs
  rw[List.getLast?_cons_cons]
  rw[List.getLast?_eq_some_getLast (List.cons_ne_nil y l)] at this ⊢
  exact this
theorem kr0{l:List uB}{x:uB}{a b:Int}(hab:a≤b)(h:RA l a b=true)(hx:x.term=b)(hd:x.data.size≤2000):RA (l++[x]) a b=true:=by
 rw[xO,h,Bool.true_and]
 have:=Og0 l a hab h
 rw[RA,if_neg (by omega),if_neg (by omega),if_neg (by omega)]
 rfl
def wV(r:G8)(data:ByteArray):G8:={ r with log:=r.log++[⟨r.hard.term,data⟩] }
structure YD0 where
 n:Int
 e:Int
 r:G8
 o:vE
def U8(r:G8)(data:ByteArray):YD0 :=
 if r.role≠2 then⟨0,24,r,o0⟩
 else if 2000<data.size then⟨0,1,r,o0⟩
 else if r.log.length=4000 then⟨0,6,r,o0⟩
 else⟨r.log.length+1,0,wV r data,{ o0 with from_:=r.log.length+1,recs:=[⟨r.hard.term,data⟩],send:=PR (wV r data) }⟩
theorem Zs0{r:G8}(hk:Y9 r)(ht:1≤r.hard.term){data:ByteArray}(hd:data.size≤2000)(hl:r.log.length≠4000):Y9 (wV r data) where
 id:=hk.id
 term:=hk.term
 vote:=hk.vote
 len:=by
  show (r.log++[_]).length≤4000
  have:=hk.len
  rw[List.length_append]
  show r.log.length+1≤4000
  omega
 sound:=kr0 ht hk.sound rfl hd
 role:=hk.role
 commit:=by
  show 0≤r.commit∧r.commit≤((r.log++[_]).length:Int)
  have:=hk.commit
  rw[List.length_append]
  omega
 next:=fun h i hi=>by
  have:=hk.next h i hi
  show 1≤r.next.get i∧r.next.get i≤((r.log++[_]).length:Int)+1
  rw[List.length_append]
  omega
 mtch:=fun h i hi=>by
  have:=hk.mtch h i hi
  show 0≤r.mtch.get i∧r.mtch.get i≤((r.log++[_]).length:Int)
  rw[List.length_append]
  omega
def KO(r:G8)(m:R9):G8:=if r.hard.term<m.term then { r with hard:=⟨m.term,-1⟩,role:=0 } else r
def ZX(r:G8)(m:R9):G8×vE:=if m.kind=0 then Fj0 r m else if m.kind=1 then Yb0 r m else if m.kind=2 then PW r m else vR r m
def Kg0(hd:SN)(q:G8×vE):G8×vE:=if q.1.hard=hd then q else(q.1,{ q.2 with save:=true,hard:=q.1.hard })
def nJ(r:G8)(m:R9):G8×vE:=if WO r m then Kg0 r.hard (ZX (KO r m) m) else(r,o0)
theorem Bl0{r:G8}(hk:Y9 r){m:R9}(hm:WO r m):Y9 (KO r m)∧WO (KO r m) m:=by
 unfold KO
 split
 ·rename_i c
  have h1:=hm.term
  have h2:=hk.term
  exact⟨⟨hk.id,(show 0≤m.term∧m.term≤_ by omega),(show (-1:Int) ≤ -1∧(-1:Int)≤2 by omega),hk.len,PY (show r.hard.term≤m.term by omega) _ _ hk.sound,.inl rfl,hk.commit,(fun h=>by cases h),(fun h=>by cases h)⟩,
   ⟨hm.kind,hm.to_,hm.from_,hm.from3,hm.term,hm.index,hm.prev,hm.zero,hm.commit,hm.few,hm.room,hm.sound⟩⟩
 ·exact⟨hk,hm⟩
section
variable {B:Base} {w:World} {σ τ:List Dat} {p:Nat} {r:G8} {K:Value→World→Prop}
theorem eG.jP{u:Value}{o:vE}(h:Rel B w (σ++[eG u o])):∃rv sv:SV,u = .agg (f_ o rv.1 sv.1)∧Rel B w (σ++[Dat.and (O4 rv.1 o.recs) (wN sv.1 o.send)]):=by
 have hi:(σ++[eG u o])[σ.length]? = some (eG u o):=by rw[List.getElem?_append_right (Nat.le_refl _),Nat.sub_self];rfl
 obtain⟨q,h⟩:=h.ex hi
 rw[List.set_append_right _ _ (Nat.le_refl _),Nat.sub_self] at h
 have h:Rel B w (σ++[Dat.and (Dat.pure (u = .agg (f_ o q.1.1 q.2.1))) (Dat.and (O4 q.1.1 o.recs) (wN q.2.1 o.send))]):=h
 have hi:(σ++[Dat.and (Dat.pure (u = .agg (f_ o q.1.1 q.2.1))) (Dat.and (O4 q.1.1 o.recs) (wN q.2.1 o.send))])[σ.length]? = some (Dat.and (Dat.pure (u = .agg (f_ o q.1.1 q.2.1))) (Dat.and (O4 q.1.1 o.recs) (wN q.2.1 o.send))):=by rw[List.getElem?_append_right (Nat.le_refl _),Nat.sub_self];rfl
 obtain⟨hp,h⟩:=h.VS hi
 rw[List.set_append_right _ _ (Nat.le_refl _),Nat.sub_self] at h
 exact⟨q.1,q.2,hp,h⟩
set_option maxHeartbeats 2000000 in
theorem Ot0(hk:Y9 r)(ht:r.role=2→1≤r.hard.term)(data:ByteArray):Does Tryz.prog B (bA p r) (Z0 YF #[ptr p,.string data]) fun v e' τ=>e'=bA p (U8 r data).r∧∃u,v = .tuple #[.int .i64 (U8 r data).n,.int .i64 (U8 r data).e,u]∧τ=[eG u (U8 r data).o]:=by
 refine Does.intro fun B' w K base h k=>?_
 refine dE.up ?_
 unfold dE.pt
 obtain⟨lv,h⟩:=bA.open h
 have h:Rel B' w [O1 p I1 (M_ r lv.1),Y3 X3 lv.1 r.log]:=h
 have hlen:=hk.len
 refine h.alloc qF fun t w1 h=>?_
 have h:Rel B' w1 [O1 p I1 (M_ r lv.1),Y3 X3 lv.1 r.log,O1 t F3 (f_ o0 (.slice none 0 0) (.slice none 0 0))]:=h
 unfold U8 at k
 simp -zeta only[J5,U0 w_,U0 x_,U0 NC,U0 KC,Nat.zero_add,Nat.add_zero]
 rw[h.ld 0 rfl Y2 (o:=4) (v := .int .i64 r.role) rfl,Q7,G5,K3]
 refine⟨fun c1=>?_,fun c1=>?_⟩
 case refine_2 =>
  rw[if_pos c1] at k
  refine UI (i:=2) h rfl rfl fun w3 h=>?_
  exact k _ _ _ _ ⟨rfl,_,rfl,rfl⟩ (oD (h.pick [0,1] (by decide)) rfl)
 rw[if_neg (fun hh=>hh c1)] at k
 rw[LC K8,x9,K3]
 refine⟨fun c2=>?_,fun c2=>?_⟩
 ·rw[if_pos (by omega)] at k
  refine UI (i:=2) h rfl rfl fun w3 h=>?_
  exact k _ _ _ _ ⟨rfl,_,rfl,rfl⟩ (oD (h.pick [0,1] (by decide)) rfl)
 rw[if_neg (by omega)] at k
 rw[h.ld 0 rfl X5 (o:=3) (v:=lv.1) rfl,O4.len (Y3.read (h.here (i:=1) rfl)) u6,F7,K3]
 refine⟨fun c3=>?_,fun c3=>?_⟩
 ·rw[if_pos (by omega)] at k
  refine UI (i:=2) h rfl rfl fun w3 h=>?_
  exact k _ _ _ _ ⟨rfl,_,rfl,rfl⟩ (oD (h.pick [0,1] (by decide)) rfl)
 rw[if_neg (by omega)] at k
 have hk2:Y9 (wV r data):=Zs0 hk (ht c1) (by omega) (by omega)
 rw[h.ld 0 rfl Y2 (o:=1) (v := .int .i64 r.hard.term) rfl,UR]
 refine h.R8 (ds:=(⟨r.hard.term,data⟩:uB).cs.toArray) CL rfl S9 rfl (fun v hv=>Enc.one (⟨r.hard.term,data⟩:uB) v hv) fun x w2 h=>?_
 have h:Rel B' w2 [O1 p I1 (M_ r lv.1),Y3 X3 lv.1 r.log,O1 t F3 (f_ o0 (.slice none 0 0) (.slice none 0 0)),O1 x X3 (⟨r.hard.term,data⟩:uB).cs.toArray]:=h
 have h:=h.tick
 generalize tick w2=w2 at *
 rw[h.ld 0 rfl X5 (o:=3) (v:=lv.1) rfl,h.r9 3 rfl S9 rfl]
 refine h.XH (α:=uB) ⟨r.hard.term,data⟩ u6 (by decide) fun v1 w3 h=>?_
 refine⟨h.is 0 rfl X5 (o:=3) rfl,?_⟩
 refine h.append (α:=uB) 1 rfl u6 (Rd.at 4 rfl) (show (r.log.length+1) * _≤_ by omega) (show r.log.length+1≤_ by omega) fun v2 w4 h=>?_
 have hv2:v2.oneCell'=true:=h.oneCell (i:=1) rfl
 refine h.st 0 rfl X5 (o:=3) (show 3<15 by omega) hv2 fun w5 h=>?_
 have h:Rel B' w5 [O1 p I1 (M_ (wV r data) v2),Y3 X3 v2 (wV r data).log,O1 t F3 (f_ o0 (.slice none 0 0) (.slice none 0 0)),O1 x X3 (⟨r.hard.term,data⟩:uB).cs.toArray]:=h.take 4
 have e1:(r.log.length:Int)+1=(wV r data).log.length:=by
  show _=((r.log++[_]).length:Int)
  rw[List.length_append]
  rfl
 rw[e1] at k
 have hlead:(wV r data).role=2:=c1
 generalize wV r data=r2 at *
 have h:=h.tick
 generalize tick w5=w5 at *
 have hld:∀{τ:List Dat} {w':World},Rel B' w' (O1 p I1 (M_ r2 v2) :: Y3 X3 v2 r2.log :: τ)→Is Tryz.prog (M5 .len #[U3] Q0 #[false] #[v2]) (.int .i64 r2.log.length) w':=by
  intro τ w' h
  have:=O4.len (P:=Tryz.prog) (w:=w') (T:=U3) (U:=Q0) (bs:=#[false]) (Kp:=fun x=>x = .int .i64 r2.log.length) (Y3.read (h.here (i:=1) rfl)) u6
  obtain⟨x,h1,rfl⟩:=this.mpr rfl
  exact h1
 rw[h.ld 0 rfl X5 (o:=3) (v:=v2) rfl,O4.len (Y3.read (h.here (i:=1) rfl)) u6]
 rw[h.ld 0 rfl X5 (o:=3) (v:=v2) rfl,O4.len (Y3.read (h.here (i:=1) rfl)) u6,h.r9 3 rfl S9 rfl]
 refine⟨?_,?_⟩
 ·refine h.XH (α:=uB) ⟨r.hard.term,data⟩ u6 (by decide) fun v3 w6 h=>?_
  have hv3:v3.oneCell'=true:=h.oneCell (i:=4) rfl
  obtain⟨a3,n3,c3',rfl⟩:=EW h 4 rfl
  refine⟨hld h,h.is 0 rfl X5 (o:=3) rfl,hld h,h.is 0 rfl X5 (o:=3) rfl,?_⟩
  refine h.make (fun B2 own base2=>Ar0 (pJ.of hv2 (own (i:=0) rfl) (Y3.read (own (i:=1) rfl))) hk2 hlead) fun u τ w7 hp h=>?_
  obtain⟨rfl,a,n,c,rfl⟩:=hp
  refine⟨h.bV 3 rfl S9 rfl,hld h,h.is 0 rfl X5 (o:=3) rfl,hld h,h.is 0 rfl X5 (o:=3) rfl,?_⟩
  rw[dU]
  refine BK (i:=2) (ds:=f_ { o0 with from_:=r2.log.length,recs:=[⟨r.hard.term,data⟩],send:=PR r2 } (.slice a3 n3 c3') (.slice a n c)) h rfl rfl rfl (FE hv3 rfl) fun w8 h=>?_
  have h:Rel B' w8 ([O1 p I1 (M_ r2 v2),Y3 X3 v2 r2.log]++[Y3 X3 (.slice a3 n3 c3') [(⟨r.hard.term,data⟩:uB)],wN (.slice a n c) (PR r2)]):=h.pick [0,1,4,5] (by decide)
  have h:=h.wrap (c:=eG (.agg (f_ { o0 with from_:=r2.log.length,recs:=[⟨r.hard.term,data⟩],send:=PR r2 } (.slice a3 n3 c3') (.slice a n c))) { o0 with from_:=r2.log.length,recs:=[⟨r.hard.term,data⟩],send:=PR r2 }) fun B2 own=>eG.of hv3 rfl (Y3.read (own (i:=0) rfl)) (own (i:=1) rfl)
  exact k _ _ _ _ ⟨rfl,_,rfl,rfl⟩ (bA.close ⟨v2,hv2⟩ h)
 ·refine h.make (fun B2 own base2=>Ar0 (pJ.of hv2 (own (i:=0) rfl) (Y3.read (own (i:=1) rfl))) hk2 hlead) fun u τ w7 hp h=>?_
  obtain⟨rfl,a,n,c,rfl⟩:=hp
  refine⟨h.bV 3 rfl S9 rfl,hld h,h.is 0 rfl X5 (o:=3) rfl,hld h,h.is 0 rfl X5 (o:=3) rfl,?_⟩
  refine h.XH (α:=uB) ⟨r.hard.term,data⟩ u6 (by decide) fun v3 w6 h=>?_
  have hv3:v3.oneCell'=true:=h.oneCell (i:=5) rfl
  obtain⟨a3,n3,c3',rfl⟩:=EW h 5 rfl
  refine⟨hld h,h.is 0 rfl X5 (o:=3) rfl,hld h,h.is 0 rfl X5 (o:=3) rfl,?_⟩
  rw[dU]
  refine BK (i:=2) (ds:=f_ { o0 with from_:=r2.log.length,recs:=[⟨r.hard.term,data⟩],send:=PR r2 } (.slice a3 n3 c3') (.slice a n c)) h rfl rfl rfl (FE hv3 rfl) fun w8 h=>?_
  have h:Rel B' w8 ([O1 p I1 (M_ r2 v2),Y3 X3 v2 r2.log]++[Y3 X3 (.slice a3 n3 c3') [(⟨r.hard.term,data⟩:uB)],wN (.slice a n c) (PR r2)]):=h.pick [0,1,5,4] (by decide)
  have h:=h.wrap (c:=eG (.agg (f_ { o0 with from_:=r2.log.length,recs:=[⟨r.hard.term,data⟩],send:=PR r2 } (.slice a3 n3 c3') (.slice a n c))) { o0 with from_:=r2.log.length,recs:=[⟨r.hard.term,data⟩],send:=PR r2 }) fun B2 own=>eG.of hv3 rfl (Y3.read (own (i:=0) rfl)) (own (i:=1) rfl)
  exact k _ _ _ _ ⟨rfl,_,rfl,rfl⟩ (bA.close ⟨v2,hv2⟩ h)
set_option maxHeartbeats 2000000 in
theorem zE0(hk:Y9 r){m:R9}{v:SV}(q:O4 v.1 m.recs B)(hml:m.recs.length≤1000000):Does Tryz.prog B (bA p r) (Z0 BI #[ptr p,(m.raw v).v]) fun u e' τ=>e'=bA p (nJ r m).1∧τ=[eG u (nJ r m).2]:=by
 refine Does.intro fun B' w K base h k=>?_
 replace q:=base q
 refine JG.up ?_
 unfold JG.pt
 obtain⟨lv,h⟩:=bA.open h
 have h:Rel B' w [O1 p I1 (M_ r lv.1),Y3 X3 lv.1 r.log]:=h
 refine h.box fun o w1 h=>?_
 have h:Rel B' w1 [O1 p I1 (M_ r lv.1),Y3 X3 lv.1 r.log,O1 o Y1 (m.raw v).cs.toArray]:=h
 refine h.alloc qF fun t w2 h=>?_
 have h:Rel B' w2 [O1 p I1 (M_ r lv.1),Y3 X3 lv.1 r.log,O1 o Y1 (m.raw v).cs.toArray,O1 t F3 (f_ o0 (.slice none 0 0) (.slice none 0 0))]:=h
 rw[h.r9 2 rfl Z8 rfl]
 refine h.ask (fun B2 own base2=>Dz0 (r:=r) (pJ.of lv.2 (own (i:=0) rfl) (Y3.read (own (i:=1) rfl))) (base2 q) hml) fun w3 h=>?_
 rw[V7,G5,R5]
 unfold nJ at k
 refine⟨fun c=>?_,fun c=>?_⟩
 case refine_2 =>
  rw[if_neg (of_decide_eq_false c)] at k
  refine UI (i:=3) h rfl rfl fun w3 h=>?_
  exact k _ _ _ _ ⟨rfl,rfl⟩ (oD (h.pick [0,1] (by decide)) rfl)
 have hm:WO r m:=of_decide_eq_true c
 rw[if_pos hm] at k
 clear c
 obtain⟨hk1,hm1⟩:=Bl0 hk hm
 simp -zeta only[J5,U0 w_,U0 NC,U0 KC,U0 WV,U0 uK,Nat.zero_add,Nat.add_zero]
 rw[Id0 (h.here (i:=0) rfl)]
 refine h.R8 (ds:=r.hard.cs.toArray) oh0 rfl fC rfl (fun v hv=>Enc.one r.hard v hv) fun b w4 h=>?_
 have h:Rel B' w4 [O1 p I1 (M_ r lv.1),Y3 X3 lv.1 r.log,O1 o Y1 (m.raw v).cs.toArray,O1 t F3 (f_ o0 (.slice none 0 0) (.slice none 0 0)),O1 b O5 r.hard.cs.toArray]:=h
 refine P6 fun J1 hJ1=>?_
 replace hJ1:∀w',Rel B' w' [O1 p I1 (M_ (KO r m) lv.1),Y3 X3 lv.1 (KO r m).log,O1 o Y1 (m.raw v).cs.toArray,O1 t F3 (f_ o0 (.slice none 0 0) (.slice none 0 0)),O1 b O5 r.hard.cs.toArray]→J1 () w':=by
  intro w' h
  refine hJ1 _ _ ?_
  clear hJ1
  generalize KO r m=r1 at *
  have h:=bA.close (r:=r1) (τ:=[O1 o Y1 (m.raw v).cs.toArray,O1 t F3 (f_ o0 (.slice none 0 0) (.slice none 0 0)),O1 b O5 r.hard.cs.toArray]) lv h
  refine h.alloc qF fun o6 w5 h=>?_
  have h:Rel B' w5 [bA p r1,O1 o Y1 (m.raw v).cs.toArray,O1 t F3 (f_ o0 (.slice none 0 0) (.slice none 0 0)),O1 b O5 r.hard.cs.toArray,O1 o6 F3 (f_ o0 (.slice none 0 0) (.slice none 0 0))]:=h
  refine P6 fun J2 hJ2=>?_
  have step:∀(q:G8×vE) (u:Value) (w':World),ZX r1 m=q→Rel B' w' [bA p q.1,O1 o Y1 (m.raw v).cs.toArray,O1 t F3 (f_ o0 (.slice none 0 0) (.slice none 0 0)),O1 b O5 r.hard.cs.toArray,O1 o6 F3 (f_ o0 (.slice none 0 0) (.slice none 0 0)),eG u q.2]→upK Tryz.prog (I4 F3 (.pointer (some ⟨o6,0,none⟩)) u) w' fun _ w15=>J2 () w15:=by
   rintro⟨r2,o2⟩ u w' e h
   rw[e] at k
   have h:Rel B' w' ([bA p r2,O1 o Y1 (m.raw v).cs.toArray,O1 t F3 (f_ o0 (.slice none 0 0) (.slice none 0 0)),O1 b O5 r.hard.cs.toArray,O1 o6 F3 (f_ o0 (.slice none 0 0) (.slice none 0 0))]++[eG u o2]):=h
   obtain⟨rv,sv,eu,h2⟩:=eG.jP h
   subst eu
   refine h2.YG 4 rfl EC rfl rfl (FE rv.2 sv.2) fun w6 h=>?_
   have h:Rel B' w6 (bA p r2 :: [O1 o Y1 (m.raw v).cs.toArray,O1 t F3 (f_ o0 (.slice none 0 0) (.slice none 0 0)),O1 b O5 r.hard.cs.toArray,O1 o6 F3 (f_ o2 rv.1 sv.1),Dat.and (O4 rv.1 o2.recs) (wN sv.1 o2.send)]):=h
   obtain⟨lv2,h⟩:=bA.open h
   have h:Rel B' w6 [O1 p I1 (M_ r2 lv2.1),Y3 X3 lv2.1 r2.log,O1 o Y1 (m.raw v).cs.toArray,O1 t F3 (f_ o0 (.slice none 0 0) (.slice none 0 0)),O1 b O5 r.hard.cs.toArray,O1 o6 F3 (f_ o2 rv.1 sv.1),Dat.and (O4 rv.1 o2.recs) (wN sv.1 o2.send)]:=h
   refine hJ2 _ _ ?_
   clear hJ2
   have fin:∀(o3:vE) (w':World),Kg0 r.hard (r2,o2)=(r2,o3)→o3.recs=o2.recs→o3.send=o2.send→Rel B' w' [O1 p I1 (M_ r2 lv2.1),Y3 X3 lv2.1 r2.log,O1 o Y1 (m.raw v).cs.toArray,O1 t F3 (f_ o0 (.slice none 0 0) (.slice none 0 0)),O1 b O5 r.hard.cs.toArray,O1 o6 F3 (f_ o3 rv.1 sv.1),Dat.and (O4 rv.1 o2.recs) (wN sv.1 o2.send)] →
     Y0 Tryz.prog (X0 F3 (.pointer (some ⟨o6,0,none⟩))) w' fun t67=>upK Tryz.prog (I4 F3 (.pointer (some ⟨t,0,none⟩)) t67) w' fun _ w11=>U9 Tryz.prog (do loadVar F3 (←asAddr (.pointer (some ⟨t,0,none⟩)))) w11 fun t4_2=>K t4_2 w11:=by
    intro o3 w' e3 er es h
    rw[e3] at k
    rw[h.r9 5 rfl EC rfl]
    refine BK (i:=3) h rfl rfl rfl (FE rv.2 sv.2) fun w7 h=>?_
    have h:Rel B' w7 ([O1 p I1 (M_ r2 lv2.1),Y3 X3 lv2.1 r2.log]++[Dat.and (O4 rv.1 o2.recs) (wN sv.1 o2.send)]):=h.pick [0,1,6] (by decide)
    have h:=h.wrap (c:=eG (.agg (f_ o3 rv.1 sv.1)) o3) fun B2 own=>eG.of rv.2 sv.2 (by rw[er];exact(own (i:=0) rfl).1) (by rw[es];exact(own (i:=0) rfl).2)
    exact k _ _ _ _ ⟨rfl,rfl⟩ (bA.close lv2 h)
   unfold Kg0 at fin
   refine P6 fun J3 hJ3=>?_
   have h:=h.tick
   generalize tick w6=w6 at *
   simp -zeta only[J5,U0 w_,U0 lc0,U0 oc0,Nat.zero_add,Nat.add_zero]
   rw[Id0 (h.here (i:=0) rfl),h.r9 4 rfl fC rfl]
   have hne:∀Kp:Value→Prop,M0 Tryz.prog (V3 .neq O5 (.tmp 58) (.tmp 59) (.agg r2.hard.cs.toArray) (.agg r.hard.cs.toArray)) Kp=Kp (.bool (!decide (r2.hard=r.hard))):=fun Kp=>fl0 r2.hard r.hard
   rw[hne,G5,K3]
   refine⟨fun c=>?_,fun c=>?_⟩
   ·rw[if_pos c] at fin
    exact hJ3 _ _ (fin o2 _ rfl rfl rfl h)
   ·rw[if_neg c] at fin
    have h:=h.tick
    generalize tick w6=w6 at *
    rw[Id0 (h.here (i:=0) rfl)]
    refine h.st 5 rfl AB (o:=0) (show 0<6 by omega) rfl fun w7 h=>?_
    refine⟨bC0 (h.here (i:=0) rfl),?_⟩
    refine h.mr0 5 (n:=2) (o:=1) rfl fC rfl (show 1+2≤6 by omega) (fun v hv=>Enc.one r2.hard v hv) fun w8 h=>?_
    exact hJ3 _ _ (fin { o2 with save:=true,hard:=r2.hard } _ rfl rfl rfl h)
  clear hJ2 k
  rw[h.ld 1 rfl Y2 (o:=0) (v := .int .i64 m.kind) rfl,F7,K3]
  unfold ZX at step
  refine⟨fun c0=>?_,fun c0=>?_⟩
  ·rw[if_pos c0] at step
   rw[h.r9 1 rfl Z8 rfl]
   refine h.act 0 rfl (fun B2 own base2=>nG0 hk1) fun u e' τ w9 hp h=>?_
   obtain⟨rfl,rfl⟩:=hp
   exact step _ _ _ rfl h
  rw[if_neg c0] at step
  rw[F7,K3]
  refine⟨fun c1=>?_,fun c1=>?_⟩
  ·rw[if_pos c1] at step
   rw[h.r9 1 rfl Z8 rfl]
   refine h.act 0 rfl (fun B2 own base2=>JD0 hk1 (by have:=hm1.from3;unfold I3;omega)) fun u e' τ w9 hp h=>?_
   obtain⟨rfl,rfl⟩:=hp
   exact step _ _ _ rfl h
  rw[if_neg c1] at step
  rw[F7,K3]
  refine⟨fun c2=>?_,fun c2=>?_⟩
  ·rw[if_pos c2] at step
   rw[h.r9 1 rfl Z8 rfl]
   refine h.act 0 rfl (fun B2 own base2=>Yw0 hk1 hm1 (base2 q)) fun u e' τ w9 hp h=>?_
   obtain⟨rfl,rfl⟩:=hp
   exact step _ _ _ rfl h
  rw[if_neg c2] at step
  rw[F7,K3]
  refine⟨fun c3=>?_,fun c3=>absurd hm1.kind (by omega)⟩
  rw[h.r9 1 rfl Z8 rfl]
  refine h.act 0 rfl (fun B2 own base2=>np0 hk1 (by have:=hm1.from3;unfold I3;omega) hm1.index) fun u e' τ w9 hp h=>?_
  obtain⟨rfl,rfl⟩:=hp
  exact step _ _ _ rfl h
 clear hk1 hm1
 have h:=h.tick
 generalize tick w4=w4 at *
 unfold KO at hJ1
 rw[h.ld 2 rfl Y2 (o:=3) (v := .int .i64 m.term) rfl,h.ld 0 rfl Y2 (o:=1) (v := .int .i64 r.hard.term) rfl,x9,K3]
 refine⟨fun c=>?_,fun c=>?_⟩
 case refine_2 =>
  rw[if_neg c] at hJ1
  exact hJ1 _ h
 rw[if_pos c] at hJ1
 rw[h.ld 2 rfl Y2 (o:=3) (v := .int .i64 m.term) rfl,rQ]
 refine h.mr0 0 (n:=2) (o:=1) rfl fC rfl (show 1+2≤15 by omega) (fun v hv=>Enc.one (⟨m.term,-1⟩:SN) v hv) fun w7 h=>?_
 refine h.st 0 rfl Y2 (o:=4) (show 4<15 by omega) rfl fun w8 h=>?_
 exact hJ1 _ h
end
end Go.Proofs.YtngbebnhegcokaaGreatDoor

namespace Go.Proofs.YtngbebnhegcokaaGreatDoor
open Go.RowKit
set_option maxRecDepth 100000
structure UY (id:Int) (hd:SN) (log:List uB):Prop where
 id:0≤id∧id≤2
 term:0≤hd.term∧hd.term≤1099511627776
 vote : -1≤hd.vote∧hd.vote≤2
 len:log.length≤4000
 sound:RA log 1 hd.term=true
theorem rv0(id:Int)(hd:SN)(log:List uB):((0≤id∧id≤2)∧(0≤hd.term∧hd.term≤1099511627776)∧(-1≤hd.vote∧hd.vote≤2)∧log.length≤4000∧RA log 1 hd.term=true)↔UY id hd log :=
 ⟨fun⟨a,b,c,d,e⟩=>⟨a,b,c,d,e⟩,fun⟨a,b,c,d,e⟩=>⟨a,b,c,d,e⟩⟩
instance (id:Int) (hd:SN) (log:List uB):Decidable (UY id hd log):=decidable_of_iff _ (rv0 id hd log)
def newR(id:Int)(hd:SN)(log:List uB):G8:=⟨id,hd,log,0,0,⟨false,false,false⟩,⟨0,0,0⟩,⟨0,0,0⟩⟩
theorem rC0{id:Int}{hd:SN}{log:List uB}(h:UY id hd log):Y9 (newR id hd log) where
 id:=by have:=h.id;unfold I3;show 0≤id∧id<3;omega
 term:=h.term
 vote:=h.vote
 len:=h.len
 sound:=h.sound
 role := .inl rfl
 commit:=by show (0:Int)≤0∧(0:Int)≤log.length;omega
 next:=fun h=>by cases h
 mtch:=fun h=>by cases h
section
variable {B:Base} {w:World} {σ τ:List Dat} {p:Nat} {r:G8} {K:Value→World→Prop}
theorem Km0(a:pJ p r B):Gives Tryz.prog B (Z0 rD #[ptr p]) (.int .i64 r.commit):=by
 refine Gives.intro fun B' w K base h k=>?_
 replace a:=base a
 refine TE.up ?_
 unfold TE.pt
 obtain⟨lv,c0,c1⟩:=pJ.jP a
 simp -zeta only[J5,U0 lH,Nat.zero_add]
 rw[O1.ld (h.L6 c0) Y2 (o:=5) (v := .int .i64 r.commit) rfl]
 exact k _ _ h
theorem KG0(a:pJ p r B)(hl:r.log.length≤1000000):Makes Tryz.prog B (Z0 DJ #[ptr p]) fun u τ=>τ=[Y3 X3 u r.log]:=by
 refine Makes.intro fun B' w K base h k=>?_
 replace a:=base a
 refine BH.up ?_
 unfold BH.pt
 obtain⟨lv,c0,c1⟩:=pJ.jP a
 simp -zeta only[J5,U0 x_,Nat.zero_add]
 rw[O1.ld (h.L6 c0) X5 (o:=3) (v:=lv.1) rfl]
 refine h.make (fun B2 own base2=>P_ (base2 c1) (by omega) (by omega)) fun u τ w1 hp h=>?_
 exact k _ _ _ hp h
theorem dz0(id:Int)(hd:SN){v:Value}{log:List uB}(q:O4 v log B)(hl:log.length≤1000000000):Makes Tryz.prog B (Z0 jT #[.int .i64 id,.agg hd.cs.toArray,v]) fun u τ=>if UY id hd log then ∃p,u=ptr p∧τ=[bA p (newR id hd log)] else u = .pointer none∧τ=[]:=by
 refine Makes.intro fun B' w K base h k=>?_
 replace q:=base q
 refine YS.up ?_
 unfold YS.pt
 refine h.box fun o w1 h=>?_
 have h:Rel B' w1 [O1 o O5 hd.cs.toArray]:=h
 have no:¬UY id hd log→∀w',Rel B' w' [O1 o O5 hd.cs.toArray]→K (.pointer none) w':=fun c w' h=>k _ [] _ (by rw[if_neg c];exact⟨rfl,rfl⟩) h.nil
 refine h.ask (fun B2 own base2=>WI id 0 2) fun w2 h=>?_
 rw[V7,G5,R5]
 refine⟨fun c1=>?_,fun c1=>no (fun hh=>by rw[decide_eq_true hh.id.1,decide_eq_true hh.id.2] at c1;cases c1) _ h⟩
 rw[Bool.and_eq_true,decide_eq_true_eq,decide_eq_true_eq] at c1
 simp -zeta only[U0 KC,U0 VU,Nat.zero_add]
 rw[h.ld 0 rfl Y2 (o:=0) (v := .int .i64 hd.term) rfl]
 refine h.ask (fun B2 own base2=>WI hd.term 0 1099511627776) fun w3 h=>?_
 rw[V7,G5,R5]
 refine⟨fun c2=>?_,fun c2=>no (fun hh=>by rw[decide_eq_true hh.term.1,decide_eq_true hh.term.2] at c2;cases c2) _ h⟩
 rw[Bool.and_eq_true,decide_eq_true_eq,decide_eq_true_eq] at c2
 rw[h.ld 0 rfl Y2 (o:=1) (v := .int .i64 hd.vote) rfl]
 refine h.ask (fun B2 own base2=>WI hd.vote (-1) 2) fun w4 h=>?_
 rw[V7,G5,R5]
 refine⟨fun c3=>?_,fun c3=>no (fun hh=>by rw[decide_eq_true hh.vote.1,decide_eq_true hh.vote.2] at c3;cases c3) _ h⟩
 rw[Bool.and_eq_true,decide_eq_true_eq,decide_eq_true_eq] at c3
 rw[O4.len q u6,x9,K3]
 refine⟨fun c4=>no (fun hh=>by have:=hh.len;omega) _ h,fun c4=>?_⟩
 rw[h.ld 0 rfl Y2 (o:=0) (v := .int .i64 hd.term) rfl]
 refine h.ask (fun B2 own base2=>Ct0 (base2 q) (by omega) 1 hd.term) fun w5 h=>?_
 rw[V7,G5,R5]
 refine⟨fun c5=>?_,fun c5=>no (fun hh=>by rw[hh.sound] at c5;cases c5) _ h⟩
 have ok:UY id hd log:=⟨c1,c2,c3,by omega,c5⟩
 have h:=h.tick
 generalize tick w5=w5 at *
 rw[h.r9 0 rfl fC rfl]
 refine h.make (fun B2 own base2=>P_ (base2 q) (by omega) (by omega)) fun u τ w6 hp h=>?_
 subst hp
 refine⟨h.bV 0 rfl fC rfl,?_⟩
 obtain⟨x,n,c,rfl⟩:=EW h 1 rfl
 rw[show (Value.agg hd.cs.toArray) = .agg #[.int .i64 hd.term,.int .i64 hd.vote] from rfl,uT]
 refine h.box fun b w7 h=>?_
 refine k _ _ _ (by rw[if_pos ok];exact⟨b,rfl,rfl⟩) (bA.close (r:=newR id hd log) (τ:=[]) ⟨.slice x n c,rfl⟩ ?_)
 exact h.pick [2,1] (by decide)
end
end Go.Proofs.YtngbebnhegcokaaGreatDoor

namespace Go.Proofs.YtngbebnhegcokaaGreatDoor
open Go.RowKit
set_option maxRecDepth 100000
theorem CC0(a b:Bs):ofL a++ofL b=ofL (a++b):=by
 apply fx0
 show (ofL a++ofL b).data.toList=a++b
 simp
theorem C9{P:Program}{Kp:Value→Prop}{T:TypeId}{xo yo:Operand}{a b:Bs}(h:a.length+b.length≤9223372036854775807):M0 P (V3 .add T xo yo (.string (ofL a)) (.string (ofL b))) Kp=Kp (.string (ofL (a++b))):=by
 rw[iD0 (by rw[Q_,Q_];exact h),CC0]
theorem Dy0{n:Nat}:Go.Lib.itoa (n:Int)=Go.Lib.decDigits n:=by unfold Go.Lib.itoa;rw[if_neg (by omega)];rfl
theorem Q6{n:Int}(h:inI n):(encI n).length≤21:=by
 have:=kS h
 unfold encI
 rw[List.length_append,List.length_singleton]
 omega
theorem wE(s:Bs)(h:s.length≤9223372036854775807):(yB s).length≤s.length+22:=by
 have:=kS (n:=s.length) ⟨by omega,by omega⟩
 unfold yB
 simp
 omega
theorem TV{α:Type}(one:α→Bs)(l:List α)(h:l.length≤9223372036854775807):(l.flatMap one).length≤(tY one l).length∧(tY one l).length≤(l.flatMap one).length+22:=by
 have:=kS (n:=l.length) ⟨by omega,by omega⟩
 unfold tY
 simp
 omega
theorem QE{α:Type}(one:α→Bs)(l:List α)(i:Nat):((l.take i).flatMap one).length≤(l.flatMap one).length:=by
 have e:l.flatMap one=(l.take i).flatMap one++(l.drop i).flatMap one:=by rw[←List.flatMap_append,List.take_append_drop]
 rw[e,List.length_append]
 omega
theorem xE{α:Type}(one:α→Bs)(l:List α)(k:Nat)(h:∀x∈l,(one x).length≤k):(l.flatMap one).length≤k * l.length:=by
 induction l with
 | nil=>simp
 | cons x l ih =>
  have h1:=h x List.mem_cons_self
  have h2:=ih fun y hy=>h y (List.mem_cons_of_mem _ hy)
  rw[List.flatMap_cons,List.length_append,List.length_cons,Nat.mul_add]
  omega
theorem jI{α:Type}(one:α→Bs){l:List α}{i:Nat}(h:i<l.length):(l.take (i+1)).flatMap one=(l.take i).flatMap one++one l[i]:=by
 rw[List.take_succ_eq_append_getElem h,List.flatMap_append]
 simp
section
variable {B:Base} {w:World} {σ:List Dat}
theorem wC(hB:VI B){n:Int}(hn:inI n):Gives Tryz.prog B (Z0 J8 #[.int .i64 n]) (.string (ofL (encI n))):=by
 refine Gives.intro fun B' w K base h k=>?_
 refine WZ.up ?_
 unfold WZ.pt
 refine h.ask (fun B2 own base2=>Yk0 (base2 (base hB)) hn) fun w1 h=>?_
 have:=kS hn
 have e:M0 Tryz.prog (V3 .add M3 (.tmp 4) (.const (.string ⟨#[59]⟩)) (.string (ofL (Go.Lib.itoa n))) (.string (ofL [59]))) (fun t5=>K t5 w1)=K (.string (ofL (Go.Lib.itoa n++[59]))) w1:=C9 (by simp;omega)
 show M0 Tryz.prog (V3 .add M3 (.tmp 4) (.const (.string ⟨#[59]⟩)) (.string (ofL (Go.Lib.itoa n))) (.string (ofL [59]))) (fun t5=>K t5 w1)
 rw[e]
 exact k _ _ h
theorem fh0(hB:VI B){n:Int}(hn:inI n):Gives Tryz.prog B (Z0 WM #[.int .i64 n]) (.string (ofL (gd0 n))):=by
 refine Gives.intro fun B' w K base h k=>?_
 refine XZ.up ?_
 unfold XZ.pt
 simp -zeta only[G6,K3]
 unfold gd0 at k
 refine⟨fun c=>?_,fun c=>?_⟩
 ·rw[if_pos c] at k
  exact k _ _ h
 ·rw[if_neg c] at k
  refine h.ask (fun B2 own base2=>wC (base2 (base hB)) hn) fun w1 h=>?_
  exact k _ _ h
theorem gT(hB:VI B){s:Bs}(hs:s.length≤4611686018427387904):Gives Tryz.prog B (Z0 ZE #[.string (ofL s)]) (.string (ofL (yB s))):=by
 refine Gives.intro fun B' w K base h k=>?_
 refine qX.up ?_
 unfold qX.pt
 rw[aK K8]
 have hin:inI (s.length:Int):=⟨by omega,by omega⟩
 refine h.ask (fun B2 own base2=>Yk0 (base2 (base hB)) hin) fun w1 h=>?_
 have hl:=kS hin
 rw[show (⟨#[58]⟩:ByteArray)=ofL [58] from rfl,show (⟨#[44]⟩:ByteArray)=ofL [44] from rfl]
 rw[C9 (by simp;omega),C9 (by simp;omega),C9 (by simp;omega)]
 have e:yB s=Go.Lib.itoa s.length++[58]++s++[44]:=by simp [yB]
 rw[e] at k
 exact k _ _ h
theorem pq0(hB:VI B){v:Value}{l:List Int}(r:O4 v l B)(hgood:∀x∈l,inI x)(hb:(tY encI (l.map id)).length≤70368744177664) :
  Gives Tryz.prog B (Z0 mQ #[v,.func (.func J8) #[] #[]]) (.string (ofL (tY encI (l.map id)))):=by
 refine Gives.wf0 fun B' w K base h start k=>?_
 replace r:=base r
 replace hB:=base hB
 refine OP.up ?_
 unfold OP.pt
 have hll:l.length≤70368744177664:=by
  have h1:l.length≤((l.map id).flatMap encI).length:=by
   clear hb hgood k r start h
   induction l with
   | nil=>simp
   | cons x l ih =>
    rw[List.map_cons,List.flatMap_cons,List.length_append,List.length_cons]
    have:1≤(encI (id x)).length:=by simp [encI]<;>omega
    omega
  rcases Nat.lt_or_ge 9223372036854775807 l.length with hh | hh
  ·have h2:((l.map id).flatMap encI).length≤(tY encI (l.map id)).length:=by unfold tY;simp;omega
   omega
  ·have:=(TV encI (l.map id) (by rw[List.length_map];exact hh)).1
   omega
 have hin:inI (l.length:Int):=⟨by omega,by omega⟩
 refine h.alloc PG fun b w1 h=>?_
 have h:=start w1 b h
 simp -zeta only[O4.len r N8]
 refine h.ask (fun B2 own base2=>Yk0 (base2 hB) hin) fun w2 h=>?_
 have hl:=kS hin
 rw[show (⟨#[91]⟩:ByteArray)=ofL [91] from rfl,C9 (by simp;omega)]
 refine h.VN (Nat.le_refl _) (by rw[Q_];simp;omega) fun _ w3 h=>?_
 have h:Rel B' w3 [bP B'.W.heap.size b (Go.Lib.itoa l.length++[91])]:=h
 have hmap:(l.map id).length=l.length:=List.length_map ..
 have hall:=(TV encI (l.map id) (by omega)).1
 refine F6 (fun x w'=>∃i:Nat,i≤l.length∧x=(.int .i64 i,())∧Rel B' w' [bP B'.W.heap.size b (Go.Lib.itoa l.length++[91]++((l.map id).take i).flatMap encI)]) (fun x _=>l.length-(match x.1 with | .int _ n=>n.toNat | _=>0))
  ⟨0,Nat.zero_le _,rfl,by simpa using h⟩ ?_
 clear h
 rintro x w4 ⟨i,hi,rfl,h⟩ next hnext
 simp -zeta only[G6,K3]
 refine⟨fun hlt=>?_,fun hge=>?_⟩
 ·have hil:i<l.length:=by omega
  obtain⟨q,q1,q2⟩:=O4.cZ r h N8 hil Y2 (x := .int .i64 l[i]) rfl
  rw[q1,q2]
  refine YH ?_
  refine h.ask (fun B2 own base2=>wC (base2 hB) (hgood l[i] (List.getElem_mem hil))) fun w5 h=>?_
  have hstep:=jI encI (l:=l.map id) (i:=i) (by omega)
  rw[List.getElem_map,show encI (id l[i])=encI l[i] from rfl] at hstep
  have hle:=QE encI (l.map id) (i+1)
  rw[hstep,List.length_append] at hle
  refine h.VN (Nat.le_refl _) (by rw[Q_];simp only[List.length_append,List.length_singleton];omega) fun _ w6 h=>?_
  rw[Z5,E5 (by omega) (by omega)]
  refine hnext _ _ ⟨i+1,hil,rfl,?_⟩ (by simp only;omega)
  rw[hstep,←List.append_assoc]
  exact h
 ·refine h.gU (Nat.le_refl _) fun w7 h=>?_
  have hie:i=l.length:=by omega
  subst hie
  have e:(l.map id).take l.length=l.map id:=List.take_of_length_le (by omega)
  rw[e] at *
  rw[show (⟨#[93]⟩:ByteArray)=ofL [93] from rfl,C9 (by simp only[List.length_append,List.length_singleton];omega)]
  have e2:tY encI (l.map id)=Go.Lib.itoa l.length++[91]++(l.map id).flatMap encI++[93]:=by simp [tY]
  rw[e2] at k
  exact k _ _ h
theorem KD0(hB:VI B){v:Value}{l:List Int}(r:O4 v l B)(hgood:∀x∈l,inI x)(hl:l.length≤1099511627776):Gives Tryz.prog B (Z0 GV #[v]) (.string (ofL (tY encI l))):=by
 refine Gives.intro fun B' w K base h k=>?_
 refine nX.up ?_
 unfold nX.pt
 have e:l.map id=l:=List.map_id l
 refine h.ask (fun B2 own base2=>pq0 (base2 (base hB)) (base2 (base r)) hgood (by
  rw[e]
  have h1:=(TV encI l (by omega)).2
  have h2:=xE encI l 21 fun x hx=>Q6 (hgood x hx)
  omega)) fun w1 h=>?_
 rw[e]
 exact k _ _ h
end
end Go.Proofs.YtngbebnhegcokaaGreatDoor

namespace Go.Proofs.YtngbebnhegcokaaGreatDoor
open Go.RowKit
set_option maxRecDepth 100000
abbrev rdC(s:RS):Array Value:=#[.string (ofL s.rest),.bool s.bad]
abbrev rdD(p:Nat)(s:RS):Dat:=O1 p C8 (rdC s)
def jV(p:Nat)(v:Value)(s:RS):Value→Dat→List Dat→Prop:=fun u e' τ=>u=v∧e'=rdD p s∧τ=[]
abbrev uS(p:Nat):Value := .pointer (some ⟨p,0,none⟩)
section
variable {B:Base} {w:World} {σ:List Dat} {p:Nat} {s:RS}
theorem Does.rd{sem:Sem Next}{v:Value}{s':RS}(h:∀(B':Base) (w:World) (K:Value→World→Prop),(∀{d:Dat},d B→d B')→Rel B' w [rdD p s]→(∀w' τ,Rel B' w' (rdD p s' :: τ)→K v w')→upK Tryz.prog sem w K):Does Tryz.prog B (rdD p s) sem (jV p v s'):=by
 refine Does.intro fun B' w K base h' k=>?_
 refine h B' w K base h' fun w' τ h2=>k v _ [] w' ⟨rfl,rfl,rfl⟩ ?_
 have h3:Rel B' w' ([rdD p s']++τ):=h2
 exact h3.drop
theorem Rel.rd_(h:Rel B w σ)(i:Nat)(hi:σ[i]? = some (rdD p s)){sem:Sem Next}{v:Value}{s':RS}{K:Value→World→Prop}(G:∀B':Base,(∀{j:Nat} {d:Dat},j≠i→σ[j]? = some d→d B')→(∀{d:Dat},d B→d B')→Does Tryz.prog B' (rdD p s) sem (jV p v s'))
  (k:∀w',Rel B w' (σ.set i (rdD p s'))→K v w'):upK Tryz.prog sem w K:=by
 refine h.act i hi G fun u e' τ w' hp h2=>?_
 obtain⟨rfl,rfl,rfl⟩:=hp
 rw[List.append_nil] at h2
 exact k _ h2
theorem Rp0:Does Tryz.prog B (rdD p s) (Z0 BA #[uS p]) (jV p (.tuple #[]) eO):=by
 refine Does.rd fun B' w K base h k=>?_
 refine AL.up ?_
 unfold AL.pt
 simp -zeta only[J5,U0 pE,Nat.add_zero]
 refine h.st 0 rfl U6 (show 0<2 by omega) rfl fun w1 h=>?_
 simp -zeta only[U0 lJ,Nat.zero_add]
 refine h.st 0 rfl AB (show 1<2 by omega) rfl fun w2 h=>?_
 exact k _ [] h
theorem qH0(e:UInt8):(e.toNat:Int).toNat.toUInt8=e:=by simp
theorem FZ(hB:qC B){e:UInt8}(he:bE e){lo:Int}(hs:s.rest.length≤140737488355328) :
  Does Tryz.prog B (rdD p s) (Z0 dC #[uS p,.int .u8 e.toNat,.int .i64 lo]) (jV p (.int .i64 (nL e lo s).1) (nL e lo s).2):=by
 refine Does.rd fun B' w K base h k=>?_
 replace hB:=base hB
 refine fJ.up ?_
 unfold fJ.pt
 have h:=h.tick
 have hmin:min ((s.rest.length:Nat):Int) 21=((min s.rest.length 21:Nat):Int):=by omega
 simp -zeta only[J5,U0 pE,Nat.add_zero,h.ld 0 rfl U6 (o:=0) rfl,aK K8,GI,YK,hmin]
 rw[qR K8 (lo:=0) (hi:=min s.rest.length 21) Bnd.none Bnd.some (Nat.zero_le _) (by rw[Q_];omega)]
 rw[GI,List.drop_zero]
 have hhead:s.rest.take (min s.rest.length 21)=s.rest.take 21:=by
  rcases Nat.le_total s.rest.length 21 with h1 | h1
  ·rw[Nat.min_eq_left h1,List.take_length,List.take_of_length_le h1]
  ·rw[Nat.min_eq_right h1]
 rw[hhead]
 refine h.ask (fun B2 own base2=>gC0 _ _) fun w1 h=>?_
 rw[qH0,GI,G6]
 have bad:(∀n r,s.rest=Go.Lib.itoa n++e :: r→lo≤n→¬inI n)→nL e lo s=(0,eO):=fun hno=>by
  unfold nL
  rw[cj0.2 hno]
 have no:(∀n r,s.rest=Go.Lib.itoa n++e :: r→lo≤n→¬inI n)→∀w',Rel B' w' [rdD p s]→upK Tryz.prog (Z0 BA #[uS p]) w' fun _ w2=>K (.int .i64 0) w2:=fun hno w' h=>by
  rw[bad hno] at k
  exact h.rd_ 0 rfl (fun B2 own base2=>Rp0) fun w2 h=>k _ [] h
 by_cases hmem:e∈s.rest.take 21
 ·obtain⟨a,r,hsp,hna⟩:=uc0 hmem
  obtain⟨z,hfull⟩:∃z,s.rest=a++e :: z:=by
   have h1:s.rest.take 21++s.rest.drop 21=s.rest:=List.take_append_drop 21 s.rest
   rw[hsp,List.append_assoc,List.cons_append] at h1
   exact⟨_,h1.symm⟩
  have hal:a.length<s.rest.length:=by rw[hfull,List.length_append,List.length_cons];omega
  have hal2:a.length<(s.rest.take 21).length:=by rw[hsp,List.length_append,List.length_cons];omega
  have hat:Go.Lib.indexByte (s.rest.take 21) e=a.length:=by rw[hsp];exact index_first r hna
  have htk:((s.rest.take 21).take a.length).drop 0=a:=by rw[hsp,List.drop_zero,List.take_left]
  rw[hat,decide_eq_false (show ¬((a.length:Int)<0) by omega),d_]
  rw[qR K8 (lo:=0) (hi:=a.length) Bnd.none Bnd.some (Nat.zero_le _) (by rw[Q_];omega)]
  rw[GI,htk]
  refine KE0 hB h (by rw[Q_];omega) fun v w3 hv h=>?_
  have h:=h.tick
  rw[GI] at hv
  rcases hv with⟨n,hn,rfl⟩ | ⟨hno,n,t,q,rfl⟩
  ·have hin:=Go.Lib.atoiAll_bounds hn
   simp -zeta only[M9,D9,Zn0 (show Tryz.prog.underlying WY=some (.interface (Tryz.prog.methodsAt WY)) by kernel_rfl),d_]
   rw[qR K8 (lo:=0) (hi:=a.length) Bnd.none Bnd.some (Nat.zero_le _) (by rw[Q_];omega),GI,htk]
   refine h.ask (fun B2 own base2=>Yk0 (base2 hB) hin) fun w5 h=>?_
   rw[DZ,G5,K3]
   refine⟨fun heq=>?_,fun hne=>no (fun m r' h1 h2 h3=>?_) _ h⟩
   ·have heq:Go.Lib.itoa n=a:=by have:=congrArg bl heq;exact this
    rw[G6,K3]
    refine⟨fun hlt=>no (fun m r' h1 h2 h3=>?_) _ h,fun hge=>?_⟩
    ·rw[hfull] at h1
     obtain⟨e1,_⟩:=dQ hna (oW he) h1
     have:=Nn0 (heq.trans e1)
     omega
    ·have od0:nL e lo s=(n,⟨z,s.bad⟩):=by
      unfold nL
      rw[(cb0 he (n:=n) (r:=z)).2 ⟨by rw[heq];exact hfull,by omega,hin⟩]
     rw[od0] at k
     have hw:IntKind.i64.wrap ((a.length:Int)+1)=((a.length+1:Nat):Int):=by rw[E5 (by omega) (by omega)];omega
     simp -zeta only[J5,U0 pE,Nat.add_zero,h.ld 0 rfl U6 (o:=0) rfl,Z5,hw]
     rw[qR K8 (lo:=a.length+1) (hi:=(ofL s.rest).size) Bnd.some Bnd.none (by rw[Q_];omega) (Nat.le_refl _)]
     have hcut:(((bl (ofL s.rest)).take (ofL s.rest).size).drop (a.length+1))=z:=by
      rw[GI,Q_,List.take_length,hfull]
      have:a++e :: z=(a++[e])++z:=by simp
      rw[this,show a.length+1=(a++[e]).length by simp,List.drop_left]
     rw[hcut]
     refine h.st 0 rfl U6 (show 0<2 by omega) rfl fun w8 h=>?_
     exact k _ [] h
   ·rw[hfull] at h1
    obtain⟨e1,_⟩:=dQ hna (oW he) h1
    rw[e1,ji0 h3] at hn
    injection hn with hn
    subst hn
    exact hne (by rw[e1])
  ·simp -zeta only[M9,D9,Uh0 (show Tryz.prog.underlying WY=some (.interface (Tryz.prog.methodsAt WY)) by kernel_rfl),lC]
   refine no (fun m r' h1 h2 h3=>?_) _ h
   rw[hfull] at h1
   obtain⟨e1,_⟩:=dQ hna (oW he) h1
   exact hno m (by rw[e1];exact ji0 h3)
 ·rw[index_none hmem,decide_eq_true (show (-1:Int)<0 by decide),lC]
  refine no (fun n r h1 h2 h3=>hmem ?_) _ h
  rw[h1,List.take_append]
  have:=kS h3
  refine List.mem_append.2 (.inr ?_)
  obtain⟨m,hm⟩:∃m,21-(Go.Lib.itoa n).length=m+1:=⟨20-(Go.Lib.itoa n).length,by omega⟩
  rw[hm,List.take_succ_cons]
  exact List.mem_cons_self
theorem Qr0{e:UInt8}(hs:s.rest.length≤140737488355328):Does Tryz.prog B (rdD p s) (Z0 dH #[uS p,.string (ofL [e])]) (jV p (.tuple #[]) (TG e s)):=by
 refine Does.rd fun B' w K base h k=>?_
 refine cK.up ?_
 unfold cK.pt
 simp -zeta only[J5,U0 pE,Nat.add_zero,h.ld 0 rfl U6 (o:=0) rfl]
 refine h.ask (fun B2 own base2=>EG0 _ _) fun w1 h=>?_
 simp -zeta only[M9,D9,GI]
 have hc:(Go.Lib.hasPrefix s.rest [e]=true∧TG e s=⟨Go.Lib.trimPrefix s.rest [e],s.bad⟩)∨(Go.Lib.hasPrefix s.rest [e]=false∧TG e s=eO):=by
  unfold Go.Lib.trimPrefix Go.Lib.hasPrefix TG
  cases s.rest with
  | nil=>exact .inr ⟨rfl,rfl⟩
  | cons x r =>
   by_cases hx:x=e
   ·subst hx;left;simp
   ·right
    have:¬e=x:=fun hh=>hx hh.symm
    simp [List.isPrefixOf,hx,this]
 refine h.st 0 rfl U6 (show 0<2 by omega) rfl fun w2 h=>?_
 rcases hc with⟨h1,h2⟩ | ⟨h1,h2⟩
 ·rw[h1,V7,Bool.not_true,d_]
  rw[h2] at k
  exact k _ [] h
 ·rw[h1,V7,Bool.not_false,lC]
  rw[h2] at k
  have h:Rel B' w2 [rdD p ⟨Go.Lib.trimPrefix s.rest [e],s.bad⟩]:=h
  exact h.rd_ 0 rfl (fun B2 own base2=>Rp0) fun w3 h=>k _ [] h
theorem CY(hB:qC B)(hs:s.rest.length≤140737488355328):Does Tryz.prog B (rdD p s) (Z0 qA #[uS p]) (jV p (.int .i64 (qE s).1) (qE s).2):=by
 refine Does.rd fun B' w K base h k=>?_
 refine QM.up ?_
 unfold QM.pt
 exact h.rd_ 0 rfl (fun B2 own base2=>FZ (e:=59) (base2 (base hB)) (.inl rfl) hs) fun w1 h=>k _ [] h
theorem mD(hB:qC B)(hs:s.rest.length≤140737488355328):Does Tryz.prog B (rdD p s) (Z0 Q4 #[uS p]) (jV p (.int .i64 (H5 s).1) (H5 s).2):=by
 refine Does.rd fun B' w K base h k=>?_
 refine PM.up ?_
 unfold PM.pt
 exact h.rd_ 0 rfl (fun B2 own base2=>FZ (e:=59) (base2 (base hB)) (.inl rfl) hs) fun w1 h=>k _ [] h
theorem zB{e:UInt8}(he:bE e)(lo:Int)(s:RS):(nL e lo s).2.rest.length≤s.rest.length∧inI (nL e lo s).1∧(0≤lo→0≤(nL e lo s).1):=by
 rcases gP he lo s with⟨n,r,e1,e2,e3,e4⟩ | ⟨_,e4⟩<;>rw[e4]
 ·refine⟨?_,e3,fun h=>by show 0≤n;omega⟩
  rw[e1,List.length_append,List.length_cons]
  show r.length≤_
  omega
 ·exact⟨Nat.zero_le _,by show inI 0;exact⟨by decide,by decide⟩,fun _=>Int.le_refl 0⟩
theorem iR(hB:qC B)(hs:s.rest.length≤140737488355328):Does Tryz.prog B (rdD p s) (Z0 y8 #[uS p]) (jV p (.string (ofL (D8 s).1)) (D8 s).2):=by
 refine Does.rd fun B' w K base h k=>?_
 replace hB:=base hB
 refine zL.up ?_
 unfold zL.pt
 refine h.rd_ 0 rfl (fun B2 own base2=>FZ (e:=58) (base2 hB) (.inr (.inl rfl)) hs) fun w1 h=>?_
 obtain⟨hle,hin,h0⟩:=zB (.inr (.inl rfl):bE 58) 0 s
 have h0:=h0 (Int.le_refl 0)
 unfold D8 at k
 generalize nL 58 0 s=q at h k hle hin h0
 obtain⟨n,s1⟩:=q
 have h:Rel B' w1 [rdD p s1]:=h
 simp only at hle hin h0 k ⊢
 simp -zeta only[J5,U0 pE,Nat.add_zero,h.ld 0 rfl U6 (o:=0) rfl,aK K8,GI,x9,K3]
 refine⟨fun c=>?_,fun c=>?_⟩
 ·rw[if_pos c] at k
  exact h.rd_ 0 rfl (fun B2 own base2=>Rp0) fun w2 h=>k _ [] h
 ·rw[if_neg c] at k
  obtain⟨m,rfl⟩:∃m:Nat,n=m:=⟨n.toNat,by omega⟩
  rw[qR K8 (lo:=0) (hi:=m) Bnd.none Bnd.some (Nat.zero_le _) (by rw[Q_];omega)]
  rw[qR K8 (lo:=m) (hi:=(ofL s1.rest).size) Bnd.some Bnd.none (by rw[Q_];omega) (Nat.le_refl _)]
  rw[GI,Q_,List.take_length,List.drop_zero]
  refine h.st 0 rfl U6 (show 0<2 by omega) rfl fun w3 h=>?_
  have h:Rel B' w3 [rdD p ⟨s1.rest.drop m,s1.bad⟩]:=h
  refine h.rd_ 0 rfl (fun B2 own base2=>Qr0 (e:=44) (by show (s1.rest.drop m).length≤_;rw[List.length_drop];omega)) fun w4 h=>?_
  simp only[Int.toNat_natCast] at k
  have h:Rel B' w4 [rdD p (TG 44 ⟨s1.rest.drop m,s1.bad⟩)]:=h
  simp -zeta only[J5,U0 lJ,Nat.zero_add,h.ld 0 rfl AB (o:=1) rfl]
  rw[R5]
  refine⟨fun c2=>?_,fun c2=>?_⟩
  ·rw[if_pos c2] at k;exact k _ [] h
  ·rw[if_neg (by rw[c2];decide)] at k;exact k _ [] h
theorem eX(hc:rdD p s B):Gives Tryz.prog B (Z0 qB #[uS p]) (.int .i64 s.rest.length):=by
 refine Gives.intro fun B' w K base h k=>?_
 replace hc:=base hc
 refine xL.up ?_
 unfold xL.pt
 simp -zeta only[J5,U0 pE,Nat.add_zero,O1.ld (h.L6 hc) U6 (o:=0) rfl,aK K8,GI]
 exact k _ _ h
theorem Bu0:(⟨#[]⟩:ByteArray)=ofL []:=rfl
theorem IB0{P:Program}{T:TypeId}{xo yo:Operand}{a b:Bs}{K:Value→Prop}:M0 P (V3 .eql T xo yo (.string (ofL a)) (.string (ofL b))) K=K (.bool (decide (a=b))):=by
 rw[VW]
 congr 2
 exact decide_eq_decide.2 ⟨fun h=>congrArg bl h,fun h=>by rw[h]⟩
def aO(s:RS):Bool:=!s.bad&&decide (s.rest=[])
theorem dR(hc:rdD p s B):Gives Tryz.prog B (Z0 m_ #[uS p]) (.bool (aO s)):=by
 refine Gives.intro fun B' w K base h k=>?_
 replace hc:=base hc
 refine wL.up ?_
 unfold wL.pt
 simp -zeta only[J5,U0 pE,U0 lJ,Nat.zero_add,Nat.add_zero,O1.ld (h.L6 hc) U6 (o:=0) rfl,O1.ld (h.L6 hc) AB (o:=1) rfl,V7,G5,R5,Bu0,IB0]
 unfold aO at k
 refine⟨fun c=>?_,fun c=>?_⟩
 ·rw[c] at k;exact k _ _ h
 ·rw[c] at k;exact k _ _ h
theorem WT{t:Bs}:Makes Tryz.prog B (Z0 S_ #[.string (ofL t)]) fun u τ=>∃p,u=uS p∧τ=[rdD p ⟨t,false⟩]:=by
 refine Makes.intro fun B' w K base h k=>?_
 refine pX.up ?_
 unfold pX.pt
 rw[ua0]
 refine h.box fun b w1 h=>?_
 exact k _ _ _ ⟨b,rfl,rfl⟩ h
end
end Go.Proofs.YtngbebnhegcokaaGreatDoor

namespace Go.Proofs.YtngbebnhegcokaaGreatDoor
open Go.RowKit
set_option maxRecDepth 100000
theorem Ok1.shrink{α:Type}{enc:α→Bs}{good:α→Prop}{one:RS→α×RS}(h:Ok1 enc good one)(hne:∀x,0<(enc x).length){s:RS}(h1:s.bad=false) :
  (one s).2.rest.length≤s.rest.length∧((one s).2.bad=false→(one s).2.rest.length+1≤s.rest.length):=by
 cases hb:(one s).2.bad
 ·obtain⟨e,_⟩:=h.back h1 hb
  have:=hne (one s).1
  rw[e,List.length_append]
  exact⟨by omega,fun _=>by omega⟩
 ·rw[h.fail h1 hb]
  exact⟨Nat.zero_le _,fun hh=>by cases hh⟩
theorem RV(n:Int):0<(encI n).length:=by unfold encI;simp
theorem Yn0{α:Type}{enc:α→Bs}{good:α→Prop}{one:RS→α×RS}(h:Ok1 enc good one)(hne:∀x,0<(enc x).length):∀(k:Nat) (acc:List α) (s:RS),(tN one k acc s).1.length≤acc.length+s.rest.length+1
 | 0,acc,s=>by rw[tN];simp only;omega
 | k+1,acc,s=>by
  rw[tN]
  by_cases c:s.bad=true
  ·rw[if_pos c];simp only;omega
  ·rw[if_neg c]
   have c:s.bad=false:=by simpa using c
   obtain⟨h1,h2⟩:=h.shrink hne c
   cases hb:(one s).2.bad
   ·have:=Yn0 h hne k (acc++[(one s).1]) (one s).2
    have:=h2 hb
    rw[List.length_append,List.length_singleton] at *
    omega
   ·cases k with
    | zero=>rw[tN,List.length_append,List.length_singleton];omega
    | succ k=>rw[tN,if_pos hb,List.length_append,List.length_singleton];omega
section
variable {B:Base} {w:World} {σ:List Dat} {p:Nat} {s:RS}
theorem Ln0(hB:qC B)(hs:s.rest.length≤1099511627776):Does Tryz.prog B (rdD p s) (Z0 VO #[uS p,.func (.func Q4) #[uS p] #[]]) (fun u e' τ=>e'=rdD p (bN H5 s).2∧τ=[Y3 Q0 u ((bN H5 s).1)]):=by
 refine Does.intro fun B' w K base h k=>?_
 replace hB:=base hB
 refine AO.up ?_
 unfold AO.pt
 refine P6 fun J1 hJ1=>?_
 replace hJ1:∀v acc s' w',bN H5 s=(if(TG 93 s').bad=true then [] else acc,TG 93 s')→s'.rest.length≤s.rest.length→Rel B' w' [rdD p s',Y3 Q0 v acc]→J1 (v,()) w':=by
  intro v acc s' w' he hl h
  refine hJ1 _ _ ?_
  clear hJ1
  refine h.rd_ 0 rfl (fun B2 own base2=>Qr0 (e:=93) (by omega)) fun w2 h=>?_
  have h:Rel B' w2 [rdD p (TG 93 s'),Y3 Q0 v acc]:=h
  simp -zeta only[J5,U0 lJ,Nat.zero_add,h.ld 0 rfl AB (o:=1) rfl]
  rw[R5]
  rw[he] at k
  refine⟨fun c=>?_,fun c=>?_⟩
  ·have h:=(h.take 1).VC Int Q0
   have h:Rel B' w2 [rdD p (TG 93 s'),Y3 Q0 (.slice none 0 0) ([]:List Int)]:=h
   refine k _ _ _ _ ⟨rfl,rfl⟩ ?_
   rw[if_pos c]
   exact h
  ·refine k _ _ _ _ ⟨rfl,rfl⟩ ?_
   rw[if_neg (by rw[c];decide)]
   exact h
 refine h.rd_ 0 rfl (fun B2 own base2=>FZ (e:=91) (base2 hB) (.inr (.inr rfl)) (by omega)) fun w3 h=>?_
 obtain⟨hle,hin,h0⟩:=zB (.inr (.inr rfl):bE 91) 0 s
 have h0:=h0 (Int.le_refl 0)
 unfold bN at hJ1
 generalize nL 91 0 s=q at h hJ1 hle hin h0
 obtain⟨n,s1⟩:=q
 simp only at hle hin h0 hJ1 ⊢
 obtain⟨m,hm⟩:∃m:Nat,n=m:=⟨n.toNat,by omega⟩
 have h:Rel B' w3 [rdD p s1]:=h
 have h:=h.VC Int Q0
 rw[hm] at hJ1 ⊢
 simp only[Int.toNat_natCast] at hJ1
 refine F6 (fun x w'=>∃(j:Nat) (acc:List Int) (v:Value) (s':RS),j≤m∧x=(v,.int .i64 j,())∧tN H5 j acc s'=tN H5 m [] s1∧s'.rest.length≤s.rest.length∧(s'.bad=false→acc.length+s'.rest.length≤s.rest.length) ∧
   Rel B' w' [rdD p s',Y3 Q0 v acc]) (fun x _=>match x.2.1 with | .int _ n=>n.toNat | _=>0)
  ⟨m,[],.slice none 0 0,s1,Nat.le_refl _,rfl,rfl,hle,fun _=>by simpa using hle,h⟩ ?_
 clear h
 rintro x w4 ⟨j,acc,v,s',hj,rfl,hlp,hsl,hac,h⟩ next hnext
 simp -zeta only[x9,K3]
 refine⟨fun hpos=>?_,fun hz=>?_⟩
 ·obtain⟨i,rfl⟩:∃i,j=i+1:=⟨j-1,by omega⟩
  simp -zeta only[J5,U0 lJ,Nat.zero_add,h.ld 0 rfl AB (o:=1) rfl]
  rw[V7,G5,R5]
  rw[tN] at hlp
  refine⟨fun c=>?_,fun c=>?_⟩
  ·rw[if_pos c] at hlp
   rw[←hlp] at hJ1
   exact hJ1 v acc s' w4 rfl hsl h
  ·rw[if_neg (by rw[c];decide)] at hlp
   have hac:=hac c
   obtain⟨sh1,sh2⟩:=Ok1.shrink Md0 RV c
   refine YH ?_
   show upK Tryz.prog (Z0 Q4 #[uS p]) w4 _
   refine h.rd_ 0 rfl (fun B2 own base2=>mD (base2 hB) (by omega)) fun w5 h=>?_
   have h:Rel B' w5 [rdD p (H5 s').2,Y3 Q0 v acc]:=h
   refine h.WS (α:=Int) 1 rfl ((H5 s').1) N8 (by decide) (by omega) (by omega) fun v2 w7 h=>?_
   have h:Rel B' w7 [rdD p (H5 s').2,Y3 Q0 v2 (acc++[((H5 s').1)])]:=h
   rw[TB,E5 (by omega) (by omega)]
   have e1:(((i+1:Nat):Int)-1)=(i:Int):=by omega
   rw[e1]
   refine hnext _ _ ⟨i,acc++[(H5 s').1],v2,(H5 s').2,by omega,rfl,hlp,by omega,fun hb=>?_,?_⟩ (by simp only;omega)
   ·have:=sh2 hb
    rw[List.length_append,List.length_singleton]
    omega
   ·have e2:(acc++[(H5 s').1])=acc++[((H5 s').1)]:=rfl
    rw[e2]
    exact h
 ·obtain rfl:j=0:=by omega
  rw[tN] at hlp
  rw[←hlp] at hJ1
  exact hJ1 v acc s' w4 rfl hsl h
theorem JC0(hB:qC B)(hs:s.rest.length≤1099511627776):Does Tryz.prog B (rdD p s) (Z0 XM #[uS p]) (fun u e' τ=>e'=rdD p (bN H5 s).2∧τ=[Y3 Q0 u ((bN H5 s).1)]):=by
 refine Does.intro fun B' w K base h k=>?_
 refine yL.up ?_
 unfold yL.pt
 rw[TI]
 refine h.act 0 rfl (fun B2 own base2=>Ln0 (base2 (base hB)) hs) fun u e' τ w1 hp h=>?_
 exact k _ _ _ _ hp h
end
end Go.Proofs.YtngbebnhegcokaaGreatDoor

namespace Go.Proofs.YtngbebnhegcokaaGreatDoor
open Go.RowKit
structure Ok2 {α:Type} (enc:α→Bs) (good:α→Prop) (one:RS→α×RS):Prop where
 ok:Ok1 enc good one
 keep:∀s:RS,s.bad=true→(one s).2.bad=true
theorem Ok2.back{α:Type}{enc:α→Bs}{good:α→Prop}{one:RS→α×RS}(h:Ok2 enc good one){s:RS}(hb:(one s).2.bad=false):s.bad=false∧s.rest=enc (one s).1++(one s).2.rest∧good (one s).1:=by
 have h1:s.bad=false:=by
  cases hs:s.bad
  ·rfl
  ·rw[h.keep s hs] at hb;cases hb
 exact⟨h1,h.ok.back h1 hb⟩
theorem ab0{e:UInt8}(he:bE e)(lo:Int)(s:RS)(h:s.bad=true):(nL e lo s).2.bad=true:=by
 rcases gP he lo s with⟨n,r,_,_,_,e4⟩ | ⟨_,e4⟩<;>rw[e4]
 ·exact h
 ·rfl
theorem Jm0(e:UInt8)(s:RS)(h:s.bad=true):(TG e s).bad=true:=by
 rcases PQ e s with⟨r,_,e2⟩ | ⟨_,e2⟩<;>rw[e2]
 ·exact h
 ·rfl
theorem Ay0:Ok2 encI (fun n => -9223372036854775808≤n∧inI n) H5:=⟨Md0,fun s h=>ab0 (.inl rfl) _ s h⟩
theorem az0:Ok2 encI (fun n=>0≤n∧inI n) qE:=⟨qC0,fun s h=>ab0 (.inl rfl) _ s h⟩
theorem Aj0:Ok2 yB (fun t=>t.length≤9223372036854775807) D8:=by
 refine⟨DA0,fun s h=>?_⟩
 unfold D8
 simp only
 split
 ·rfl
 ·exact Jm0 _ _ (ab0 (.inr (.inl rfl)) _ s h)
def IQ{α β:Type}(one:RS→α×RS)(two:RS→β×RS)(s:RS):(α×β)×RS:=(((one s).1,(two (one s).2).1),(two (one s).2).2)
def IK{α:Type}(one:RS→α×RS):Nat→List α→RS→List α×RS
 | 0,acc,s=>(acc,s)
 | k+1,acc,s=>IK one k (acc++[(one s).1]) (one s).2
structure Rd2 {α:Type} (enc:α→Bs) (good:α→Prop) (one:RS→α×RS):Prop where
 back:∀s:RS,(one s).2.bad=false→s.bad=false∧s.rest=enc (one s).1++(one s).2.rest∧good (one s).1
 fore:∀(x:α) (r:Bs),good x→one ⟨enc x++r,false⟩=(x,⟨r,false⟩)
theorem mO:Rd2 encI inI H5:=⟨fun s h=>by
 obtain⟨h1,h2,h3⟩:=Ay0.back h
 exact⟨h1,h2,h3.2⟩,fun x r hx=>yE hx r false⟩
theorem Ns0:Rd2 encI (fun n=>0≤n∧inI n) qE:=⟨fun s h=>az0.back h,fun x r hx=>pW hx.1 hx.2 r false⟩
theorem PZ:Rd2 yB (fun t=>t.length≤9223372036854775807) D8:=⟨fun s h=>Aj0.back h,fun x r hx=>BR hx r⟩
theorem Rd2.seq{α β:Type}{e1:α→Bs}{e2:β→Bs}{g1:α→Prop}{g2:β→Prop}{one:RS→α×RS}{two:RS→β×RS}(h1:Rd2 e1 g1 one)(h2:Rd2 e2 g2 two):Rd2 (fun p=>e1 p.1++e2 p.2) (fun p=>g1 p.1∧g2 p.2) (IQ one two):=by
 refine⟨fun s h=>?_,fun x r hx=>?_⟩
 ·obtain⟨b1,b2,b3⟩:=h2.back _ h
  obtain⟨a1,a2,a3⟩:=h1.back _ b1
  refine⟨a1,?_,a3,b3⟩
  show s.rest=(e1 (one s).1++e2 (two (one s).2).1)++(two (one s).2).2.rest
  rw[a2,b2,List.append_assoc]
 ·unfold IQ
  rw[List.append_assoc,h1.fore _ _ hx.1,h2.fore _ _ hx.2]
theorem Rd2.times{α:Type}{enc:α→Bs}{good:α→Prop}{one:RS→α×RS}(h:Rd2 enc good one):∀(k:Nat) (acc:List α) (s:RS),(IK one k acc s).2.bad=false →
  s.bad=false∧∃l,l.length=k∧(IK one k acc s).1=acc++l∧s.rest=l.flatMap enc++(IK one k acc s).2.rest∧∀x∈l,good x
 | 0,acc,s,hb=>⟨hb,[],rfl,by simp [IK],by simp [IK],fun x hx=>(by cases hx)⟩
 | k+1,acc,s,hb=>by
  rw[IK] at hb ⊢
  obtain⟨h1,l,e1,e2,e3,e4⟩:=Rd2.times h k _ _ hb
  obtain⟨b1,b2,b3⟩:=h.back _ h1
  refine⟨b1,(one s).1 :: l,by rw[List.length_cons,e1],by rw[e2];simp,?_,fun x hx=>?_⟩
  ·rw[List.flatMap_cons,List.append_assoc,←e3];exact b2
  ·rcases List.mem_cons.1 hx with rfl | hx
   ·exact b3
   ·exact e4 x hx
theorem Rd2.Bj0{α:Type}{enc:α→Bs}{good:α→Prop}{one:RS→α×RS}(h:Rd2 enc good one):∀(l acc:List α) (r:Bs),(∀x∈l,good x)→IK one l.length acc ⟨l.flatMap enc++r,false⟩=(acc++l,⟨r,false⟩)
 | [],acc,r,_=>by simp [IK]
 | x :: l,acc,r,hg=>by
  rw[List.length_cons,IK,List.flatMap_cons,List.append_assoc,h.fore _ _ (hg x List.mem_cons_self)]
  rw[Rd2.Bj0 h l _ r fun y hy=>hg y (List.mem_cons_of_mem _ hy)]
  simp
theorem Zm0{s:RS}(h:aO s=true):s.bad=false∧s.rest=[]:=by
 unfold aO at h
 cases hb:s.bad<;>rw[hb] at h
 ·exact⟨rfl,by simpa using h⟩
 ·cases h
abbrev zF0:Int := -9223372036854775808
abbrev WK(s:RS):Prop:=s.bad=true→s.rest=[]
theorem rU{e:UInt8}(he:bE e){lo:Int}{s:RS}(h:WK s):WK (nL e lo s).2:=by
 rcases gP he lo s with⟨n,r,e1,_,_,e4⟩ | ⟨_,e4⟩<;>rw[e4]
 ·intro hb
  have:=h hb
  rw[this] at e1
  exact absurd e1.symm (by simp)
 ·exact fun _=>rfl
theorem jc0{e:UInt8}{s:RS}(h:WK s):WK (TG e s):=by
 rcases PQ e s with⟨r,e1,e2⟩ | ⟨_,e2⟩<;>rw[e2]
 ·intro hb
  have:=h hb
  rw[this] at e1
  cases e1
 ·exact fun _=>rfl
theorem Qv0{s:RS}(h:WK s)(n:Nat):WK ⟨s.rest.drop n,s.bad⟩:=fun hb=>by
 show s.rest.drop n=[]
 rw[h hb,List.drop_nil]
theorem RY{s:RS}(h:WK s):WK (D8 s).2:=by
 have h1:=rU (.inr (.inl rfl):bE 58) (lo:=0) h
 unfold D8
 simp only
 split
 ·exact fun _=>rfl
 ·exact jc0 (Qv0 h1 _)
theorem Nf0{α:Type}{one:RS→α×RS}(ho:∀s,WK s→WK (one s).2):∀(k:Nat) (acc:List α) (s:RS),WK s→WK (tN one k acc s).2
 | 0,acc,s,h=>by rw[tN];exact h
 | k+1,acc,s,h=>by
  rw[tN]
  split
  ·exact h
  ·exact Nf0 ho k _ _ (ho s h)
theorem Jn0{α:Type}{one:RS→α×RS}(ho:∀s,WK s→WK (one s).2){s:RS}(h:WK s):WK (bN one s).2:=by
 unfold bN
 exact jc0 (Nf0 ho _ _ _ (rU (.inr (.inr rfl)) h))
theorem iG{s:RS}(h:WK s):WK (H5 s).2:=rU (.inl rfl) h
theorem Va0{s:RS}(h:WK s):WK (qE s).2:=rU (.inl rfl) h
theorem kq0{α:Type}{enc:α→Bs}{good:α→Prop}{one:RS→α×RS}(h:Ok1 enc good one)(hne:∀x,0<(enc x).length)(s:RS):(bN one s).1.length≤s.rest.length+1:=by
 unfold bN
 have h1:=(zB (.inr (.inr rfl):bE 91) 0 s).1
 have h2:=Yn0 h hne (nL 91 0 s).1.toNat [] (nL 91 0 s).2
 rw[List.length_nil] at h2
 simp only
 split
 ·rw[List.length_nil];omega
 ·omega
theorem ri0(e:UInt8)(s:RS):(TG e s).rest.length≤s.rest.length:=by
 rcases PQ e s with⟨r,e1,e2⟩ | ⟨_,e2⟩<;>rw[e2]
 ·rw[e1,List.length_cons];exact Nat.le_succ _
 ·exact Nat.zero_le _
theorem AU(s:RS):(D8 s).1.length≤s.rest.length∧(D8 s).2.rest.length≤s.rest.length:=by
 have h1:=(zB (.inr (.inl rfl):bE 58) 0 s).1
 unfold D8
 simp only
 split
 ·exact⟨Nat.zero_le _,Nat.zero_le _⟩
 ·have h2:=ri0 44 ⟨(nL 58 0 s).2.rest.drop (nL 58 0 s).1.toNat,(nL 58 0 s).2.bad⟩
  have h3:(⟨(nL 58 0 s).2.rest.drop (nL 58 0 s).1.toNat,(nL 58 0 s).2.bad⟩:RS).rest.length≤(nL 58 0 s).2.rest.length:=by
   show ((nL 58 0 s).2.rest.drop _).length≤_
   rw[List.length_drop];omega
  refine⟨?_,Nat.le_trans h2 (Nat.le_trans h3 h1)⟩
  show (if _ then([]:Bs) else _).length≤_
  split
  ·exact Nat.zero_le _
  ·rw[List.length_take];omega
theorem Ri0{α:Type}{one:RS→α×RS}(h:∀s,(one s).2.rest.length≤s.rest.length):∀(k:Nat) (acc:List α) (s:RS),(tN one k acc s).2.rest.length≤s.rest.length
 | 0,acc,s=>by rw[tN];exact Nat.le_refl _
 | k+1,acc,s=>by
  rw[tN]
  split
  ·exact Nat.le_refl _
  ·exact Nat.le_trans (Ri0 h k _ _) (h s)
theorem jq0{α:Type}{one:RS→α×RS}(h:∀s,(one s).2.rest.length≤s.rest.length)(s:RS):(bN one s).2.rest.length≤s.rest.length:=by
 unfold bN
 exact Nat.le_trans (ri0 _ _) (Nat.le_trans (Ri0 h _ _ _) (zB (.inr (.inr rfl)) 0 s).1)
theorem YD(s:RS):(H5 s).2.rest.length≤s.rest.length:=(zB (.inl rfl) _ s).1
theorem Od0(s:RS):(qE s).2.rest.length≤s.rest.length:=(zB (.inl rfl) _ s).1
end Go.Proofs.YtngbebnhegcokaaGreatDoor

namespace Go.Proofs.YtngbebnhegcokaaGreatDoor
open Go.RowKit
set_option maxRecDepth 100000
def d9(x:uB):Bs:=encI x.term++yB (bl x.data)
def EL(m:R9):List Int:=[m.kind,m.from_,m.to_,m.term,m.index,m.prev,m.commit,if m.yes then 1 else 0]
def EN(m:R9):Bs:=(EL m).flatMap encI++(encI m.recs.length++m.recs.flatMap d9)
structure MR (x:uB):Prop where
 term:inI x.term
 data:x.data.size≤100000
structure bM (m:R9):Prop where
 ints:∀n∈EL m,inI n
 few:m.recs.length≤8
 recs:∀x∈m.recs,MR x
theorem aP(s:ByteArray):(bl s).length=s.size:=by
 show s.data.toList.length=s.data.size
 exact Array.length_toList
theorem pO(s:ByteArray):ofL (bl s)=s:=by
 show (⟨s.data.toList.toArray⟩:ByteArray)=s
 rw[Array.toArray_toList]
theorem RU{x:uB}(h:MR x):(d9 x).length≤100043:=by
 have h1:=Q6 h.term
 have h2:=wE (bl x.data) (by rw[aP];have:=h.data;omega)
 have h3:=h.data
 rw[aP] at h2
 unfold d9
 rw[List.length_append]
 omega
theorem Lp0(x:uB):0<(d9 x).length:=by
 unfold d9 encI
 simp only[List.length_append,List.length_cons,List.length_nil]
 omega
theorem eH0{Kp:Value→Prop}{m:R9}{i:Nat}(hi:i<(EL m).length):M0 Tryz.prog (IY vd0 (.agg ((EL m).map (Value.int .i64)).toArray) (.int .i64 i)) Kp=Kp (.int .i64 (EL m)[i]):=by
 have:i<8:=hi
 obtain rfl | rfl | rfl | rfl | rfl | rfl | rfl | rfl:i=0∨i=1∨i=2∨i=3∨i=4∨i=5∨i=6∨i=7:=by omega
 all_goals exact F5 fun w=>by kernel_rfl
section
variable {B:Base} {w:World} {σ τ:List Dat} {p:Nat}
theorem yg0(hB:VI B){x:uB}(hx:MR x):Gives Tryz.prog B (Z0 zI #[.agg x.cs.toArray]) (.string (ofL (d9 x))):=by
 refine Gives.intro fun B' w K base h k=>?_
 replace hB:=base hB
 refine oL.up ?_
 unfold oL.pt
 refine h.box fun o w1 h=>?_
 have h:Rel B' w1 [O1 o X3 x.cs.toArray]:=h
 have h:=h.tick
 generalize tick w1=w1 at *
 have l1:=Q6 hx.term
 have l2:=RU hx
 have l3:=hx.data
 unfold d9 at k l2
 rw[List.length_append] at l2
 simp -zeta only[U0 NS,U0 bW,Nat.zero_add]
 rw[h.ld 0 rfl Y2 (o:=0) (v := .int .i64 x.term) rfl,h.ld 0 rfl U6 (o:=1) (v := .string x.data) rfl]
 refine h.ask (fun B2 own base2=>wC (base2 hB) hx.term) fun w2 h=>?_
 refine⟨h.is 0 rfl U6 (o:=1) rfl,?_⟩
 refine h.ask (v := .string (ofL (yB (bl x.data)))) (fun B2 own base2=>by
  have:=gT (base2 hB) (s:=bl x.data) (by rw[aP];omega)
  rw[pO] at this
  exact this) fun w3 h=>?_
 rw[C9 (by omega)]
 exact k _ _ h.nil
end
end Go.Proofs.YtngbebnhegcokaaGreatDoor

namespace Go.Proofs.YtngbebnhegcokaaGreatDoor
open Go.RowKit
set_option maxRecDepth 100000
theorem bd8{K:Value→Prop}{a b c d e f g i:Int}:M0 Tryz.prog (H6 vd0 #[(0,.int .i64 a),(1,.int .i64 b),(2,.int .i64 c),(3,.int .i64 d),(4,.int .i64 e),(5,.int .i64 f),(6,.int .i64 g),(7,.int .i64 i)]) K=K (.agg #[.int .i64 a,.int .i64 b,.int .i64 c,.int .i64 d,.int .i64 e,.int .i64 f,.int .i64 g,.int .i64 i]):=F5 fun w=>by kernel_rfl
theorem XW{α:Type}(f:α→Bs)(l:List α){i:Nat}(hi:i<l.length):(l.take (i+1)).flatMap f=(l.take i).flatMap f++f l[i]:=by
 rw[List.take_succ_eq_append_getElem hi,List.flatMap_append]
 simp
theorem cn0{m:R9}(h:bM m):(EN m).length≤1000000:=by
 unfold EN
 have h1:=xE encI (EL m) 21 fun n hn=>Q6 (h.ints n hn)
 have h2:=Q6 (n:=(m.recs.length:Int)) (by have:=h.few;unfold inI;omega)
 have h3:=xE d9 m.recs 100043 fun x hx=>RU (h.recs x hx)
 have h4:=h.few
 have h5:(EL m).length=8:=rfl
 rw[List.length_append,List.length_append]
 omega
section
variable {B:Base} {w:World} {σ τ:List Dat} {p:Nat}
set_option maxHeartbeats 1000000 in
theorem Rf0(hB:VI B){m:R9}{v:SV}(hm:bM m)(q:O4 v.1 m.recs B):Gives Tryz.prog B (Z0 zM #[(m.raw v).v]) (.string (ofL (EN m))):=by
 refine Gives.intro fun B' w K base h k=>?_
 replace hB:=base hB
 replace q:=base q
 refine KP.up ?_
 unfold KP.pt
 have hml:=cn0 hm
 have hmf:=hm.few
 refine h.box fun o w1 h=>?_
 have h:Rel B' w1 [O1 o Y1 (m.raw v).cs.toArray]:=h
 refine P6 fun J hJ=>?_
 replace hJ:∀w',Rel B' w' [O1 o Y1 (m.raw v).cs.toArray]→J (.int .i64 (if m.yes then 1 else 0),()) w':=by
  intro w' h
  refine hJ _ _ ?_
  clear hJ
  simp -zeta only[U0 WV,U0 lN,U0 XV,U0 uK,U0 bF,U0 nN,U0 MS,U0 VP,Nat.zero_add]
  rw[h.ld 0 rfl Y2 (o:=0) (v := .int .i64 m.kind) rfl,h.ld 0 rfl Y2 (o:=1) (v := .int .i64 m.from_) rfl,h.ld 0 rfl Y2 (o:=2) (v := .int .i64 m.to_) rfl,h.ld 0 rfl Y2 (o:=3) (v := .int .i64 m.term) rfl,h.ld 0 rfl Y2 (o:=4) (v := .int .i64 m.index) rfl,h.ld 0 rfl Y2 (o:=5) (v := .int .i64 m.prev) rfl,h.ld 0 rfl Y2 (o:=6) (v := .int .i64 m.commit) rfl,bd8]
  have hagg:(Value.agg #[.int .i64 m.kind,.int .i64 m.from_,.int .i64 m.to_,.int .i64 m.term,.int .i64 m.index,.int .i64 m.prev,.int .i64 m.commit,.int .i64 (if m.yes then 1 else 0)]) = .agg ((EL m).map (Value.int .i64)).toArray:=rfl
  rw[hagg]
  clear hagg
  have h8:(EL m).length=8:=rfl
  refine F6 (fun z w'=>∃i:Nat,i≤8∧z=(.string (ofL (((EL m).take i).flatMap encI)),.int .i64 i,())∧Rel B' w' [O1 o Y1 (m.raw v).cs.toArray])
   (fun z _=>8-(match z.2.1 with | .int _ n=>n.toNat | _=>0)) ⟨0,Nat.zero_le _,rfl,h⟩ ?_
  clear h
  rintro z w2 ⟨i,hi,rfl,h⟩ next hnext
  simp -zeta only[G6,K3]
  refine⟨fun hlt=>?_,fun hge=>?_⟩
  ·have hil:i<(EL m).length:=by omega
   rw[eH0 hil]
   refine h.ask (fun B2 own base2=>wC (base2 hB) (hm.ints _ (List.getElem_mem hil))) fun w3 h=>?_
   have h1:=Q6 (hm.ints _ (List.getElem_mem hil))
   have h2:=xE encI ((EL m).take i) 21 fun n hn=>Q6 (hm.ints n (List.mem_of_mem_take hn))
   have h3:((EL m).take i).length≤8:=by rw[List.length_take];omega
   rw[C9 (by omega),Z5,E5 (by omega) (by omega),←XW encI _ hil]
   exact hnext _ _ ⟨i+1,by omega,rfl,h⟩ (by simp only;omega)
  have:i=(EL m).length:=by omega
  subst this
  rw[List.take_length]
  have hml2:=hml
  unfold EN at hml2
  rw[List.length_append,List.length_append] at hml2
  have hin:inI (m.recs.length:Int):=by unfold inI;omega
  rw[h.ld 0 rfl X5 (o:=8) (v:=v.1) rfl,O4.len q u6]
  refine h.ask (fun B2 own base2=>fh0 (base2 hB) hin) fun w3 h=>?_
  rw[show gd0 (m.recs.length:Int)=encI m.recs.length by unfold gd0;rw[if_neg (by omega)],C9 (by omega)]
  rw[h.ld 0 rfl X5 (o:=8) (v:=v.1) rfl,O4.len q u6]
  refine F6 (fun z w'=>∃i:Nat,i≤m.recs.length∧z=(.string (ofL (((EL m).flatMap encI++encI m.recs.length)++(m.recs.take i).flatMap d9)),.int .i64 i,())∧Rel B' w' [O1 o Y1 (m.raw v).cs.toArray])
   (fun z _=>m.recs.length-(match z.2.1 with | .int _ n=>n.toNat | _=>0)) ⟨0,Nat.zero_le _,by rw[List.take_zero,List.flatMap_nil,List.append_nil];rfl,h⟩ ?_
  clear h
  rintro z w4 ⟨i,hi,rfl,h⟩ next hnext
  simp -zeta only[G6,K3]
  refine⟨fun hlt=>?_,fun hge=>?_⟩
  case refine_2 =>
   have:i=m.recs.length:=by omega
   subst this
   rw[List.take_length,List.append_assoc]
   exact k _ _ h.nil
  have hil:i<m.recs.length:=by omega
  obtain⟨g,og,hx,hc⟩:=O4.idx q u6 (P:=Tryz.prog) hil
  have hc:K6 g og m.recs[i].cs B':=hc
  rw[hx,K6.r9 (h.L6 hc) S9 rfl]
  have hfx:=hm.recs _ (List.getElem_mem hil)
  have h3:=QE d9 m.recs (i+1)
  rw[XW d9 _ hil] at h3
  rw[List.length_append] at h3
  have hsn:=XW d9 m.recs hil
  generalize m.recs[i]=x at *
  refine h.R8 (ds:=x.cs.toArray) CL rfl S9 rfl (fun v hv=>Enc.one x v hv) fun b w5 h=>?_
  rw[h.r9 1 rfl S9 rfl]
  refine h.ask (fun B2 own base2=>yg0 (base2 hB) hfx) fun w6 h=>?_
  rw[C9 (by rw[List.length_append,List.length_append];omega),Z5,E5 (by omega) (by omega)]
  refine hnext _ _ ⟨i+1,hil,?_,h.take 1⟩ (by simp only;omega)
  rw[hsn,List.append_assoc _ ((m.recs.take i).flatMap d9)]
  rfl
 simp -zeta only[U0 vK,Nat.zero_add]
 rw[h.ld 0 rfl AB (o:=7) (v := .bool m.yes) rfl,R5]
 refine⟨fun c=>?_,fun c=>?_⟩
 ·rw[c] at hJ;exact hJ _ h
 ·rw[c] at hJ;exact hJ _ h
end
end Go.Proofs.YtngbebnhegcokaaGreatDoor

namespace Go.Proofs.YtngbebnhegcokaaGreatDoor
open Go.RowKit
set_option maxRecDepth 100000
theorem lm0{X:Type}{B:X→World→(X→World→Prop)→Prop}{x:X}{w:World}(I:Nat→X→World→Prop)(n:Nat)(h0:I n x w)
  (hB:∀n x w,I n x w→∀next:X→World→Prop,(∀n' x' w',n'<n→I n' x' w'→next x' w')→B x w next):LOOP B x w:=by
 have key:∀k n x w,I n x w→n<k→iter B k x w:=by
  intro k
  induction k with
  | zero=>intro n x w _ h;omega
  | succ k ih=>intro n x w hI hk;exact hB n x w hI _ fun n' x' w' hlt hI'=>ih n' x' w' hI' (by omega)
 exact⟨n+1,key _ n x w h0 (by omega)⟩
section
variable {B:Base} {w:World} {σ τ:List Dat} {p:Nat}
theorem Rel.IZ(hB:qC B){n:Int}{r:Bs}{K:Value→World→Prop}(h:Rel B w σ)(i:Nat)(hi:σ[i]? = some (rdD p ⟨encI n++r,false⟩))(hn:inI n)(hl:(encI n++r).length≤140737488355328)(k:∀w',Rel B w' (σ.set i (rdD p ⟨r,false⟩))→K (.int .i64 n) w') :
  upK Tryz.prog (Z0 Q4 #[uS p]) w K:=by
 refine h.rd_ i hi (fun B2 own base2=>mD (base2 hB) hl) fun w' h=>?_
 rw[yE hn] at h ⊢
 exact k _ h
theorem Rel.QF0(hB:qC B){t r:Bs}{K:Value→World→Prop}(h:Rel B w σ)(i:Nat)(hi:σ[i]? = some (rdD p ⟨yB t++r,false⟩))(hl:(yB t++r).length≤140737488355328)(ht:t.length≤9223372036854775807)(k:∀w',Rel B w' (σ.set i (rdD p ⟨r,false⟩))→K (.string (ofL t)) w') :
  upK Tryz.prog (Z0 y8 #[uS p]) w K:=by
 refine h.rd_ i hi (fun B2 own base2=>iR (base2 hB) hl) fun w' h=>?_
 rw[BR ht] at h ⊢
 exact k _ h
set_option maxHeartbeats 2000000 in
theorem RF0(hB:qC B)(hP:VI B){m:R9}(hm:bM m):Makes Tryz.prog B (Z0 JR #[.string (ofL (EN m))]) fun u τ=>∃v:SV,u = .tuple #[(m.raw v).v,.bool true]∧τ=[Y3 X3 v.1 m.recs]:=by
 refine Makes.intro fun B' w K base h k=>?_
 replace hB:=base hB
 replace hP:=base hP
 refine jR.up ?_
 unfold jR.pt
 have hml:=cn0 hm
 have hmf:=hm.few
 have hin:inI (m.recs.length:Int):=by unfold inI;omega
 have e8:EN m=encI m.kind++(encI m.from_++(encI m.to_++(encI m.term++(encI m.index++(encI m.prev++(encI m.commit++(encI (if m.yes then 1 else 0)++(encI m.recs.length++m.recs.flatMap d9)))))))):=by
  unfold EN EL
  simp only[List.flatMap_cons,List.flatMap_nil,List.append_assoc,List.nil_append]
 have hi:=hm.ints
 unfold EL at hi
 simp only[List.mem_cons,List.not_mem_nil,or_false,forall_eq_or_imp,forall_eq] at hi
 obtain⟨i0,i1,i2,i3,i4,i5,i6,i7⟩:=hi
 refine h.alloc vJ fun t w1 h=>?_
 refine h.make (fun B2 own base2=>WT) fun u τ w2 hp h=>?_
 obtain⟨p,rfl,rfl⟩:=hp
 have h:Rel B' w2 [O1 t Y1 ((⟨0,0,0,0,0,0,0,false,[]⟩:R9).raw nC).cs.toArray,rdD p ⟨EN m,false⟩]:=h
 have hll:=hml
 rw[e8] at h hll
 simp only[List.length_append] at hll
 refine h.IZ hB 1 rfl i0 (by simp only[List.length_append];omega) fun w3 h=>?_
 refine h.IZ hB 1 rfl i1 (by simp only[List.length_append];omega) fun w3 h=>?_
 refine h.IZ hB 1 rfl i2 (by simp only[List.length_append];omega) fun w3 h=>?_
 refine h.IZ hB 1 rfl i3 (by simp only[List.length_append];omega) fun w3 h=>?_
 refine h.IZ hB 1 rfl i4 (by simp only[List.length_append];omega) fun w3 h=>?_
 refine h.IZ hB 1 rfl i5 (by simp only[List.length_append];omega) fun w3 h=>?_
 refine h.IZ hB 1 rfl i6 (by simp only[List.length_append];omega) fun w3 h=>?_
 refine h.IZ hB 1 rfl i7 (by simp only[List.length_append];omega) fun w3 h=>?_
 have ey:decide ((if m.yes then 1 else 0:Int)=1)=m.yes:=by cases m.yes<;>rfl
 rw[F7,ey,QR]
 refine h.R8 (ds:=(({ m with recs:=[] }:R9).raw nC).cs.toArray) vJ rfl Z8 rfl (fun v hv=>Enc.one (({ m with recs:=[] }:R9).raw nC) v hv) fun a w4 h=>?_
 have h:Rel B' w4 [O1 t Y1 ((⟨0,0,0,0,0,0,0,false,[]⟩:R9).raw nC).cs.toArray,rdD p ⟨encI m.recs.length++m.recs.flatMap d9,false⟩,O1 a Y1 (m.raw nC).cs.toArray]:=h
 refine P6 fun J hJ=>?_
 replace hJ:∀(v:SV) w',Rel B' w' [O1 t Y1 ((⟨0,0,0,0,0,0,0,false,[]⟩:R9).raw nC).cs.toArray,rdD p ⟨[],false⟩,O1 a Y1 (m.raw v).cs.toArray,Y3 X3 v.1 m.recs]→J () w':=by
  intro v w' h
  refine hJ _ _ ?_
  clear hJ
  refine h.ask (fun B2 own base2=>dR (s:=⟨[],false⟩) (own (i:=1) rfl)) fun w6 h=>?_
  rw[show aO ⟨[],false⟩=true from rfl,V7,G5,R5]
  refine⟨fun _=>?_,fun c=>by cases c⟩
  rw[h.r9 2 rfl Z8 rfl]
  refine h.ask (fun B2 own base2=>Rf0 (base2 hP) hm (Y3.read (own (i:=3) rfl))) fun w7 h=>?_
  rw[DZ,G5,K3]
  refine⟨fun _=>?_,fun c=>absurd rfl c⟩
  rw[h.r9 2 rfl Z8 rfl]
  refine h.YG 0 rfl Z8 rfl rfl (fun x hx=>Enc.one (m.raw v) x hx) fun w8 h=>?_
  rw[qJ h 0 rfl Z8 rfl]
  exact k _ _ _ ⟨v,rfl,rfl⟩ (h.pick [3] (by decide))
 have hfl:(m.recs.flatMap d9).length≤1000000:=by omega
 refine h.rd_ 1 rfl (fun B2 own base2=>CY (base2 hB) (by simp only[List.length_append];omega)) fun w5 h=>?_
 rw[pW (by omega) hin] at h ⊢
 have h:=h.VC uB X3
 clear e8 hll i0 i1 i2 i3 i4 i5 i6 i7 ey
 refine lm0 (fun j _ w'=>∃(i:Nat) (v:SV),i≤m.recs.length∧j=m.recs.length-i∧Rel B' w' [O1 t Y1 ((⟨0,0,0,0,0,0,0,false,[]⟩:R9).raw nC).cs.toArray,rdD p ⟨(m.recs.drop i).flatMap d9,false⟩,O1 a Y1 (m.raw v).cs.toArray,Y3 X3 v.1 (m.recs.take i)])
  _ ⟨0,nC,Nat.zero_le _,rfl,h⟩ ?_
 clear h
 rintro j z w6 ⟨i,v,hi,rfl,h⟩ next hnext
 have htl:(m.recs.take i).length=i:=by rw[List.length_take];omega
 simp -zeta only[U0 VP,Nat.zero_add]
 rw[h.ld 2 rfl X5 (o:=8) (v:=v.1) rfl,O4.len (Y3.read (h.here (i:=3) rfl)) u6,htl,G6,K3]
 refine⟨fun hlt=>?_,fun hge=>?_⟩
 case refine_2 =>
  have:i=m.recs.length:=by omega
  subst this
  rw[List.drop_length,List.take_length] at h
  exact hJ v _ h
 have hil:i<m.recs.length:=by omega
 have hfx:=hm.recs _ (List.getElem_mem hil)
 have hdc:=List.drop_eq_getElem_cons hil
 have htk:=List.take_succ_eq_append_getElem hil
 generalize m.recs[i]=x at *
 rw[hdc,List.flatMap_cons] at h
 have hdl:(d9 x++(m.recs.drop (i+1)).flatMap d9).length≤1000000:=by
  have:(d9 x++(m.recs.drop (i+1)).flatMap d9).length+((m.recs.take i).flatMap d9).length=(m.recs.flatMap d9).length:=by
   conv=>rhs;rw[←List.take_append_drop i m.recs,hdc]
   rw[List.flatMap_append,List.flatMap_cons]
   simp only[List.length_append]
   omega
  omega
 have hpos:=Lp0 x
 refine h.ask (fun B2 own base2=>eX (own (i:=1) rfl)) fun w7 h=>?_
 rw[x9,K3]
 refine⟨fun _=>?_,fun c=>absurd (show (0:Int)<((d9 x++(m.recs.drop (i+1)).flatMap d9).length:Nat) by rw[List.length_append];omega) c⟩
 have h:=h.tick
 generalize tick w7=w7 at *
 rw[h.ld 2 rfl X5 (o:=8) (v:=v.1) rfl]
 unfold d9 at h hdl
 rw[List.append_assoc] at h hdl
 refine h.IZ hB 1 rfl hfx.term (by omega) fun w8 h=>?_
 refine⟨h.is 2 rfl X5 (o:=8) rfl,?_⟩
 refine h.QF0 hB 1 rfl (by rw[List.length_append] at hdl;omega) (by rw[aP];have:=hfx.data;omega) fun w9 h=>?_
 refine⟨h.is 2 rfl X5 (o:=8) rfl,?_⟩
 rw[pO,UR]
 refine h.XH (α:=uB) x u6 (by decide) fun v2 w10 h=>?_
 refine⟨h.is 2 rfl X5 (o:=8) rfl,?_⟩
 refine h.append (α:=uB) 3 rfl u6 (Rd.at 4 rfl) (by rw[htl];show (i+1) * _≤_;omega) (by rw[htl];show i+1≤_;omega) fun v3 w11 h=>?_
 have hv3:v3.oneCell'=true:=h.oneCell (i:=3) rfl
 refine h.st 2 rfl X5 (o:=8) (show 8<9 by omega) hv3 fun w12 h=>?_
 refine hnext _ _ _ (show m.recs.length-(i+1)<m.recs.length-i by omega) ⟨i+1,⟨v3,hv3⟩,hil,rfl,?_⟩
 rw[htk]
 exact h.take 4
end
end Go.Proofs.YtngbebnhegcokaaGreatDoor

namespace Go.Proofs.YtngbebnhegcokaaGreatDoor
open Go.RowKit
set_option maxRecDepth 100000
end Go.Proofs.YtngbebnhegcokaaGreatDoor

namespace Go.Proofs.YtngbebnhegcokaaGreatDoor
open Go.RowKit
set_option maxRecDepth 100000
section
variable {P:Program} {B:Base} {w:World} {s:Sem Next} {K:Value→World→Prop} {d1 d2:Dat} {post:Value→Dat→Dat→Prop}
def Both(P:Program)(B:Base)(d1 d2:Dat)(s:Sem Next)(post:Value→Dat→Dat→Prop):Prop:=Does P B (yU [d1,d2]) s fun v e' τ=>∃d1' d2',post v d1' d2'∧e'=yU [d1',d2']∧τ=[]
theorem Both.intro(h:∀(B':Base) (w:World) (K:Value→World→Prop),(∀{d:Dat},d B→d B')→Rel B' w [d1,d2]→(∀v d1' d2' w',post v d1' d2'→Rel B' w' [d1',d2']→K v w')→upK P s w K):Both P B d1 d2 s post:=by
 refine Does.intro fun B' w K base h0 k=>?_
 have h0:=Rel.kX (σ:=[]) (L:=[d1,d2]) h0
 refine h B' w K base h0 fun v d1' d2' w' hp h2=>?_
 have h2:=Rel.kR (σ:=[]) (L:=[d1',d2']) h2
 exact k v _ [] w' ⟨d1',d2',hp,rfl,rfl⟩ h2
theorem Rel.zh0{τ:List Dat}(h:Rel B w (τ++[d1,d2]))(G:∀B':Base,(∀{j:Nat} {d:Dat},τ[j]? = some d→d B')→(∀{d:Dat},d B→d B')→Both P B' d1 d2 s post)
  (k:∀v d1' d2' w',post v d1' d2'→Rel B w' (τ++[d1',d2'])→K v w'):upK P s w K:=by
 have h:=Rel.kR (L:=[d1,d2]) h
 refine h.act τ.length kI (fun B' own base=>G B' (fun {j d} hj=>?_) base) fun v e' τ' w' hp h=>?_
 ·have hlt:j<τ.length:=by
   rcases Nat.lt_or_ge j τ.length with hl | hl
   ·exact hl
   ·rw[List.getElem?_eq_none hl] at hj;cases hj
  exact own (j:=j) (by omega) (by rw[List.getElem?_append_left hlt];exact hj)
 ·obtain⟨d1',d2',hp,rfl,rfl⟩:=hp
  rw[List.set_append_right _ _ (Nat.le_refl _),Nat.sub_self,List.set_cons_zero,List.append_nil] at h
  exact k v d1' d2' w' hp (Rel.kX h)
end
section
variable {B:Base} {w:World} {p:Nat} {s:DS} {kv:Value}
theorem ry0{k:Int}(hk:k=1∨k=2){t:ByteArray}(hs:t.size≤1000000):Gives Tryz.prog B (Z0 nP #[.int .i64 k,.string t]) (.string (ofL (mW k.toNat t.size))):=by
 rcases hk with rfl | rfl
 ·exact Fn0 (k:=1) hs
 ·exact Fn0 (k:=2) hs
set_option maxRecDepth 10000 in
theorem uE0(hT:VT B)(r:O4 kv s.keep B)(hkl:s.keep.length≤1000000){c:Nat}{f:Int}{st:CS}{v:ByteArray} :
  Both Tryz.prog B (Z6 p s kv) (O1 c U4 (ccs p f st)) (Z0 wM #[ptr c,.string v]) fun u d1 d2=>u = .int .i64 (CX s st f v).2∧d1=Z6 p (CX s st f v).1.1 kv∧d2=O1 c U4 (ccs p f (CX s st f v).1.2):=by
 refine Both.intro fun B' w K base h k=>?_
 replace hT:=base hT
 replace r:=base r
 refine sP.up ?_
 unfold sP.pt
 have hb:=B_ v
 have fin:∀(x:(DS×CS)×Int) w',CX s st f v=x→Rel B' w' [Z6 p x.1.1 kv,O1 c U4 (ccs p f x.1.2)]→K (.int .i64 x.2) w':=fun x w' e h=>k _ _ _ w' ⟨by rw[e],by rw[e],by rw[e]⟩ h
 clear k
 simp -zeta only[aK K8,x9,K3]
 refine⟨fun e0=>fin ((s,st),6) _ (by unfold CX;rw[if_pos (by omega)]) h,fun e0=>?_⟩
 have hv:v.size≤65536:=by omega
 refine P6 fun J hJ=>?_
 replace hJ:(OO s st f).2=0→∀w',Rel B' w' [Z6 p (OO s st f).1 kv,O1 c U4 (ccs p f (qI st))]→J () w':=by
  intro z w1 h
  refine hJ _ _ ?_
  clear hJ
  have fin:∀(x:(DS×CS)×Int) w',set1 (OO s st f).1 (qI st) f v=x→Rel B' w' [Z6 p x.1.1 kv,O1 c U4 (ccs p f x.1.2)]→K (.int .i64 x.2) w':=fun x w' e h=>fin x w' (by unfold CX;rw[if_neg (by omega),if_neg (by rw[z];decide)];exact e) h
  rw[←yY s st f] at r hkl
  generalize (OO s st f).1=s1 at r hkl h fin
  generalize qI st=qI at h fin
  refine P6 fun J2 hJ2=>?_
  replace hJ2:J2 (.int .i64 (UF qI),()) w1:=by
   refine hJ2 _ _ ?_
   clear hJ2
   have h:=h.tick
   simp -zeta only[J5,U0 OX,U0 PX,U0 nM,U0 NT,U0 QX,Nat.add_zero,Nat.zero_add,h.ld 1 rfl H_ (o:=0) rfl,h.ld 1 rfl Y2 (o:=1) rfl]
   rw[qz0 hT h (qW qI)]
   refine h.act 0 rfl (fun B2 own base2=>Vj0 (base2 r) hkl f (ZQ (UF qI)) (by omega)) fun u e' τ w2 hp h=>?_
   obtain⟨rfl,rfl,rfl⟩:=hp
   have h:Rel B' w2 [Z6 p (fB s1 f (ZQ (UF qI)) v).1 kv,O1 c U4 (ccs p f qI)]:=h
   simp -zeta only[Q7,G5,K3]
   refine⟨fun z=>?_,fun z=>fin _ _ (by unfold set1;rw[if_pos z]) h⟩
   have fin:∀(x:(DS×CS)×Int) w',set2 (fB s1 f (ZQ (UF qI)) v).1 qI f v=x→Rel B' w' [Z6 p x.1.1 kv,O1 c U4 (ccs p f x.1.2)]→K (.int .i64 x.2) w':=fun x w' e h=>fin x w' (by unfold set1;rw[if_neg (fun hh=>hh z)];exact e) h
   rw[←GG s1 f (ZQ (UF qI)) v] at r hkl
   clear z
   generalize (fB s1 f (ZQ (UF qI)) v).1=s2 at r hkl h fin
   have h:=h.tick
   simp -zeta only[h.ld 1 rfl H_ (o:=0) rfl,h.ld 1 rfl Y2 (o:=1) rfl]
   refine h.act 0 rfl (fun B2 own base2=>ba0 (base2 r) hkl f) fun u e' τ w3 hp h=>?_
   obtain⟨rfl,rfl,rfl⟩:=hp
   have h:Rel B' w3 [Z6 p (L9 s2 f).1 kv,O1 c U4 (ccs p f qI)]:=h
   simp -zeta only[Q7,G5,K3]
   refine⟨fun z=>?_,fun z=>fin _ _ (by unfold set2;rw[if_pos z]) h⟩
   have fin:∀(x:(DS×CS)×Int) w',cr0 (L9 s2 f).1 qI f v=x→Rel B' w' [Z6 p x.1.1 kv,O1 c U4 (ccs p f x.1.2)]→K (.int .i64 x.2) w':=fun x w' e h=>fin x w' (by unfold set2;rw[if_neg (fun hh=>hh z)];exact e) h
   rw[←cB s2 f] at r hkl
   clear z
   generalize (L9 s2 f).1=s3 at r hkl h fin
   have h:=h.tick
   simp -zeta only[h.ld 1 rfl H_ (o:=0) rfl,h.ld 1 rfl Y2 (o:=1) rfl]
   refine h.ask (fun B2 own base2=>ry0 (qW qI) (by omega)) fun w4 h=>?_
   rw[show ofL (mW (UF qI).toNat v.size)=mJ qI v from rfl]
   refine⟨h.is 1 rfl Y2 (o:=1) rfl,h.is 1 rfl H_ (o:=0) rfl,?_⟩
   refine h.act 0 rfl (fun B2 own base2=>Vj0 (base2 r) hkl f 0 (t:=mJ qI v) (by have:(mJ qI v).size=5:=rfl;omega)) fun u e' τ w5 hp h=>?_
   obtain⟨rfl,rfl,rfl⟩:=hp
   have h:Rel B' w5 [Z6 p (fB s3 f 0 (mJ qI v)).1 kv,O1 c U4 (ccs p f qI)]:=h
   simp -zeta only[Q7,G5,K3]
   refine⟨fun z=>?_,fun z=>fin _ _ (by unfold cr0;rw[if_pos z]) h⟩
   have fin:∀w',Rel B' w' [Z6 p (L9 (fB s3 f 0 (mJ qI v)).1 f).1 kv,O1 c U4 (ccs p f ⟨UF qI,v,decide ((L9 (fB s3 f 0 (mJ qI v)).1 f).2=0)⟩)]→K (.int .i64 (L9 (fB s3 f 0 (mJ qI v)).1 f).2) w':=fun w' h=>fin (((L9 (fB s3 f 0 (mJ qI v)).1 f).1,⟨UF qI,v,decide ((L9 (fB s3 f 0 (mJ qI v)).1 f).2=0)⟩),(L9 (fB s3 f 0 (mJ qI v)).1 f).2) w' (by unfold cr0;rw[if_neg (fun hh=>hh z)]) h
   rw[←GG s3 f 0 (mJ qI v)] at r hkl
   clear z
   generalize (fB s3 f 0 (mJ qI v)).1=s4 at r hkl h fin
   refine h.st 1 rfl Y2 (show 2<5 by omega) rfl fun w6 h=>?_
   refine h.st 1 rfl U6 (show 3<5 by omega) rfl fun w7 h=>?_
   refine h.st 1 rfl AB (show 4<5 by omega) rfl fun w8 h=>?_
   have h:Rel B' w8 [Z6 p s4 kv,O1 c U4 (ccs p f ⟨UF qI,v,false⟩)]:=h
   have h:=h.tick
   simp -zeta only[h.ld 1 rfl H_ (o:=0) rfl,h.ld 1 rfl Y2 (o:=1) rfl]
   refine h.act 0 rfl (fun B2 own base2=>ba0 (base2 r) hkl f) fun u e' τ w9 hp h=>?_
   obtain⟨rfl,rfl,rfl⟩:=hp
   rw[F7]
   refine h.st 1 rfl AB (show 4<5 by omega) rfl fun w10 h=>?_
   exact fin _ h
  simp -zeta only[J5,U0 nM,Nat.zero_add,h.ld 1 rfl Y2 (o:=2) rfl,F7,K3]
  unfold UF at hJ2
  exact⟨fun e=>by rw[if_pos e] at hJ2;exact hJ2,fun e=>by rw[if_neg e] at hJ2;exact hJ2⟩
 simp -zeta only[J5,U0 OX,U0 PX,U0 nM,U0 QX,Nat.add_zero,Nat.zero_add,h.ld 1 rfl AB (o:=4) rfl,h.ld 1 rfl Y2 (o:=2) rfl]
 rw[V7,G5,R5]
 have idl:qI st={ st with sure:=st.sure||decide (0<st.slot) }:=rfl
 refine⟨fun e=>?_,fun e=>?_⟩
 ·have e1:OO s st f=(s,0):=by unfold OO;rw[if_neg (by rw[e];simp)]
  have e2:qI st=st:=by rw[idl,e];obtain⟨a,b,d⟩:=st;subst e;rfl
  refine hJ (by rw[e1]) _ ?_
  rw[e1,e2]
  exact h
 ·simp -zeta only[x9,K3]
  refine⟨fun e3=>?_,fun e3=>?_⟩
  ·have e1:OO s st f=L9 s f:=by unfold OO;rw[if_pos ⟨e,e3⟩]
   have e2:qI st={ st with sure:=true }:=by rw[idl,decide_eq_true e3,Bool.or_true]
   rw[e1,e2] at hJ
   have h:=h.tick
   simp -zeta only[h.ld 1 rfl H_ (o:=0) rfl,h.ld 1 rfl Y2 (o:=1) rfl]
   refine h.act 0 rfl (fun B2 own base2=>ba0 (base2 r) hkl f) fun u e' τ w2 hp h=>?_
   obtain⟨rfl,rfl,rfl⟩:=hp
   simp -zeta only[Q7,G5,K3]
   refine⟨fun z=>?_,fun z=>fin (((L9 s f).1,st),(L9 s f).2) _ (by unfold CX;rw[if_neg (by omega),e1,if_pos z]) h⟩
   refine h.st 1 rfl AB (show 4<5 by omega) rfl fun w3 h=>?_
   exact hJ z _ h
  ·have e1:OO s st f=(s,0):=by unfold OO;rw[if_neg (fun hh=>e3 hh.2)]
   have e2:qI st=st:=by rw[idl,e,decide_eq_false e3];obtain⟨a,b,d⟩:=st;simp only at e;subst e;rfl
   refine hJ (by rw[e1]) _ ?_
   rw[e1,e2]
   exact h
end
end Go.Proofs.YtngbebnhegcokaaGreatDoor

namespace Go.Proofs.YtngbebnhegcokaaGreatDoor
open Go.RowKit
set_option maxRecDepth 100000
abbrev H8(l:List Bs):Bs:=l.flatMap yB
noncomputable def qb0(n:Int):Nat→List Bs→RS→List Bs×RS
 | 0,acc,s=>(acc,s)
 | k+1,acc,s=>if(acc.length:Int)<n then(if s.rest.length≤(D8 s).2.rest.length∨s.rest.length=0 then(acc,(D8 s).2) else qb0 n k (acc++[(D8 s).1]) (D8 s).2) else(acc,s)
noncomputable def Kc0(s:Bs)(n:Int):List Bs×RS:=qb0 n (s.length+1) [] ⟨s,false⟩
noncomputable def vU(s:Bs)(n:Int):List Bs×Bool:=((Kc0 s n).1,aO (Kc0 s n).2&&(decide (((Kc0 s n).1.length:Int)=n)&&decide (H8 (Kc0 s n).1=s)))
noncomputable def MG0(s:RS):(Int×Int)×Bool:=(((qE s).1,(qE (qE s).2).1),aO (qE (qE s).2).2)
noncomputable def VF(st:CS):(Int×Int)×Bool:=if 0<st.slot then MG0 ⟨bl st.value,false⟩ else((0,0),true)
section
variable {B:Base} {w:World} {σ τ:List Dat} {p:Nat}
theorem Zp0(hB:VI B){v:Value}{l:List ByteArray}(r:O4 v l B)(hb:(H8 (l.map bl)).length≤70368744177664):Gives Tryz.prog B (Z0 oK #[v]) (.string (ofL (H8 (l.map bl)))):=by
 refine Gives.wf0 fun B' w K base h start k=>?_
 replace r:=base r
 replace hB:=base hB
 refine UQ.up ?_
 unfold UQ.pt
 have hb2:((l.map bl).flatMap yB).length≤70368744177664:=hb
 have hgood:∀x∈l,(yB (bl x)).length≤70368744177664:=fun x hx=>by
  have:(yB (bl x)).length≤(H8 (l.map bl)).length:=by
   obtain⟨a,b,rfl⟩:=List.append_of_mem hx
   unfold H8
   rw[List.map_append,List.map_cons,List.flatMap_append,List.flatMap_cons,List.length_append,List.length_append]
   omega
  omega
 have hll:l.length≤70368744177664:=by
  have h1:l.length≤((l.map bl).flatMap yB).length:=by
   clear hb hb2 hgood k r start h
   induction l with
   | nil=>simp
   | cons x l ih =>
    rw[List.map_cons,List.flatMap_cons,List.length_append,List.length_cons]
    have:1≤(yB (bl x)).length:=by simp [yB]<;>omega
    omega
  exact Nat.le_trans h1 hb
 refine h.alloc PG fun b w1 h=>?_
 have h:=start w1 b h
 rw[O4.len r K7]
 have hmap:(l.map bl).length=l.length:=List.length_map ..
 refine F6 (fun x w'=>∃i:Nat,i≤l.length∧x=(.int .i64 i,())∧Rel B' w' [bP B'.W.heap.size b (((l.map bl).take i).flatMap yB)]) (fun x _=>l.length-(match x.1 with | .int _ n=>n.toNat | _=>0))
  ⟨0,Nat.zero_le _,rfl,by simpa using h⟩ ?_
 clear h
 rintro x w4 ⟨i,hi,rfl,h⟩ next hnext
 simp -zeta only[G6,K3]
 refine⟨fun hlt=>?_,fun hge=>?_⟩
 ·have hil:i<l.length:=by omega
  obtain⟨q,q1,q2⟩:=O4.cZ r h K7 hil U6 (x := .string l[i]) rfl
  rw[q1,q2]
  have hg:=hgood l[i] (List.getElem_mem hil)
  refine h.ask (fun B2 own base2=>by have:=gT (base2 hB) (s:=bl l[i]) (by unfold yB at hg;simp only[List.length_append,List.length_cons] at hg;omega);rw[fV] at this;exact this) fun w5 h=>?_
  have hstep:=jI yB (l:=l.map bl) (i:=i) (by omega)
  rw[List.getElem_map] at hstep
  have hle:=QE yB (l.map bl) (i+1)
  rw[hstep,List.length_append] at hle
  refine h.VN (Nat.le_refl _) (by rw[Q_];omega) fun _ w6 h=>?_
  rw[Z5,E5 (by omega) (by omega)]
  refine hnext _ _ ⟨i+1,hil,rfl,?_⟩ (by simp only;omega)
  rw[hstep]
  exact h
 ·refine h.gU (Nat.le_refl _) fun w7 h=>?_
  have hie:i=l.length:=by omega
  subst hie
  have e:(l.map bl).take l.length=l.map bl:=List.take_of_length_le (by omega)
  rw[e] at *
  exact k _ _ h
theorem uv0(hB:qC B){c dp:Nat}{f:Int}{st:CS}(hv:st.value.size≤100000)(hc:O1 c U4 (ccs dp f st) B):Gives Tryz.prog B (Z0 JN #[ptr c]) (.tuple #[.int .i64 (VF st).1.1,.int .i64 (VF st).1.2,.bool (VF st).2]):=by
 refine Gives.intro fun B' w K base h k=>?_
 replace hB:=base hB
 replace hc:=base hc
 refine KM.up ?_
 unfold KM.pt
 refine h.ask (fun B2 own base2=>QD0 (base2 hc)) fun w1 h=>?_
 rw[M9,D9,V7,G5,K3]
 unfold VF at k
 refine⟨fun c1=>?_,fun c1=>?_⟩
 case refine_2=>rw[if_neg c1] at k;exact k _ _ h
 rw[if_pos c1] at k
 have e:Z0 S_ #[.string st.value]=Z0 S_ #[.string (ofL (bl st.value))]:=by rw[pO]
 rw[e]
 refine h.make (fun B2 own base2=>WT (t:=bl st.value)) fun u τ w2 hp h=>?_
 obtain⟨p,rfl,rfl⟩:=hp
 have hl:(bl st.value).length≤100000:=by rw[aP];exact hv
 have h1:=Od0 ⟨bl st.value,false⟩
 have h1:(qE ⟨bl st.value,false⟩).2.rest.length≤(bl st.value).length:=h1
 refine h.rd_ 0 rfl (fun B2 own base2=>CY (base2 hB) (show (bl st.value).length≤_ by omega)) fun w3 h=>?_
 refine h.rd_ 0 rfl (fun B2 own base2=>CY (base2 hB) (by omega)) fun w4 h=>?_
 refine h.ask (fun B2 own base2=>dR (own (i:=0) rfl)) fun w5 h=>?_
 exact k _ _ h.nil
theorem KC0(hB:qC B)(hP:VI B){s:ByteArray}(hs:s.size≤16777216)(n:Int):Makes Tryz.prog B (Z0 ER #[.string s,.int .i64 n]) fun u τ=>∃v,u = .tuple #[v,.bool (vU (bl s) n).2]∧τ=[Y3 M3 v ((vU (bl s) n).1.map ofL)]:=by
 refine Makes.intro fun B' w K base h k=>?_
 replace hB:=base hB
 replace hP:=base hP
 refine VQ.up ?_
 unfold VQ.pt
 have e:Z0 S_ #[.string s]=Z0 S_ #[.string (ofL (bl s))]:=by rw[pO]
 rw[e]
 have hl:(bl s).length≤16777216:=by rw[aP];exact hs
 refine h.make (fun B2 own base2=>WT (t:=bl s)) fun u τ w2 hp h=>?_
 obtain⟨p,rfl,rfl⟩:=hp
 unfold vU at k
 refine P6 fun J hJ=>?_
 replace hJ:∀v acc s' w',Kc0 (bl s) n=(acc,s')→(s'.bad=false→bl s=H8 acc++s'.rest)→Rel B' w' [rdD p s',Y3 M3 v (acc.map ofL)]→J (v,()) w':=by
  intro v acc s' w' he hf h
  refine hJ _ _ ?_
  clear hJ
  rw[he] at k
  simp only at k
  refine h.ask (fun B2 own base2=>dR (own (i:=0) rfl)) fun w3 h=>?_
  rw[R5]
  refine⟨fun c1=>?_,fun c1=>?_⟩
  case refine_2=>rw[c1,Bool.false_and] at k;exact k _ _ _ ⟨v,rfl,rfl⟩ (h.pick [1] (by decide))
  rw[c1,Bool.true_and] at k
  have hbad:s'.bad=false:=by
   unfold aO at c1
   rw[Bool.and_eq_true] at c1
   simpa using c1.1
  have hf:=hf hbad
  rw[O4.len (Y3.read (h.here (i:=1) rfl)) K7,List.length_map,F7,K3]
  refine⟨fun c2=>?_,fun c2=>?_⟩
  case refine_2=>rw[decide_eq_false c2,Bool.false_and] at k;exact k _ _ _ ⟨v,rfl,rfl⟩ (h.pick [1] (by decide))
  rw[decide_eq_true c2,Bool.true_and] at k
  have em:(acc.map ofL).map bl=acc:=by
   rw[List.map_map]
   conv=>rhs;rw[←List.map_id acc]
   exact List.map_congr_left fun x _=>GI x
  have hfl:(H8 acc).length≤16777216:=by
   have:=congrArg List.length hf
   rw[List.length_append] at this
   omega
  refine h.ask (v := .string (ofL (H8 acc))) (fun B2 own base2=>by
   have:=Zp0 (base2 hP) (Y3.read (own (i:=1) rfl)) (by rw[em];omega)
   rw[em] at this
   exact this) fun w4 h=>?_
  rw[VW]
  have ed:decide (ofL (H8 acc)=s)=decide (H8 acc=bl s):=decide_eq_decide.2 ⟨fun hh=>by rw[←hh,GI],fun hh=>by rw[hh,pO]⟩
  rw[ed]
  exact k _ _ _ ⟨v,rfl,rfl⟩ (h.pick [1] (by decide))
 clear k
 have h:=h.VC ByteArray M3
 refine lm0 (fun j x w'=>∃(acc:List Bs) (v:Value) (s':RS),x=(v,())∧Kc0 (bl s) n=qb0 n j acc s'∧s'.rest.length<j∧s'.rest.length≤(bl s).length∧acc.length+s'.rest.length≤(bl s).length∧(s'.bad=false→bl s=H8 acc++s'.rest) ∧
   Rel B' w' [rdD p s',Y3 M3 v (acc.map ofL)]) ((bl s).length+1) ⟨[],.slice none 0 0,⟨bl s,false⟩,rfl,rfl,Nat.lt_succ_self _,Nat.le_refl _,by simp,fun _=>rfl,h⟩ ?_
 clear h
 rintro j x w3 ⟨acc,v,s',rfl,hq,hj,hsl,hal,hf,h⟩ next hnext
 obtain⟨j,rfl⟩:∃i,j=i+1:=⟨j-1,by omega⟩
 rw[qb0] at hq
 rw[O4.len (Y3.read (h.here (i:=1) rfl)) K7,List.length_map,G6,K3]
 refine⟨fun c1=>?_,fun c1=>?_⟩
 case refine_2=>rw[if_neg c1] at hq;exact hJ v acc s' _ hq hf h
 rw[if_pos c1] at hq
 have hf2:(D8 s').2.bad=false→s'.bad=false∧s'.rest=yB (D8 s').1++(D8 s').2.rest:=fun hb=>by
  obtain⟨a,b,_⟩:=Aj0.back hb
  exact⟨a,b⟩
 have htl:=AU s'
 refine h.ask (fun B2 own base2=>eX (own (i:=0) rfl)) fun w4 h=>?_
 refine h.rd_ 0 rfl (fun B2 own base2=>iR (base2 hB) (by omega)) fun w5 h=>?_
 have h:Rel B' w5 [rdD p (D8 s').2,Y3 M3 v (acc.map ofL)]:=h
 refine h.ask (fun B2 own base2=>eX (own (i:=0) rfl)) fun w6 h=>?_
 have hstop:(s'.rest.length≤(D8 s').2.rest.length∨s'.rest.length=0)→((D8 s').2.bad=false→bl s=H8 acc++(D8 s').2.rest):=fun c hb=>by
  obtain⟨h1,h2⟩:=hf2 hb
  have h3:=congrArg List.length h2
  rw[List.length_append] at h3
  have h4:0<(yB (D8 s').1).length:=by unfold yB;simp only[List.length_append,List.length_cons];omega
  omega
 rw[FC,K3]
 refine⟨fun c2=>?_,fun c2=>?_⟩
 ·have c:s'.rest.length≤(D8 s').2.rest.length∨s'.rest.length=0 := .inl (by omega)
  rw[if_pos c] at hq
  exact hJ v acc _ _ hq (hstop c) h
 rw[F7,K3]
 refine⟨fun c3=>?_,fun c3=>?_⟩
 ·have c:s'.rest.length≤(D8 s').2.rest.length∨s'.rest.length=0 := .inr (by omega)
  rw[if_pos c] at hq
  exact hJ v acc _ _ hq (hstop c) h
 rw[if_neg (by omega)] at hq
 refine h.WS (α:=ByteArray) 1 rfl (ofL (D8 s').1) K7 (by decide) (by rw[List.length_map];omega) (by rw[List.length_map];omega) fun v2 w7 h=>?_
 have e2:((acc++[(D8 s').1]).map ofL)=(acc.map ofL)++[(ofL (D8 s').1)]:=by rw[List.map_append];rfl
 refine hnext _ _ _ (Nat.lt_succ_self _) ⟨acc++[(D8 s').1],v2,(D8 s').2,rfl,hq,by omega,by omega,by rw[List.length_append,List.length_singleton];omega,fun hb=>?_,?_⟩
 ·obtain⟨h1,h2⟩:=hf2 hb
  have e3:H8 (acc++[(D8 s').1])=H8 acc++yB (D8 s').1:=by
   unfold H8
   rw[List.flatMap_append]
   simp
  rw[e3,List.append_assoc,←h2]
  exact hf h1
 ·rw[e2]
  exact h
end
end Go.Proofs.YtngbebnhegcokaaGreatDoor

namespace Go.Proofs.YtngbebnhegcokaaGreatDoor
open Go.RowKit
set_option maxRecDepth 100000
section
variable {α:Type} [Enc α] {P:Program} {B:Base} {w:World} {σ:List Dat} {E T:TypeId} {v:Value} {l:List α} {by_:Nat} {K:Value→World→Prop}
def OD0(v:Value)(l:List α)(v0:Value)(l0:List α):Prop:=(v=v0∧l=l0)∨∃a n0 c0 n,v0 = .slice a n0 c0∧v = .slice a n n∧n≤l0.length∧l=l0.take n
def ZH(E:TypeId)(v:Value)(l:List α):Dat:=Dat.ex fun q:Value×List α=>Dat.and (Dat.pure (OD0 v l q.1 q.2)) (Y3 E q.1 q.2)
theorem ZH.of(h:Y3 E v l B):ZH E v l B:=⟨(v,l),.inl ⟨rfl,rfl⟩,h⟩
theorem ZH.read(h:ZH E v l B):O4 v l B:=by
 obtain⟨⟨v0,l0⟩,hc,h⟩:=h
 rcases hc with⟨rfl,rfl⟩ | ⟨a,n0,c0,n,e1,rfl,hn,rfl⟩
 ·exact Y3.read h
 ·obtain⟨a',cap,e2,hcap,h⟩:=Y3.read h
  have e1:v0 = .slice a n0 c0:=e1
  have e2:v0 = .slice a' l0.length cap:=e2
  rw[e1] at e2
  cases e2
  have hlen:(l0.take n).length=n:=by rw[List.length_take];exact Nat.min_eq_left hn
  refine⟨a,n,by rw[hlen],by rw[hlen];exact Nat.le_refl _,?_⟩
  rcases h with rfl | ⟨g,o,rfl,h⟩
  ·left;simp
  ·right
   refine⟨g,o,rfl,h.1,h.2.1,fun j u hj=>?_⟩
   refine h.2.2 _ _ ?_
   rw[←oF,List.getElem?_take] at hj
   split at hj
   ·exact hj
   ·cases hj
theorem ZH.shape(h:ZH E v l B):∃a c,v = .slice a l.length c:=by
 obtain⟨a,c,e,_⟩:=ZH.read h
 exact⟨a,c,e⟩
theorem Rel.nu0(h:Rel B w σ)(i:Nat)(hi:σ[i]? = some (ZH E v l))(hT:sliceB P T E (Enc.sz α) by_=true){v2:Value}{l2:List α}(r:O4 v2 l2 B)(hne:l2≠[])
  (hb:(l.length+l2.length) * by_≤140737488355328) (h63:l.length+l2.length≤140737488355328) {U:TypeId} {bs:Array Bool} (k:∀v' w',Rel B w' (σ.set i (ZH E v' (l++l2)))→K v' w'):upK P (M5 .append #[T,T] U bs #[v,v2]) w K:=by
 have hlt:i<σ.length:=(List.getElem?_eq_some_iff.1 hi).1
 obtain⟨⟨v0,l0⟩,h1⟩:=h.ex hi
 obtain⟨hp,h1⟩:=h1.VS (List.getElem?_set_self hlt)
 rw[List.set_set] at h1
 have h1:Rel B w (σ.set i (Y3 E v0 l0)):=h1
 have hp:OD0 v l v0 l0:=hp
 rcases hp with⟨rfl,rfl⟩ | ⟨a,n0,c0,n,e1,rfl,hn,rfl⟩
 ·refine h1.append i (List.getElem?_set_self hlt) hT (Rd.base r) hb h63 fun v' w' h2=>k v' w' ?_
  rw[List.set_set] at h2
  have:=h2.imp (i:=i) (d:=Y3 E v' (l++l2)) (e:=ZH E v' (l++l2)) (List.getElem?_set_self hlt) fun B hB=>ZH.of hB
  rw[List.set_set] at this
  exact this
 ·obtain⟨B',h',back,own,base⟩:=h.frz
  have hlen:(l0.take n).length=n:=by rw[List.length_take];exact Nat.min_eq_left hn
  have hpos:0<l2.length:=List.length_pos_iff.2 hne
  refine Rel.grow (σ:=[]) h' hT (a:=a) (cap:=n) (by rw[hlen]) (Rd.base (ZH.read (own hi))) (Rd.base (base r)) (by rw[hlen];omega) hb h63 fun v' w' h2=>k v' w' ?_
  have h3:=(back w' _ h2).FG0 i hi
  have:=h3.imp (i:=i) (e:=ZH E v' (l0.take n++l2)) (List.getElem?_set_self hlt) fun B hB=>ZH.of (Dat.star.right hB)
  rw[List.set_set] at this
  exact this
theorem bD0{a:Option Addr}{len cap hi mx:Nat}(hT:sliceB P T E (Enc.sz α) by_=true)(h2:hi≤mx)(h3:mx≤cap){Kp:Value→Prop} :
  M0 P (y9 T (.slice a len cap) none (some (.int .i64 hi)) (some (.int .i64 mx))) Kp=Kp (.slice a hi mx):=F5 fun w=>by
 obtain⟨hu,i,z,hinfo,hz,hs,hby,hzs⟩:=t_ hT
 refine X9 ?_
 simp [Instr.sliceAt,Instr.slice,run_underlying hu,Instr.sliceBounds,Instr.sliceBound,asIntOf,h2,h3,sizeOf,typeInfo,hinfo,hs]
 intro _
 cases a with
 | none=>rfl
 | some x =>
  have:x.add 0=x:=by unfold Addr.add;split<;>simp_all
  exact congrArg some this
theorem ZH.cut(h:ZH E v l B){n:Nat}(hn:n≤l.length):∃a c,v = .slice a l.length c∧l.length≤c∧ZH E (.slice a n n) (l.take n) B:=by
 obtain⟨⟨v0,l0⟩,hc,h⟩:=h
 rcases hc with⟨rfl,rfl⟩ | ⟨a,n0,c0,m,e1,rfl,hm,rfl⟩
 ·obtain⟨a',cap,e2,hcap,_⟩:=Y3.read h
  exact⟨a',cap,e2,hcap,⟨(v,l),.inr ⟨a',l.length,cap,n,e2,rfl,hn,rfl⟩,h⟩⟩
 ·have hlen:(l0.take m).length=m:=by rw[List.length_take];exact Nat.min_eq_left hm
  have hm:m≤l0.length:=hm
  have hn2:n≤m:=by
   have h1:n≤(l0.take m).length:=hn
   omega
  show ∃a' c,Value.slice a m m = .slice a' (l0.take m).length c∧(l0.take m).length≤c∧ZH E (.slice a' n n) ((l0.take m).take n) B
  rw[hlen]
  refine⟨a,m,rfl,Nat.le_refl _,⟨(v0,l0),.inr ⟨a,n0,c0,n,e1,rfl,by show n≤l0.length;omega,?_⟩,h⟩⟩
  rw[List.take_take,Nat.min_eq_left hn2]
end
structure JP where
 list:List Bs
 bytes:Int
 broken:Bool
 c:CS
structure JOk (j:JP):Prop where
 bytes:0≤j.bytes∧j.bytes≤16777216
 form:((H8 j.list).length:Int)=j.bytes
def UT(b n:Int):ByteArray:=ofL (encI b++encI n)
def FL(s:DS)(j:JP)(b n:Int):(DS×JP)×Int:=(((CX s j.c 1 (UT b n)).1.1,{ j with c:=(CX s j.c 1 (UT b n)).1.2,broken:=!decide ((CX s j.c 1 (UT b n)).2=0) }),(CX s j.c 1 (UT b n)).2)
def wsJ(s:DS)(j:JP)(t:ByteArray):DS×Int:=if(fB s 0 j.bytes t).2=0 then L9 (fB s 0 j.bytes t).1 0 else fB s 0 j.bytes t
def bZ(s:DS)(j:JP)(l:List Bs):(DS×JP)×Int :=
 if(FL s j (j.bytes+(H8 l).length) (j.list.length+l.length)).2=0 then(((FL s j (j.bytes+(H8 l).length) (j.list.length+l.length)).1.1,{ (FL s j (j.bytes+(H8 l).length) (j.list.length+l.length)).1.2 with list:=j.list++l,bytes:=j.bytes+(H8 l).length }),0)
 else FL s j (j.bytes+(H8 l).length) (j.list.length+l.length)
def IJ(s:DS)(j:JP)(l:List Bs):(DS×JP)×Int :=
 if j.broken=true then((s,j),7)
 else if l=[] then((s,j),0)
 else if 1048576<j.bytes+(H8 l).length then((s,j),6)
 else if(wsJ s j (ofL (H8 l))).2=0 then bZ (wsJ s j (ofL (H8 l))).1 j l
 else(((wsJ s j (ofL (H8 l))).1,{ j with broken:=true }),(wsJ s j (ofL (H8 l))).2)
def PV(s:DS)(j:JP)(n:Int):(DS×JP)×Int :=
 if j.broken=true then((s,j),7)
 else if n<0∨(j.list.length:Int)<n then((s,j),1)
 else if n=j.list.length then((s,j),0)
 else if(FL s j (H8 (j.list.take n.toNat)).length n).2=0 then(((FL s j (H8 (j.list.take n.toNat)).length n).1.1,{ (FL s j (H8 (j.list.take n.toNat)).length n).1.2 with list:=j.list.take n.toNat,bytes:=(H8 (j.list.take n.toNat)).length }),0)
 else FL s j (H8 (j.list.take n.toNat)).length n
noncomputable def io0(s:DS)(c:CS):Option JP×Int :=
 if(VF c).2=false then(none,2)
 else if(LD s 0 0 (VF c).1.1).2≠0 then(none,(LD s 0 0 (VF c).1.1).2)
 else if(vU (bl (LD s 0 0 (VF c).1.1).1) (VF c).1.2).2=false then(none,2)
 else if((LD s 0 0 (VF c).1.1).1.size:Int)≠(VF c).1.1 then(none,2)
 else(some ⟨(vU (bl (LD s 0 0 (VF c).1.1).1) (VF c).1.2).1,(VF c).1.1,false,c⟩,0)
noncomputable def sW(s:DS):Option JP×Int:=match EQ s 1 with
 | (none,e)=>(none,e)
 | (some c,_)=>io0 s c
noncomputable def rM(s:DS):DS×(Option JP×Int) :=
 if(L9 s 0).2≠0 then((L9 s 0).1,(none,(L9 s 0).2))
 else if(L9 (L9 s 0).1 1).2≠0 then((L9 (L9 s 0).1 1).1,(none,(L9 (L9 s 0).1 1).2))
 else((L9 (L9 s 0).1 1).1,sW (L9 (L9 s 0).1 1).1)
theorem fj0{s:DS}{f:Int}{st:CS}{e:Int}(h:EQ s f=(some st,e)):st.value.size≤65536:=by
 unfold EQ at h
 split at h
 ·cases h
 split at h
 ·cases h;exact Nat.zero_le _
 split at h
 ·cases h;exact Nat.zero_le _
 unfold Ts0 at h
 split at h
 ·cases h
 split at h
 ·cases h
 split at h
 ·cases h
 split at h
 ·cases h
 split at h
 ·cases h
 rename_i h3 _ _
 cases h
 have:=FY s f (ZQ ((bl (LD s f 0 5).1).getD 0 0).toNat) (od0 (bl (LD s f 0 5).1))
 show (LD s f _ _).1.size≤_
 omega
theorem wg0{s:DS}(h:DOk s)(f a n:Int):(LD s f a n).1.size≤16777216:=by
 unfold LD
 split
 ·exact Nat.zero_le _
 ·split
  ·exact Nat.zero_le _
  ·split
   ·exact Nat.zero_le _
   ·show (ofL _).size≤_
    rw[Q_,List.length_take,List.length_drop,aP]
    have:=h.now f
    omega
theorem Yf0{b n:Int}(hb:inI b)(hn:inI n):(UT b n).size≤42:=by
 unfold UT
 rw[Q_,List.length_append]
 have:=Q6 hb
 have:=Q6 hn
 omega
abbrev jcs(dp cp:Nat)(v:Value)(j:JP):Array Value:=#[ptr dp,.int .i64 0,ptr cp,v,.int .i64 j.bytes,.bool j.broken]
def Ey0(dp cp jp:Nat)(j:JP)(v:SV):List Dat:=[O1 cp U4 (ccs dp 1 j.c),O1 jp Y4 (jcs dp cp v.1 j),ZH M3 v.1 (j.list.map ofL)]
def JB(dp cp jp:Nat)(j:JP):Dat:=Dat.ex fun v:SV=>eF (Ey0 dp cp jp j v)
section
variable {B:Base} {w:World} {σ τ:List Dat} {dp cp jp:Nat} {s:DS} {kv:Value} {j:JP} {K:Value→World→Prop}
theorem JB.open(h:Rel B w (JB dp cp jp j :: τ)):∃v,Rel B w (Ey0 dp cp jp j v++τ):=by
 obtain⟨v,h⟩:=h.ex (i:=0) rfl
 exact⟨v,Rel.nS h⟩
theorem JB.close(v:SV)(h:Rel B w (Ey0 dp cp jp j v++τ)):Rel B w (JB dp cp jp j :: τ) :=
 (Rel.RL h).imp (i:=0) (e:=JB dp cp jp j) rfl fun B hB=>⟨v,hB⟩
theorem JB.jP(h:JB dp cp jp j B):∃v:SV,O1 cp U4 (ccs dp 1 j.c) B∧O1 jp Y4 (jcs dp cp v.1 j) B∧O4 v.1 (j.list.map ofL) B:=by
 obtain⟨v,h⟩:=h
 exact⟨v,eF.get (j:=0) h rfl,eF.get (j:=1) h rfl,ZH.read (eF.get (j:=2) h rfl)⟩
theorem dV(l:List Bs):(l.map ofL).map bl=l:=by
 rw[List.map_map]
 conv=>rhs;rw[←List.map_id l]
 exact List.map_congr_left fun x _=>GI x
theorem sF0(h0:JB dp cp jp j B):Gives Tryz.prog B (Z0 CJ #[ptr jp]) (.int .i64 j.list.length):=by
 refine Gives.intro fun B' w K base h k=>?_
 obtain⟨v,c0,c1,c2⟩:=JB.jP (base h0)
 refine yH.up ?_
 unfold yH.pt
 simp -zeta only[J5,U0 jH,Nat.zero_add]
 rw[O1.ld (h.L6 c1) K9 (o:=3) (v:=v.1) rfl,O4.len c2 K7,List.length_map]
 exact k _ _ h
theorem qF0(h0:JB dp cp jp j B)(hl:j.list.length≤1000000000):Makes Tryz.prog B (Z0 AJ #[ptr jp]) fun u τ=>τ=[Y3 M3 u (j.list.map ofL)]:=by
 refine Makes.intro fun B' w K base h k=>?_
 obtain⟨v,c0,c1,c2⟩:=JB.jP (base h0)
 refine wH.up ?_
 unfold wH.pt
 simp -zeta only[J5,U0 jH,Nat.zero_add]
 rw[O1.ld (h.L6 c1) K9 (o:=3) (v:=v.1) rfl,O4.len c2 K7,List.length_map]
 refine h.mkSlice (α:=ByteArray) (n:=j.list.length) ⟨#[]⟩ K7 rfl (by omega) (by omega) fun u w1 h hu=>?_
 have e:(List.replicate j.list.length (⟨#[]⟩:ByteArray)).length=j.list.length:=List.length_replicate ..
 obtain⟨g,cap,hu⟩:=h.Us0 (i:=0) rfl hu
 rw[e] at hu
 subst hu
 rw[O1.ld (h.L6 c1) K9 (o:=3) (v:=v.1) rfl]
 refine h.iZ 0 (l2:=j.list.map ofL) (n:=j.list.length) (lo:=0) rfl K7 (Rd.base c2) (Nat.zero_le _) (.inl (by rw[Nat.zero_mul])) fun w2 h=>?_
 refine k _ _ _ rfl ?_
 have e2:(j.list.map ofL).length=j.list.length:=List.length_map ..
 rw[List.take_zero,List.nil_append,e,Nat.sub_zero,List.take_of_length_le (l:=j.list.map ofL) (by omega),List.drop_of_length_le (by omega),List.append_nil] at h
 exact h
theorem jz0(hT:VT B)(hB:VI B)(r:O4 kv s.keep B)(hkl:s.keep.length≤1000000)(b n:Int)(hb:inI b)(hn:inI n) :
  Both Tryz.prog B (Z6 dp s kv) (JB dp cp jp j) (Z0 KE #[ptr jp,.int .i64 b,.int .i64 n]) fun u d1 d2=>u = .int .i64 (FL s j b n).2∧d1=Z6 dp (FL s j b n).1.1 kv∧d2=JB dp cp jp (FL s j b n).1.2:=by
 refine Both.intro fun B' w K base h k=>?_
 replace hT:=base hT
 replace hB:=base hB
 replace r:=base r
 refine EG.up ?_
 unfold EG.pt
 have h:=h.pick [1,0] (by decide)
 obtain⟨v,h⟩:=JB.open h
 have h:Rel B' w [O1 cp U4 (ccs dp 1 j.c),O1 jp Y4 (jcs dp cp v.1 j),ZH M3 v.1 (j.list.map ofL),Z6 dp s kv]:=h
 have h:=h.tick
 generalize tick w=w at *
 simp -zeta only[J5,U0 yX,U0 TL,Nat.zero_add]
 rw[h.ld 1 rfl p9 (o:=2) (v:=ptr cp) rfl]
 refine h.ask (fun B2 own base2=>wC (base2 hB) hb) fun w2 h=>?_
 refine⟨h.is 1 rfl p9 (o:=2) rfl,?_⟩
 refine h.ask (fun B2 own base2=>wC (base2 hB) hn) fun w3 h=>?_
 refine⟨h.is 1 rfl p9 (o:=2) rfl,?_⟩
 have l1:=Q6 hb
 have l2:=Q6 hn
 rw[C9 (by omega)]
 have h:Rel B' w3 ([O1 jp Y4 (jcs dp cp v.1 j),ZH M3 v.1 (j.list.map ofL)]++[Z6 dp s kv,O1 cp U4 (ccs dp 1 j.c)]):=h.pick [1,2,3,0] (by decide)
 refine h.zh0 (fun B2 own base2=>uE0 (base2 hT) (base2 r) hkl) fun u d1 d2 w4 hp h=>?_
 obtain⟨rfl,rfl,rfl⟩:=hp
 rw[Q7]
 refine h.st 0 rfl AB (o:=5) (show 5<6 by omega) rfl fun w5 h=>?_
 refine k _ _ _ _ ⟨rfl,rfl,rfl⟩ ?_
 have h:Rel B' w5 (Ey0 dp cp jp (FL s j b n).1.2 v++[Z6 dp (FL s j b n).1.1 kv]):=h.pick [3,0,1,2] (by decide)
 exact(JB.close v h).pick [1,0] (by decide)
theorem Vw0(hT:VT B)(hB:VI B)(r:O4 kv s.keep B)(hkl:s.keep.length≤1000000)(hj:JOk j){u:Value}{l:List Bs}(q:O4 u (l.map ofL) B)(hl:(H8 l).length≤16777216)(hjl:j.list.length≤1000000000)(hll:l.length≤1000000) :
  Both Tryz.prog B (Z6 dp s kv) (JB dp cp jp j) (Z0 RG #[ptr jp,u]) fun u d1 d2=>u = .int .i64 (IJ s j l).2∧d1=Z6 dp (IJ s j l).1.1 kv∧d2=JB dp cp jp (IJ s j l).1.2:=by
 refine Both.intro fun B' w K base h k=>?_
 replace hT:=base hT
 replace hB:=base hB
 replace r:=base r
 replace q:=base q
 refine SE.up ?_
 unfold SE.pt
 have fin:∀(x:(DS×JP)×Int) w',IJ s j l=x→Rel B' w' [JB dp cp jp x.1.2,Z6 dp x.1.1 kv]→K (.int .i64 x.2) w':=fun x w' e h=>k _ (Z6 dp x.1.1 kv) (JB dp cp jp x.1.2) w' ⟨by rw[e],by rw[e],by rw[e]⟩ (h.pick [1,0] (by decide))
 clear k
 have hjb:=hj.bytes
 have h:=h.pick [1,0] (by decide)
 obtain⟨v,h⟩:=JB.open h
 have h:Rel B' w [O1 cp U4 (ccs dp 1 j.c),O1 jp Y4 (jcs dp cp v.1 j),ZH M3 v.1 (j.list.map ofL),Z6 dp s kv]:=h
 refine h.ask (v := .string (ofL (H8 l))) (fun B2 own base2=>by
  have:=Zp0 (base2 hB) (base2 q) (by rw[dV];omega)
  rw[dV] at this
  exact this) fun w1 h=>?_
 have hfs:(ofL (H8 l)).size=(H8 l).length:=Q_ _
 have hql:(l.map ofL).length=l.length:=List.length_map ..
 simp -zeta only[J5,U0 wX,U0 xX,U0 jH,U0 zQ,U0 TL,Nat.zero_add,Nat.add_zero]
 rw[h.ld 1 rfl AB (o:=5) (v := .bool j.broken) rfl,R5]
 unfold IJ at fin
 refine⟨fun c1=>fin ((s,j),7) _ (by rw[if_pos c1]) (JB.close v h),fun c1=>?_⟩
 rw[if_neg (by rw[c1];decide)] at fin
 rw[O4.len q K7,hql,F7,K3]
 refine⟨fun c2=>fin ((s,j),0) _ (by rw[if_pos (List.eq_nil_of_length_eq_zero (by omega))]) (JB.close v h),fun c2=>?_⟩
 have hne:l≠[]:=fun hh=>c2 (by rw[hh];rfl)
 rw[if_neg hne] at fin
 rw[h.ld 1 rfl Y2 (o:=4) (v := .int .i64 j.bytes) rfl,LC K8,hfs,Z5,E5 (by omega) (by omega),x9,K3]
 refine⟨fun c3=>fin ((s,j),6) _ (by rw[if_pos c3]) (JB.close v h),fun c3=>?_⟩
 rw[if_neg c3] at fin
 have h:=h.tick
 generalize tick w1=w1 at *
 rw[h.ld 1 rfl H_ (o:=0) (v:=ptr dp) rfl,h.ld 1 rfl Y2 (o:=1) (v := .int .i64 0) rfl,h.ld 1 rfl Y2 (o:=4) (v := .int .i64 j.bytes) rfl]
 refine h.act 3 rfl (fun B2 own base2=>Vj0 (base2 r) hkl 0 j.bytes (t:=ofL (H8 l)) (by rw[hfs];omega)) fun u2 e' τ w2 hp h=>?_
 obtain⟨rfl,rfl,rfl⟩:=hp
 have hkw:=GG s 0 j.bytes (ofL (H8 l))
 refine P6 fun J hJ=>?_
 replace hJ:∀w',Rel B' w' [O1 cp U4 (ccs dp 1 j.c),O1 jp Y4 (jcs dp cp v.1 j),ZH M3 v.1 (j.list.map ofL),Z6 dp (wsJ s j (ofL (H8 l))).1 kv]→(wsJ s j (ofL (H8 l))).1.keep=s.keep→J (.int .i64 (wsJ s j (ofL (H8 l))).2,()) w':=by
  intro w' h hkeep
  refine hJ _ _ ?_
  clear hJ
  generalize wsJ s j (ofL (H8 l))=x at *
  obtain⟨s2,e2⟩:=x
  simp only at h hkeep fin ⊢
  rw[←hkeep] at r hkl
  rw[Q7,G5,K3]
  refine⟨fun c4=>?_,fun c4=>?_⟩
  case refine_2 =>
   rw[if_neg c4] at fin
   refine h.st 1 rfl AB (o:=5) (show 5<6 by omega) rfl fun w5 h=>?_
   exact fin ((s2,{ j with broken:=true }),e2) _ rfl (JB.close (j:={ j with broken:=true }) v h)
  rw[if_pos c4] at fin
  clear c4
  have h:=h.tick
  generalize tick w'=w' at *
  have c2r:=ZH.read (h.here (i:=2) rfl:(ZH M3 v.1 (j.list.map ofL)).here w')
  rw[h.ld 1 rfl Y2 (o:=4) (v := .int .i64 j.bytes) rfl,LC K8,hfs,Z5,E5 (by omega) (by omega),h.ld 1 rfl K9 (o:=3) (v:=v.1) rfl,O4.len c2r K7,List.length_map,O4.len q K7,hql,Z5,E5 (by omega) (by omega)]
  clear c2r
  have h:Rel B' w' ([]++[Z6 dp s2 kv,JB dp cp jp j]):=(JB.close v h).pick [1,0] (by decide)
  refine h.zh0 (fun B2 own base2=>jz0 (base2 hT) (base2 hB) (base2 r) hkl (j.bytes+(H8 l).length) (j.list.length+l.length) (by unfold inI;omega) (by unfold inI;omega)) fun u d1 d2 w4 hp h=>?_
  obtain⟨rfl,rfl,rfl⟩:=hp
  rw[Q7,G5,K3]
  unfold bZ at fin
  have hjl2:(FL s2 j (j.bytes+(H8 l).length) (j.list.length+l.length)).1.2.list=j.list∧(FL s2 j (j.bytes+(H8 l).length) (j.list.length+l.length)).1.2.bytes=j.bytes:=⟨rfl,rfl⟩
  generalize FL s2 j (j.bytes+(H8 l).length) (j.list.length+l.length)=y at *
  obtain⟨⟨s3,j3⟩,e3⟩:=y
  simp only at h fin hjl2 ⊢
  obtain⟨hj3,hj4⟩:=hjl2
  refine⟨fun c4=>?_,fun c4=>?_⟩
  case refine_2 =>
   rw[if_neg c4] at fin
   exact fin ((s3,j3),e3) _ rfl (h.pick [1,0] (by decide))
  rw[if_pos c4] at fin
  have h:Rel B' w4 [JB dp cp jp j3,Z6 dp s3 kv]:=h.pick [1,0] (by decide)
  obtain⟨v3,h⟩:=JB.open h
  have h:Rel B' w4 [O1 cp U4 (ccs dp 1 j3.c),O1 jp Y4 (jcs dp cp v3.1 j3),ZH M3 v3.1 (j3.list.map ofL),Z6 dp s3 kv]:=h
  have h:=h.tick
  generalize tick w4=w4 at *
  rw[h.ld 1 rfl K9 (o:=3) (v:=v3.1) rfl,h.ld 1 rfl Y2 (o:=4) (v := .int .i64 j3.bytes) rfl,LC K8,hfs,hj4,Z5,E5 (by omega) (by omega)]
  refine h.nu0 (α:=ByteArray) 2 rfl K7 q (fun hh=>hne (List.map_eq_nil_iff.1 hh)) (by rw[List.length_map,List.length_map,hj3];omega) (by rw[List.length_map,List.length_map,hj3];omega) fun v4 w5 h=>?_
  have hv4:v4.oneCell'=true:=by
   obtain⟨a,c,rfl⟩:=ZH.shape (h.here (i:=2) rfl)
   rfl
  have hls:∀{w':World},Is Tryz.prog (M5 .len #[M3] Q0 #[false] #[.string (ofL (H8 l))]) (.int .i64 (H8 l).length) w':=fun {w'}=>by
   have:=LC (P:=Tryz.prog) (w:=w') (K:=fun x=>x = .int .i64 (H8 l).length) (U:=Q0) (bs:=#[false]) (s:=ofL (H8 l)) K8
   rw[hfs] at this
   obtain⟨x,h1,rfl⟩:=this.mpr rfl
   exact h1
  refine⟨hls,h.is 1 rfl Y2 (o:=4) (by rw[←hj4];rfl),?_⟩
  refine h.st 1 rfl K9 (o:=3) (show 3<6 by omega) hv4 fun w6 h=>?_
  refine⟨hls,?_⟩
  refine h.st 1 rfl Y2 (o:=4) (show 4<6 by omega) rfl fun w7 h=>?_
  rw[←List.map_append,hj3] at h
  exact fin ((s3,{ j3 with list:=j.list++l,bytes:=j.bytes+(H8 l).length }),0) _ rfl (JB.close (j:={ j3 with list:=j.list++l,bytes:=j.bytes+(H8 l).length }) ⟨v4,hv4⟩ h)
 unfold wsJ at hJ
 rw[F7,K3]
 refine⟨fun c4=>?_,fun c4=>?_⟩
 ·rw[if_pos c4] at hJ
  have h:Rel B' w2 [O1 cp U4 (ccs dp 1 j.c),O1 jp Y4 (jcs dp cp v.1 j),ZH M3 v.1 (j.list.map ofL),Z6 dp (fB s 0 j.bytes (ofL (H8 l))).1 kv]:=h
  have h:=h.tick
  generalize tick w2=w2 at *
  rw[h.ld 1 rfl H_ (o:=0) (v:=ptr dp) rfl,h.ld 1 rfl Y2 (o:=1) (v := .int .i64 0) rfl]
  rw[←hkw] at r hkl
  refine h.act 3 rfl (fun B2 own base2=>ba0 (base2 r) hkl 0) fun u2 e' τ w3 hp h=>?_
  obtain⟨rfl,rfl,rfl⟩:=hp
  exact hJ _ h ((cB _ _).trans hkw)
 ·rw[if_neg c4] at hJ
  exact hJ _ h hkw
end
end Go.Proofs.YtngbebnhegcokaaGreatDoor

namespace Go.Proofs.YtngbebnhegcokaaGreatDoor
open Go.RowKit
set_option maxRecDepth 100000
theorem sZ(l:List Bs)(n:Nat):(H8 (l.take n)).length≤(H8 l).length:=QE yB l n
theorem fP(l:List Bs):l.length≤(H8 l).length:=by
 induction l with
 | nil=>exact Nat.le_refl _
 | cons x l ih =>
  show l.length+1≤(yB x++H8 l).length
  rw[List.length_append]
  have:1≤(yB x).length:=by unfold yB;simp only[List.length_append,List.length_cons];omega
  omega
noncomputable def dj0(s:DS):DS×(Option JP×Int):=if(L9 s 1).2≠0 then((L9 s 1).1,(none,(L9 s 1).2)) else((L9 s 1).1,sW (L9 s 1).1)
noncomputable def NG0:Nat→DS→DS×(Option JP×Int)
 | 0,s=>rM s
 | 1,s=>dj0 s
 | _,s=>(s,sW s)
theorem db0{s:DS}{f e:Int}(h:EQ s f=(none,e)):e≠0:=by
 unfold EQ at h
 split at h
 ·cases h;assumption
 split at h
 ·cases h
 split at h
 ·cases h
 unfold Ts0 at h
 split at h
 ·cases h;decide
 split at h
 ·cases h;decide
 split at h
 ·cases h;decide
 split at h
 ·cases h;assumption
 split at h
 ·cases h;decide
 cases h
section
variable {B:Base} {w:World} {σ τ:List Dat} {dp cp jp:Nat} {s:DS} {kv:Value} {j:JP} {K:Value→World→Prop}
theorem CG0(hT:VT B)(hB:VI B)(r:O4 kv s.keep B)(hkl:s.keep.length≤1000000)(hj:JOk j)(n:Int) :
  Both Tryz.prog B (Z6 dp s kv) (JB dp cp jp j) (Z0 BJ #[ptr jp,.int .i64 n]) fun u d1 d2=>u = .int .i64 (PV s j n).2∧d1=Z6 dp (PV s j n).1.1 kv∧d2=JB dp cp jp (PV s j n).1.2:=by
 refine Both.intro fun B' w K base h k=>?_
 replace hT:=base hT
 replace hB:=base hB
 replace r:=base r
 refine xH.up ?_
 unfold xH.pt
 have fin:∀(x:(DS×JP)×Int) w',PV s j n=x→Rel B' w' [JB dp cp jp x.1.2,Z6 dp x.1.1 kv]→K (.int .i64 x.2) w':=fun x w' e h=>k _ (Z6 dp x.1.1 kv) (JB dp cp jp x.1.2) w' ⟨by rw[e],by rw[e],by rw[e]⟩ (h.pick [1,0] (by decide))
 clear k
 have hjb:=hj.bytes
 have hjf:=hj.form
 have hjc:=fP j.list
 have h:=h.pick [1,0] (by decide)
 obtain⟨v,h⟩:=JB.open h
 have h:Rel B' w [O1 cp U4 (ccs dp 1 j.c),O1 jp Y4 (jcs dp cp v.1 j),ZH M3 v.1 (j.list.map ofL),Z6 dp s kv]:=h
 have hml:(j.list.map ofL).length=j.list.length:=List.length_map ..
 simp -zeta only[J5,U0 jH,U0 zQ,U0 TL,Nat.zero_add,Nat.add_zero]
 rw[h.ld 1 rfl AB (o:=5) (v := .bool j.broken) rfl,R5]
 unfold PV at fin
 refine⟨fun c1=>fin ((s,j),7) _ (by rw[if_pos c1]) (JB.close v h),fun c1=>?_⟩
 rw[if_neg (by rw[c1];decide)] at fin
 rw[G6,K3]
 refine⟨fun c2=>fin ((s,j),1) _ (by rw[if_pos (.inl c2)]) (JB.close v h),fun c2=>?_⟩
 have c2r:=ZH.read (h.here (i:=2) rfl:(ZH M3 v.1 (j.list.map ofL)).here w)
 rw[h.ld 1 rfl K9 (o:=3) (v:=v.1) rfl,O4.len c2r K7,hml,x9,K3]
 refine⟨fun c3=>fin ((s,j),1) _ (by rw[if_pos (.inr c3)]) (JB.close v h),fun c3=>?_⟩
 rw[if_neg (fun hh=>hh.elim c2 c3)] at fin
 rw[h.ld 1 rfl K9 (o:=3) (v:=v.1) rfl,O4.len c2r K7,hml,F7,K3]
 refine⟨fun c4=>fin ((s,j),0) _ (by rw[if_pos c4]) (JB.close v h),fun c4=>?_⟩
 rw[if_neg c4] at fin
 obtain⟨m,rfl⟩:∃m:Nat,n=m:=⟨n.toNat,by omega⟩
 rw[Int.toNat_natCast] at fin
 rw[h.ld 1 rfl K9 (o:=3) (v:=v.1) rfl]
 have hcut:∀Kp:Value→Prop,M0 Tryz.prog (y9 Z4 v.1 none (some (.int .i64 m)) none) Kp=Kp (cutV 1 v.1 0 m):=fun Kp =>
  O4.Me0 (α:=ByteArray) (P:=Tryz.prog) (lo:=0) (hi:=m) c2r K7 Bnd.none Bnd.some (by omega) (by omega)
 rw[hcut]
 clear c2r hcut
 have hft:=sZ j.list m
 refine h.ask (v := .string (ofL (H8 (j.list.take m)))) (fun B2 own base2=>by
  have h1:=O4.rk0 (α:=ByteArray) (lo:=0) (hi:=m) (ZH.read (own (i:=2) rfl)) (by omega) (by omega)
  rw[List.drop_zero,←List.map_take] at h1
  have:=Zp0 (base2 hB) h1 (by rw[dV];omega)
  rw[dV] at this
  exact this) fun w1 h=>?_
 have hfs:(ofL (H8 (j.list.take m))).size=(H8 (j.list.take m)).length:=Q_ _
 rw[LC K8,hfs]
 have h:Rel B' w1 ([]++[Z6 dp s kv,JB dp cp jp j]):=(JB.close v h).pick [1,0] (by decide)
 refine h.zh0 (fun B2 own base2=>jz0 (base2 hT) (base2 hB) (base2 r) hkl (H8 (j.list.take m)).length m (by unfold inI;omega) (by unfold inI;omega)) fun u d1 d2 w4 hp h=>?_
 obtain⟨rfl,rfl,rfl⟩:=hp
 rw[Q7,G5,K3]
 have hjl2:(FL s j (H8 (j.list.take m)).length m).1.2.list=j.list:=rfl
 generalize FL s j (H8 (j.list.take m)).length m=y at *
 obtain⟨⟨s3,j3⟩,e3⟩:=y
 simp only at h fin hjl2 ⊢
 refine⟨fun c5=>?_,fun c5=>?_⟩
 case refine_2 =>
  rw[if_neg c5] at fin
  exact fin ((s3,j3),e3) _ rfl (h.pick [1,0] (by decide))
 rw[if_pos c5] at fin
 have h:Rel B' w4 [JB dp cp jp j3,Z6 dp s3 kv]:=h.pick [1,0] (by decide)
 obtain⟨v3,h⟩:=JB.open h
 have h:Rel B' w4 [O1 cp U4 (ccs dp 1 j3.c),O1 jp Y4 (jcs dp cp v3.1 j3),ZH M3 v3.1 (j3.list.map ofL),Z6 dp s3 kv]:=h
 rw[hjl2] at h
 rw[h.ld 1 rfl K9 (o:=3) (v:=v3.1) rfl]
 obtain⟨a,c,ev,hc,_⟩:=ZH.cut (n:=m) (h.here (i:=2) rfl:(ZH M3 v3.1 (j.list.map ofL)).here w4) (by omega)
 rw[ev,bD0 (α:=ByteArray) K7 (Nat.le_refl _) (by omega)]
 have h:=h.imp (i:=2) (e:=ZH M3 (.slice a m m) ((j.list.take m).map ofL)) rfl fun B hB=>by
  have hB:ZH M3 v3.1 (j.list.map ofL) B:=hB
  obtain⟨a',c',ev',_,hcut⟩:=ZH.cut (n:=m) hB (by omega)
  rw[ev] at ev'
  cases ev'
  rw[List.map_take]
  exact hcut
 refine h.st 1 rfl K9 (o:=3) (show 3<6 by omega) rfl fun w6 h=>?_
 refine h.st 1 rfl Y2 (o:=4) (show 4<6 by omega) rfl fun w7 h=>?_
 exact fin ((s3,{ j3 with list:=j.list.take m,bytes:=(H8 (j.list.take m)).length }),0) _ rfl (JB.close (j:={ j3 with list:=j.list.take m,bytes:=(H8 (j.list.take m)).length }) ⟨.slice a m m,rfl⟩ h)
theorem EC0(hT:VT B)(hW:qC B)(hB:VI B)(r:O4 kv s.keep B)(hkl:s.keep.length≤1000000) :
  Does Tryz.prog B (Z6 dp s kv) (Z0 DR #[ptr dp,.int .i64 0]) fun u e' τ=>e'=Z6 dp (rM s).1 kv∧match (rM s).2.1 with
   | some j=>∃cp jp,u = .tuple #[ptr jp,.int .i64 0]∧τ=[JB dp cp jp j]
   | none=>u = .tuple #[.pointer none,.int .i64 (rM s).2.2]∧τ=[]:=by
 refine Does.intro fun B' w K base h k=>?_
 replace hT:=base hT
 replace hB:=base hB
 replace hW:=base hW
 replace r:=base r
 refine TQ.up ?_
 unfold TQ.pt
 have no:∀(s':DS) (e:Int) w',rM s=(s',(none,e))→Rel B' w' [Z6 dp s' kv]→K (.tuple #[.pointer none,.int .i64 e]) w':=fun s' e w' he h=>k _ _ [] w' (by rw[he];exact⟨rfl,rfl,rfl⟩) h
 have yes:∀(s':DS) (j:JP) (cp jp:Nat) (e:Int) w',rM s=(s',(some j,e))→Rel B' w' [Z6 dp s' kv,JB dp cp jp j]→K (.tuple #[ptr jp,.int .i64 0]) w':=fun s' j cp jp e w' he h=>k _ _ _ w' (by rw[he];exact⟨rfl,cp,jp,rfl,rfl⟩) h
 clear k
 rw[G6,K3]
 refine⟨fun c=>absurd c (by omega),fun _=>?_⟩
 rw[x9,K3]
 refine⟨fun c=>absurd c (by omega),fun _=>?_⟩
 rw[Z5,E5 (by omega) (by omega)]
 refine h.NV ([0,1]:List Int) N8 fun v w2 h=>?_
 have h:Rel B' w2 [Z6 dp s kv,Y3 Q0 v ([0,1]:List Int)]:=h
 rw[O4.len (Y3.read (h.here (i:=1) rfl)) N8]
 refine F6 (fun z w'=>∃(i:Nat) (si:DS),i≤2∧z=(.int .i64 i,())∧rM s=NG0 i si∧si.keep=s.keep∧Rel B' w' [Z6 dp si kv,Y3 Q0 v ([0,1]:List Int)])
  (fun z _=>2-(match z.1 with | .int _ n=>n.toNat | _=>0)) ⟨0,s,Nat.zero_le _,rfl,rfl,rfl,h⟩ ?_
 clear h
 rintro z w3 ⟨i,si,hi,rfl,hop,hk,h⟩ next hnext
 rw[←hk] at r hkl
 rw[hop] at no yes
 rw[G6,K3]
 refine⟨fun hlt=>?_,fun hge=>?_⟩
 ·have hlt:i<2:=by
   have:(i:Int)<(([0,1]:List Int).length:Nat):=hlt
   have e:([0,1]:List Int).length=2:=rfl
   omega
  have hil:i<([0,1]:List Int).length:=hlt
  have hel:([0,1]:List Int)[i]=i:=by
   have:i=0∨i=1:=by omega
   rcases this with rfl | rfl<;>rfl
  obtain⟨g,o,hx,hc⟩:=O4.idx (Y3.read (h.here (i:=1) rfl)) N8 (P:=Tryz.prog) hil
  rw[hx,K6.ld0 hc Y2 (v := .int .i64 ([0,1]:List Int)[i]) rfl,hel]
  clear hx hc
  refine h.act 0 rfl (fun B2 own base2=>ba0 (base2 r) hkl i) fun u2 e' τ w4 hp h=>?_
  obtain⟨rfl,rfl,rfl⟩:=hp
  have hk2:=cB si i
  have hi01:i=0∨i=1:=by omega
  rw[Q7,G5,K3]
  refine⟨fun c=>?_,fun c=>?_⟩
  case refine_2 =>
   refine no (L9 si i).1 (L9 si i).2 _ ?_ (h.take 1)
   rcases hi01 with rfl | rfl
   ·show rM si=_
    unfold rM
    exact if_pos c
   ·show dj0 si=_
    unfold dj0
    exact if_pos c
  rw[Z5,E5 (by omega) (by omega)]
  refine hnext _ _ ⟨i+1,(L9 si i).1,by omega,rfl,?_,hk2.trans hk,h⟩ (by simp only;omega)
  rw[hop]
  rcases hi01 with rfl | rfl
  ·show rM si=dj0 (L9 si 0).1
   unfold rM
   exact if_neg (fun hh=>hh c)
  ·show dj0 si=((L9 si 1).1,sW (L9 si 1).1)
   unfold dj0
   exact if_neg (fun hh=>hh c)
 have:i=2:=by
  have:¬(i:Int)<(([0,1]:List Int).length:Nat):=hge
  have e:([0,1]:List Int).length=2:=rfl
  omega
 subst this
 clear hnext hge
 have hop2:NG0 2 si=(si,sW si):=rfl
 rw[hop2] at no yes
 replace no:∀(e:Int) w',sW si=(none,e)→Rel B' w' [Z6 dp si kv]→K (.tuple #[.pointer none,.int .i64 e]) w':=fun e w' he h=>no si e w' (by rw[he]) h
 replace yes:∀(j:JP) (cp jp:Nat) w',sW si=(some j,0)→Rel B' w' [Z6 dp si kv,JB dp cp jp j]→K (.tuple #[ptr jp,.int .i64 0]) w':=fun j cp jp w' he h=>yes si j cp jp 0 w' (by rw[he]) h
 rw[Z5,E5 (by omega) (by omega)]
 have h:Rel B' w3 [Z6 dp si kv]:=h.take 1
 unfold sW at no yes
 refine h.make (fun B2 own base2=>Jr0 (base2 hT) (own (i:=0) rfl) 1) fun u τ w4 hp h=>?_
 rcases hp with⟨c,st,ho,rfl,rfl⟩ | ⟨ho,rfl,rfl⟩
 case inr =>
  cases hq:EQ si 1 with
  | mk a e =>
   rw[hq] at ho
   simp only at ho
   subst ho
   rw[hq] at no
   simp only at no
   rw[M9,D9,Q7,G5,K3]
   refine⟨fun c=>?_,fun _=>?_⟩
   ·exact absurd c (db0 hq)
   ·exact no e _ rfl (h.take 1)
 rw[ho] at no yes
 simp only at no yes
 rw[M9,D9,Q7,G5,K3]
 refine⟨fun _=>?_,fun c=>absurd rfl c⟩
 have hsz:=fj0 ho
 have h:Rel B' w4 [Z6 dp si kv,O1 c U4 (ccs dp 1 st)]:=h
 refine h.ask (fun B2 own base2=>uv0 (base2 hW) (st:=st) (by omega) (own (i:=1) rfl)) fun w5 h=>?_
 unfold io0 at no yes
 have hdk:DOk si:=(Z6.ok (h.here (i:=0) rfl)).1
 generalize VF st=ns at *
 obtain⟨⟨b,n⟩,ok⟩:=ns
 simp only at no yes ⊢
 rw[UU,Dd0,Ed0,V7,G5,R5]
 refine⟨fun c1=>?_,fun c1=>no 2 _ (by rw[if_pos c1]) (h.take 1)⟩
 rw[if_neg (by rw[c1];decide)] at no yes
 refine h.ask (fun B2 own base2=>dp0 (own (i:=0) rfl) 0 0 b) fun w6 h=>?_
 have hrf:=wg0 hdk 0 0 b
 generalize LD si 0 0 b=rd at *
 obtain⟨x,e⟩:=rd
 simp only at no yes hrf ⊢
 rw[M9,D9,Q7,G5,K3]
 refine⟨fun c2=>?_,fun c2=>no e _ (by rw[if_pos c2]) (h.take 1)⟩
 rw[if_neg (fun hh=>hh c2)] at no yes
 refine h.make (fun B2 own base2=>KC0 (base2 hW) (base2 hB) hrf n) fun u τ w7 hp h=>?_
 obtain⟨v7,rfl,rfl⟩:=hp
 generalize vU (bl x) n=q at *
 obtain⟨l,okq⟩:=q
 simp only at no yes h ⊢
 rw[M9,D9,V7,G5,R5]
 refine⟨fun c3=>?_,fun c3=>no 2 _ (by rw[if_pos c3]) (h.take 1)⟩
 rw[if_neg (by rw[c3];decide)] at no yes
 rw[LC K8,Q7,G5,K3]
 refine⟨fun c4=>?_,fun c4=>no 2 _ (by rw[if_pos c4]) (h.take 1)⟩
 rw[if_neg (fun hh=>hh c4)] at yes
 have h:Rel B' w7 [Z6 dp si kv,O1 c U4 (ccs dp 1 st),Y3 M3 v7 (l.map ofL)]:=h
 obtain⟨x0,n0,c0,rfl⟩:=EW h 2 rfl
 rw[sQ]
 refine h.box fun jp w8 h=>?_
 have h:Rel B' w8 [Z6 dp si kv,O1 c U4 (ccs dp 1 st),Y3 M3 (.slice x0 n0 c0) (l.map ofL),O1 jp Y4 (jcs dp c (.slice x0 n0 c0) ⟨l,b,false,st⟩)]:=h
 have h:=h.imp (i:=2) (e:=ZH M3 (.slice x0 n0 c0) (l.map ofL)) rfl fun B hB=>ZH.of hB
 refine yes ⟨l,b,false,st⟩ c jp _ rfl ?_
 have h:Rel B' w8 (Ey0 dp c jp ⟨l,b,false,st⟩ ⟨.slice x0 n0 c0,rfl⟩++[Z6 dp si kv]):=h.pick [1,3,2,0] (by decide)
 exact(JB.close _ h).pick [1,0] (by decide)
end
end Go.Proofs.YtngbebnhegcokaaGreatDoor

namespace Go.Proofs.YtngbebnhegcokaaGreatDoor
open Go.RowKit
set_option maxRecDepth 100000
abbrev bU:=MK
structure CO where
 fl:List bU
 sp:Int
 deriving DecidableEq
def fg0:bU:=⟨0,0,⟨#[]⟩⟩
def lU(a:Int):Bool:=decide (0≤a)&&decide (a<16)
def gu0(sp a:Int):Int:=IntKind.wrap .i64 (BitVec.ofInt 64 (sp.fdiv (2 ^ min a.toNat 64)) &&& BitVec.ofInt 64 1).toNat
def vZ(s:CO)(a b:Int):Bool:=lU a&&(lU b&&decide (gu0 s.sp a=gu0 s.sp b))
def xV(s:CO)(p:bU):Int×CO :=
 if lU p.from_=true∧lU p.to_=true∧p.from_≠p.to_ then
  if vZ s p.from_ p.to_=true then
   if s.fl.length<500 then(0,{ s with fl:=s.fl++[p] }) else(6,s)
  else(10,s)
 else(1,s)
def rmS(s:CO)(i:Nat):CO:={ s with fl:=s.fl.take i++s.fl.drop (i+1) }
def atS(s:CO)(i:Int):Option (Nat×bU):=if 0≤i then(s.fl[i.toNat]?).map fun p=>(i.toNat,p) else none
def aA(s:CO)(i:Int):(bU×Int)×CO :=
 match atS s i with
 | some (n,p)=>if vZ s p.from_ p.to_=true then((p,0),rmS s n) else((fg0,10),rmS s n)
 | none=>((fg0,4),s)
theorem Zw0{s:CO}{i:Int}{n:Nat}{p:bU}(h:atS s i=some (n,p)):i=n∧∃hn:n<s.fl.length,s.fl[n]=p:=by
 unfold atS at h
 split at h
 ·rename_i c
  cases hq:s.fl[i.toNat]? with
  | none=>rw[hq] at h;cases h
  | some q =>
   rw[hq] at h
   simp only[Option.map_some,Option.some.injEq,Prod.mk.injEq] at h
   obtain⟨rfl,rfl⟩:=h
   obtain⟨h1,h2⟩:=List.getElem?_eq_some_iff.1 hq
   exact⟨by omega,h1,h2⟩
 ·cases h
theorem IE0{s:CO}{n:Nat}(hn:n<s.fl.length):atS s n=some (n,s.fl[n]):=by
 unfold atS
 rw[if_pos (by omega),Int.toNat_natCast,List.getElem?_eq_getElem hn]
 rfl
theorem sB0{s:CO}{i:Int}(h:i<0):atS s i=none:=by
 unfold atS
 rw[if_neg (by omega)]
theorem tB0{s:CO}{i:Int}(h:(s.fl.length:Int)≤i):atS s i=none:=by
 unfold atS
 rw[if_pos (by omega),List.getElem?_eq_none (by omega)]
 rfl
theorem Sv0{s:CO}{p:bU}(h:s.fl.length≤500):(xV s p).2.fl.length≤500:=by
 unfold xV
 split
 ·split
  ·split
   ·show (s.fl++[p]).length≤500
    rw[List.length_append]
    show s.fl.length+1≤500
    omega
   ·exact h
  ·exact h
 ·exact h
theorem WC0{s:CO}{n:Nat}(h:s.fl.length≤500):(rmS s n).fl.length≤500:=by
 unfold rmS
 rw[List.length_append,List.length_take,List.length_drop]
 omega
abbrev ncs(v:Value)(sp:Int):Array Value:=#[v,.int .i64 sp]
def CF0(p:Nat)(s:CO)(v:SV):List Dat:=[O1 p UA (ncs v.1 s.sp),Y3 K5 v.1 s.fl]
def KD(p:Nat)(s:CO):Dat:=Dat.ex fun v:SV=>eF (CF0 p s v)
section
variable {B:Base} {w:World} {σ τ:List Dat} {p:Nat} {s:CO} {K:Value→World→Prop}
theorem KD.open(h:Rel B w (KD p s :: τ)):∃v,Rel B w (CF0 p s v++τ):=by
 obtain⟨v,h⟩:=h.ex (i:=0) rfl
 exact⟨v,Rel.nS h⟩
theorem KD.close(v:SV)(h:Rel B w (CF0 p s v++τ)):Rel B w (KD p s :: τ) :=
 (Rel.RL h).imp (i:=0) (e:=KD p s) rfl fun B hB=>⟨v,hB⟩
theorem KD.jP(h:KD p s B):∃v:SV,O1 p UA (ncs v.1 s.sp) B∧O4 v.1 s.fl B:=by
 obtain⟨v,h⟩:=h
 exact⟨v,eF.get (j:=0) h rfl,Y3.read (eF.get (j:=1) h rfl)⟩
theorem zz0{v:Value}{l:List bU}(hl:l.length≤1000000){i:Nat}(hi:i<l.length):Does Tryz.prog B (Y3 K5 v l) (Z0 eB #[v,.int .i64 i,.int .i64 ((i:Int)+1)]) fun u e' τ=>e'=Y3 K5 u (l.take i++l.drop (i+1))∧τ=[]:=by
 refine Does.intro fun B' w K base h k=>?_
 obtain⟨c,h⟩:=h
 have hr:YB c 1 w K5 v l:=Y3.own (h.own 0 _ rfl)
 replace k:∀c' v' w',Step (only 1) c w c' w'→YB c' 1 w' K5 v' (l.take i++l.drop (i+1))→K v' w':=fun c' v' w' st hr=>k _ _ [] w' ⟨rfl,rfl⟩ ⟨c',h.step (i:=0) rfl st hr.Y3⟩
 clear h base
 rw[show ((i:Int)+1)=((i+1:Nat):Int) from rfl]
 generalize hj:i+1=j at k
 replace hj:i<j∧j≤l.length:=by omega
 obtain⟨hij,hj⟩:=hj
 refine O_.up ?_
 unfold O_.pt
 have hne:¬((i:Int)=(j:Int)):=by omega
 have szP:Enc.sz bU=3:=rfl
 rcases hr.cases with⟨rfl,rfl⟩ | ⟨g,cap,cur,rfl,hb,hc,hm,hs,htk⟩
 ·simp at hj;omega
 ·simp only[Sa0 JV,slice3 (α:=bU) QA (show i≤j by omega) hj hc,F7,hne,decide_false,d_]
  obtain⟨v2,hv2,hr2⟩:=hr.read.cut QA (lov:=some (.int .i64 j)) (hiv:=none) Bnd.some Bnd.none hj (Nat.le_refl _)
  rw[List.take_length] at hr2
  have e1:∀{Kp:Value→Prop},M0 Tryz.prog (y9 X6 (.slice (some ⟨g,0,none⟩) l.length cap) none (some (.int .i64 i)) none) Kp=Kp (.slice (some ⟨g,0,none⟩) i cap):=fun {Kp} =>
   F5 fun w=>by
    have:=yN (α:=bU) (P:=Tryz.prog) (a:=some ⟨g,0,none⟩) (len:=l.length) (cap:=cap) (lo:=0) (hi:=i) (lov:=none) (hiv:=some (.int .i64 i)) QA Bnd.none Bnd.some (Nat.zero_le _) (by omega) w
    rw[this]
    simp [addr_add]
  simp only[e1,hv2]
  have hld:(l.drop j).length=l.length-j:=by simp
  refine gc0 QA hb.tick hr2.tick (n:=i) (by omega) hs fun w1 st1 hb1=>?_
  have e2:∀{Kp:Value→Prop},M0 Tryz.prog (y9 X6 (.slice (some ⟨g,0,none⟩) (i+(l.drop j).length) cap) (some (.int .i64 ((i+(l.drop j).length:Nat):Int))) (some (.int .i64 (l.length:Int))) none) Kp=Kp (.slice (some ⟨g,(i+(l.drop j).length) * 3,none⟩) (l.length-(i+(l.drop j).length)) (cap-(i+(l.drop j).length))):=fun {Kp} =>
   F5 fun w=>by
    have:=yN (α:=bU) (P:=Tryz.prog) (a:=some ⟨g,0,none⟩) (len:=i+(l.drop j).length) (cap:=cap) (lo:=i+(l.drop j).length) (hi:=l.length) QA Bnd.some Bnd.some (by omega) hc w
    rw[this,if_neg (by omega)]
    simp [addr_add]
    rfl
  simp only[Sa0 JV,e2]
  have hlen:((cur.toList.take (i * Enc.sz bU)++flat (l.drop j)++cur.toList.drop ((i+(l.drop j).length) * Enc.sz bU)).toArray).size=cap * 3:=by
   simp only[List.size_toArray,List.length_append,List.length_take,List.length_drop,Array.length_toList,N7,hs,szP]
   omega
  refine oi0 QA hb1 (by rw[hlen];show _≤cap * 3;try rw[szP];omega) fun w2 cur2 st2 hb2 hs2 ht2=>?_
  refine k c _ w2 ((Step.tick _ c w).trans (st1.trans st2)) (YB.mk_ hb2 (by simp;omega) (by omega) hm (by rw[hs2,hlen];rfl) ?_)
  rw[show (i+(l.drop j).length) * Enc.sz bU=(i+(l.drop j).length) * 3 from rfl,ht2,dF,←oF,←htk,List.take_take]
  rw[Nat.min_eq_left (Nat.mul_le_mul_right _ (by omega))]
  exact List.take_left' (by simp only[List.length_append,List.length_take,Array.length_toList,N7,hs,szP];omega)
theorem bz0:Makes Tryz.prog B (Z0 ZZ #[]) fun u τ=>∃p,u=ptr p∧τ=[KD p ⟨[],0⟩]:=by
 refine Makes.intro fun B' w K base h k=>?_
 refine Qd0.up ?_
 unfold Qd0.pt
 rw[Cm0]
 refine h.box fun b w1 h=>?_
 have h:=h.VC bU K5
 exact k _ _ _ ⟨b,rfl,rfl⟩ (KD.close (s:=⟨[],0⟩) (τ:=[]) ⟨.slice none 0 0,rfl⟩ h)
theorem Zr0(a:Int):Gives Tryz.prog B (Z0 uR #[.int .i64 a]) (.bool (lU a)):=by
 refine Gives.intro fun B' w K base h k=>?_
 refine Sd0.up ?_
 unfold Sd0.pt lU at *
 rw[FC,K3]
 refine⟨fun c=>?_,fun c=>?_⟩
 ·rw[G6]
  rw[decide_eq_true (p:=0≤a) (by omega),Bool.true_and] at k
  exact k _ _ h
 ·rw[decide_eq_false (p:=0≤a) (by omega),Bool.false_and] at k
  exact k _ _ h
theorem sy0(hs:KD p s B)(x y:Int):Gives Tryz.prog B (Z0 MN #[ptr p,.int .i64 x,.int .i64 y]) (.bool (vZ s x y)):=by
 refine Gives.intro fun B' w K base h k=>?_
 replace hs:=base hs
 obtain⟨v,c0,c1⟩:=KD.jP hs
 refine WQ.up ?_
 unfold WQ.pt
 have h:=h.tick
 generalize tick w=w at *
 refine h.ask (fun B2 own base2=>Zr0 x) fun w1 h=>?_
 unfold vZ at k
 rw[R5]
 refine⟨fun hx=>?_,fun hx=>?_⟩
 case refine_2=>rw[hx,Bool.false_and] at k;exact k _ _ h
 refine h.ask (fun B2 own base2=>Zr0 y) fun w2 h=>?_
 rw[R5]
 refine⟨fun hy=>?_,fun hy=>?_⟩
 case refine_2=>rw[hy,Bool.false_and,Bool.and_false] at k;exact k _ _ h
 rw[hx,hy,Bool.true_and,Bool.true_and] at k
 have hx0:0≤x:=by simp [lU] at hx;exact hx.1
 have hy0:0≤y:=by simp [lU] at hy;exact hy.1
 simp -zeta only[J5,U0 mn0,Nat.zero_add]
 rw[O1.ld (h.L6 c0) Y2 (o:=1) (v := .int .i64 s.sp) rfl,QW hx0,fZ,O1.ld (h.L6 c0) Y2 (o:=1) (v := .int .i64 s.sp) rfl,QW hy0,fZ,F7]
 exact k _ _ h
theorem YF0(hl:s.fl.length≤500)(f t:Int)(b:ByteArray):Does Tryz.prog B (KD p s) (Z0 FR #[ptr p,.int .i64 f,.int .i64 t,.string b]) fun u e' τ=>u = .int .i64 (xV s ⟨f,t,b⟩).1∧e'=KD p (xV s ⟨f,t,b⟩).2∧τ=[]:=by
 refine Does.intro fun B' w K base h k=>?_
 refine XQ.up ?_
 unfold XQ.pt
 unfold xV at k
 simp only at k
 have no:¬(lU f=true∧lU t=true∧f≠t)→∀w',Rel B' w' [KD p s]→K (.int .i64 1) w':=fun c w' h=>k _ _ [] _ (by rw[if_neg c];exact⟨rfl,rfl,rfl⟩) h
 refine h.ask (fun B2 own base2=>Zr0 f) fun w1 h=>?_
 rw[V7,G5,R5]
 refine⟨fun c1=>?_,fun c1=>no (fun hh=>by rw[hh.1] at c1;cases c1) _ h⟩
 refine h.ask (fun B2 own base2=>Zr0 t) fun w2 h=>?_
 rw[V7,G5,R5]
 refine⟨fun c2=>?_,fun c2=>no (fun hh=>by rw[hh.2.1] at c2;cases c2) _ h⟩
 rw[F7,K3]
 refine⟨fun c3=>no (fun hh=>hh.2.2 c3) _ h,fun c3=>?_⟩
 rw[if_pos ⟨c1,c2,c3⟩] at k
 refine h.ask (fun B2 own base2=>sy0 (own (i:=0) rfl) f t) fun w3 h=>?_
 rw[V7,G5,R5]
 refine⟨fun c4=>?_,fun c4=>?_⟩
 case refine_2=>rw[if_neg (by rw[c4];decide)] at k;exact k _ _ [] _ ⟨rfl,rfl,rfl⟩ h
 rw[if_pos c4] at k
 obtain⟨v,h⟩:=KD.open h
 have h:Rel B' w3 [O1 p UA (ncs v.1 s.sp),Y3 K5 v.1 s.fl]:=h
 simp -zeta only[J5,U0 dW,Nat.zero_add]
 rw[h.ld 0 rfl SC (o:=0) (v:=v.1) rfl,O4.len (Y3.read (h.here (i:=1) rfl)) QA,FC,K3]
 refine⟨fun c5=>?_,fun c5=>?_⟩
 ·rw[if_neg (by omega)] at k
  exact k _ _ [] _ ⟨rfl,rfl,rfl⟩ (KD.close v h)
 rw[if_pos (by omega)] at k
 rw[h.ld 0 rfl SC (o:=0) (v:=v.1) rfl,uX]
 refine h.WS (α:=bU) 1 rfl ⟨f,t,b⟩ QA (by decide) (by omega) (by omega) fun v' w5 h=>?_
 have hv1:v'.oneCell'=true:=h.oneCell (i:=1) rfl
 refine h.st 0 rfl SC (o:=0) (show 0<2 by omega) hv1 fun w6 h=>?_
 exact k _ _ [] _ ⟨rfl,rfl,rfl⟩ (KD.close (s:={ s with fl:=s.fl++[⟨f,t,b⟩] }) ⟨v',hv1⟩ h)
theorem zB0(hs:KD p s B):Gives Tryz.prog B (Z0 jQ #[ptr p]) (.int .i64 s.fl.length):=by
 refine Gives.intro fun B' w K base h k=>?_
 replace hs:=base hs
 obtain⟨v,c0,c1⟩:=KD.jP hs
 refine AP.up ?_
 unfold AP.pt
 simp -zeta only[J5,U0 dW,Nat.zero_add]
 rw[O1.ld (h.L6 c0) SC (o:=0) (v:=v.1) rfl,O4.len c1 QA]
 exact k _ _ h
theorem lC0(hl:s.fl.length≤500)(i:Int):Does Tryz.prog B (KD p s) (Z0 GR #[ptr p,.int .i64 i]) fun u e' τ=>τ=[]∧(match atS s i with | some (n,q)=>u = .tuple #[.agg q.cs.toArray,.bool true]∧e'=KD p (rmS s n) | none=>u = .tuple #[.agg fg0.cs.toArray,.bool false]∧e'=KD p s):=by
 refine Does.intro fun B' w K base h k=>?_
 refine YQ.up ?_
 unfold YQ.pt
 obtain⟨v,h⟩:=KD.open h
 have h:Rel B' w [O1 p UA (ncs v.1 s.sp),Y3 K5 v.1 s.fl]:=h
 refine h.alloc BL fun t w1 h=>?_
 have h:Rel B' w1 [O1 p UA (ncs v.1 s.sp),Y3 K5 v.1 s.fl,O1 t K5 fg0.cs.toArray]:=h
 have no:atS s i=none→∀w',Rel B' w' [O1 p UA (ncs v.1 s.sp),Y3 K5 v.1 s.fl,O1 t K5 fg0.cs.toArray] →
   M0 Tryz.prog (H6 K5 #[]) fun t18=>upK Tryz.prog (I4 K5 (.pointer (some ⟨t,0,none⟩)) t18) w' fun _ w2=>U9 Tryz.prog (do loadVar K5 (←asAddr (.pointer (some ⟨t,0,none⟩)))) w2 fun t4=>K (.tuple #[t4,(.bool false)]) w2:=by
  intro c w' h
  rw[c] at k
  rw[TR]
  refine h.YG 2 rfl a_ rfl rfl (fun x hx=>Enc.one fg0 x hx) fun w8 h=>?_
  rw[qJ h 2 rfl a_ rfl]
  exact k _ _ [] _ ⟨rfl,rfl,rfl⟩ (KD.close v (h.take 2))
 rw[G6,K3]
 refine⟨fun c1=>no (sB0 c1) _ h,fun c1=>?_⟩
 simp -zeta only[J5,U0 dW,Nat.zero_add]
 rw[h.ld 0 rfl SC (o:=0) (v:=v.1) rfl,O4.len (Y3.read (h.here (i:=1) rfl)) QA,FC,K3]
 refine⟨fun c2=>no (tB0 (by omega)) _ h,fun c2=>?_⟩
 clear no
 obtain⟨n,rfl⟩:∃n:Nat,i=n:=⟨i.toNat,by omega⟩
 have hn:n<s.fl.length:=by omega
 rw[IE0 hn] at k
 rw[h.ld 0 rfl SC (o:=0) (v:=v.1) rfl]
 obtain⟨g,og,hx,hc⟩:=O4.idx (Y3.read (h.here (i:=1) rfl)) QA (P:=Tryz.prog) hn
 rw[hx,K6.r9 (xs:=s.fl[n].cs) hc a_ rfl]
 clear hx hc
 generalize s.fl[n]=q at *
 refine h.R8 (ds:=q.cs.toArray) BL rfl a_ rfl (fun x hx=>Enc.one q x hx) fun b w4 h=>?_
 rw[h.ld 0 rfl SC (o:=0) (v:=v.1) rfl,Z5,E5 (by omega) (by omega)]
 refine h.act 1 rfl (fun B2 own base2=>zz0 (by omega) hn) fun u e' τ w5 hp h=>?_
 obtain⟨rfl,rfl⟩:=hp
 have hu:u.oneCell'=true:=h.oneCell (i:=1) rfl
 refine h.st 0 rfl SC (o:=0) (show 0<2 by omega) hu fun w6 h=>?_
 rw[h.r9 3 rfl a_ rfl]
 refine h.YG 2 rfl a_ rfl rfl (fun x hx=>Enc.one q x hx) fun w8 h=>?_
 rw[qJ h 2 rfl a_ rfl]
 exact k _ _ [] _ ⟨rfl,rfl,rfl⟩ (KD.close (s:=rmS s n) ⟨u,hu⟩ (h.take 2))
theorem uu0(hl:s.fl.length≤500)(i:Int):Does Tryz.prog B (KD p s) (Z0 KN #[ptr p,.int .i64 i]) fun u e' τ=>u = .tuple #[.agg (aA s i).1.1.cs.toArray,.int .i64 (aA s i).1.2]∧e'=KD p (aA s i).2∧τ=[]:=by
 refine Does.intro fun B' w K base h k=>?_
 refine LM.up ?_
 unfold LM.pt
 unfold aA at k
 refine h.alloc BL fun t w1 h=>?_
 have h:Rel B' w1 [KD p s,O1 t K5 fg0.cs.toArray]:=h
 refine h.act 0 rfl (fun B2 own base2=>lC0 hl i) fun u e' τ w2 hp h=>?_
 obtain⟨rfl,hp⟩:=hp
 cases ha:atS s i with
 | none =>
  rw[ha] at hp k
  obtain⟨rfl,rfl⟩:=hp
  rw[M9,D9]
  refine h.R8 (ds:=fg0.cs.toArray) BL rfl a_ rfl (fun x hx=>Enc.one fg0 x hx) fun b w4 h=>?_
  rw[V7,G5,R5]
  refine⟨(fun c=>by cases c),fun _=>?_⟩
  rw[TR]
  refine h.YG 1 rfl a_ rfl rfl (fun x hx=>Enc.one fg0 x hx) fun w8 h=>?_
  rw[qJ h 1 rfl a_ rfl]
  exact k _ _ [] _ ⟨rfl,rfl,rfl⟩ (h.take 1)
 | some nq =>
  obtain⟨n,q⟩:=nq
  rw[ha] at hp k
  obtain⟨rfl,rfl⟩:=hp
  simp only at k
  rw[M9,D9]
  refine h.R8 (ds:=q.cs.toArray) BL rfl a_ rfl (fun x hx=>Enc.one q x hx) fun b w4 h=>?_
  rw[V7,G5,R5]
  refine⟨fun _=>?_,fun c=>by cases c⟩
  simp -zeta only[U0 af0,U0 aW,Nat.zero_add]
  rw[h.ld 2 rfl Y2 (o:=0) (v := .int .i64 q.from_) rfl,h.ld 2 rfl Y2 (o:=1) (v := .int .i64 q.to_) rfl]
  have e:vZ (rmS s n) q.from_ q.to_=vZ s q.from_ q.to_:=rfl
  refine h.ask (fun B2 own base2=>sy0 (own (i:=0) rfl) q.from_ q.to_) fun w5 h=>?_
  rw[e,V7,G5,R5]
  refine⟨fun c=>?_,fun c=>?_⟩
  ·rw[if_pos c] at k
   rw[h.r9 2 rfl a_ rfl]
   refine h.YG 1 rfl a_ rfl rfl (fun x hx=>Enc.one q x hx) fun w8 h=>?_
   rw[qJ h 1 rfl a_ rfl]
   exact k _ _ [] _ ⟨rfl,rfl,rfl⟩ (h.take 1)
  ·rw[if_neg (by rw[c];decide)] at k
   rw[TR]
   refine h.YG 1 rfl a_ rfl rfl (fun x hx=>Enc.one fg0 x hx) fun w8 h=>?_
   rw[qJ h 1 rfl a_ rfl]
   exact k _ _ [] _ ⟨rfl,rfl,rfl⟩ (h.take 1)
end
end Go.Proofs.YtngbebnhegcokaaGreatDoor

namespace Go.Proofs.YtngbebnhegcokaaGreatDoor
open Go.RowKit
set_option maxRecDepth 100000
noncomputable def GY(s:Bs):uB:=if aO (D8 (H5 ⟨s,false⟩).2).2=true then⟨(H5 ⟨s,false⟩).1,ofL (D8 (H5 ⟨s,false⟩).2).1⟩ else⟨0,⟨#[]⟩⟩
noncomputable def eE0(s:RS):SN:=⟨(H5 s).1,(H5 (H5 s).2).1⟩
noncomputable def tZ(c:CS):SN:=if 0<c.slot then eE0 ⟨bl c.value,false⟩ else⟨0,-1⟩
section
variable {B:Base} {w:World} {σ τ:List Dat} {K:Value→World→Prop}
theorem Tq0(hB:qC B){s:Bs}(hs:s.length≤100000000):Gives Tryz.prog B (Z0 NN #[.string (ofL s)]) (.tuple #[.agg (GY s).cs.toArray,.bool (aO (D8 (H5 ⟨s,false⟩).2).2)]):=by
 refine Gives.intro fun B' w K base h k=>?_
 replace hB:=base hB
 refine MM.up ?_
 unfold MM.pt
 have h1:(H5 ⟨s,false⟩).2.rest.length≤s.length:=YD ⟨s,false⟩
 unfold GY at k
 refine h.alloc CL fun t w1 h=>?_
 refine h.make (fun B2 own base2=>WT) fun u τ w2 hp h=>?_
 obtain⟨p,rfl,rfl⟩:=hp
 have h:Rel B' w2 [O1 t X3 (⟨0,⟨#[]⟩⟩:uB).cs.toArray,rdD p ⟨s,false⟩]:=h
 refine h.rd_ 1 rfl (fun B2 own base2=>mD (base2 hB) (show s.length≤_ by omega)) fun w3 h=>?_
 refine h.rd_ 1 rfl (fun B2 own base2=>iR (base2 hB) (by omega)) fun w4 h=>?_
 generalize (H5 ⟨s,false⟩).1=n at *
 generalize D8 (H5 ⟨s,false⟩).2=q at *
 obtain⟨x,s2⟩:=q
 simp only at h k ⊢
 rw[UR]
 refine h.R8 (ds:=(⟨n,ofL x⟩:uB).cs.toArray) CL rfl S9 rfl (fun v hv=>Enc.one (⟨n,ofL x⟩:uB) v hv) fun b w5 h=>?_
 refine h.ask (fun B2 own base2=>dR (s:=s2) (own (i:=1) rfl)) fun w6 h=>?_
 rw[V7,G5,R5]
 refine⟨fun c=>?_,fun c=>?_⟩
 ·rw[if_pos c,c] at k
  rw[h.r9 2 rfl S9 rfl]
  refine h.YG 0 rfl S9 rfl rfl (fun v hv=>Enc.one (⟨n,ofL x⟩:uB) v hv) fun w7 h=>?_
  rw[qJ h 0 rfl S9 rfl]
  exact k _ _ h.nil
 ·rw[if_neg (by rw[c];decide),c] at k
  rw[Am0]
  refine h.YG 0 rfl S9 rfl rfl (fun v hv=>Enc.one (⟨0,⟨#[]⟩⟩:uB) v hv) fun w7 h=>?_
  rw[qJ h 0 rfl S9 rfl]
  exact k _ _ h.nil
theorem lF0(hB:qC B){c dp:Nat}{f:Int}{st:CS}(hv:st.value.size≤100000)(hc:O1 c U4 (ccs dp f st) B):Gives Tryz.prog B (Z0 EU #[ptr c]) (.agg (tZ st).cs.toArray):=by
 refine Gives.intro fun B' w K base h k=>?_
 replace hB:=base hB
 replace hc:=base hc
 refine ZU.up ?_
 unfold ZU.pt
 refine h.alloc oh0 fun t w1 h=>?_
 have h:Rel B' w1 [O1 t O5 (⟨0,0⟩:SN).cs.toArray]:=h
 refine h.ask (fun B2 own base2=>QD0 (base2 hc)) fun w2 h=>?_
 rw[M9,D9,V7,G5,K3]
 unfold tZ at k
 refine⟨fun c1=>?_,fun c1=>?_⟩
 case refine_2 =>
  rw[if_neg c1] at k
  rw[Ah0]
  refine h.YG 0 (ds:=(⟨0,-1⟩:SN).cs.toArray) rfl fC rfl rfl (fun v hv=>Enc.one (⟨0,-1⟩:SN) v hv) fun w7 h=>?_
  rw[qJ h 0 rfl fC rfl]
  exact k _ _ h.nil
 rw[if_pos c1] at k
 have e:Z0 S_ #[.string st.value]=Z0 S_ #[.string (ofL (bl st.value))]:=by rw[pO]
 rw[e]
 refine h.make (fun B2 own base2=>WT (t:=bl st.value)) fun u τ w2 hp h=>?_
 obtain⟨p,rfl,rfl⟩:=hp
 have hl:(bl st.value).length≤100000:=by rw[aP];exact hv
 have h1:(H5 ⟨bl st.value,false⟩).2.rest.length≤(bl st.value).length:=YD ⟨bl st.value,false⟩
 unfold eE0 at k
 refine h.rd_ 1 rfl (fun B2 own base2=>mD (base2 hB) (show (bl st.value).length≤_ by omega)) fun w3 h=>?_
 refine h.rd_ 1 rfl (fun B2 own base2=>mD (base2 hB) (by omega)) fun w4 h=>?_
 generalize (H5 ⟨bl st.value,false⟩).1=x at *
 generalize (H5 (H5 ⟨bl st.value,false⟩).2)=y at *
 rw[rQ]
 refine h.YG 0 (ds:=(⟨x,y.1⟩:SN).cs.toArray) rfl fC rfl rfl (fun v hv=>Enc.one (⟨x,y.1⟩:SN) v hv) fun w7 h=>?_
 rw[qJ h 0 rfl fC rfl]
 exact k _ _ h.nil
theorem Op0(hB:qC B){dp cp jp:Nat}{j:JP}(h0:JB dp cp jp j B)(hj:JOk j):Makes Tryz.prog B (Z0 iQ #[ptr jp]) fun u τ=>τ=[Y3 X3 u (j.list.map GY)]:=by
 refine Makes.intro fun B' w K base h k=>?_
 replace hB:=base hB
 replace h0:=base h0
 refine xP.up ?_
 unfold xP.pt
 have hjf:=hj.form
 have hjb:=hj.bytes
 have hjc:=fP j.list
 refine h.make (fun B2 own base2=>qF0 (base2 h0) (by omega)) fun v τ w1 hp h=>?_
 subst hp
 have h:Rel B' w1 [Y3 M3 v (j.list.map ofL)]:=h
 have h:=h.VC uB X3
 have hml:(j.list.map ofL).length=j.list.length:=List.length_map ..
 rw[O4.len (Y3.read (h.here (i:=0) rfl)) K7,hml]
 refine F6 (fun z w'=>∃(i:Nat) (u:Value),i≤j.list.length∧z=(u,.int .i64 i,())∧Rel B' w' [Y3 M3 v (j.list.map ofL),Y3 X3 u ((j.list.take i).map GY)])
  (fun z _=>j.list.length-(match z.2.1 with | .int _ n=>n.toNat | _=>0)) ⟨0,_,Nat.zero_le _,rfl,h⟩ ?_
 clear h
 rintro z w2 ⟨i,u,hi,rfl,h⟩ next hnext
 simp -zeta only[G6,K3]
 refine⟨fun hlt=>?_,fun hge=>?_⟩
 case refine_2 =>
  have:i=j.list.length:=by omega
  subst this
  rw[List.take_length] at h
  exact k _ _ _ rfl (h.pick [1] (by decide))
 have hil:i<j.list.length:=by omega
 have hil2:i<(j.list.map ofL).length:=by omega
 obtain⟨g,o,hx,hc⟩:=O4.idx (Y3.read (h.here (i:=0) rfl)) K7 (P:=Tryz.prog) hil2
 rw[hx,K6.ld0 hc U6 (v := .string (j.list.map ofL)[i]) rfl,List.getElem_map]
 clear hx hc
 have hlen:(j.list[i]).length≤16777216:=by
  have h1:(yB j.list[i]).length≤(H8 j.list).length:=by
   have:=QE yB j.list (i+1)
   rw[XW yB _ hil,List.length_append] at this
   show _≤(j.list.flatMap yB).length
   omega
  have h2:(j.list[i]).length≤(yB j.list[i]).length:=by unfold yB;simp only[List.length_append,List.length_cons];omega
  omega
 refine h.ask (fun B2 own base2=>Tq0 (base2 hB) (s:=j.list[i]) (by omega)) fun w3 h=>?_
 rw[M9,D9]
 have htk:(j.list.take (i+1)).map GY=(j.list.take i).map GY++[GY j.list[i]]:=by
  rw[List.take_succ_eq_append_getElem hil,List.map_append]
  rfl
 have htl:((j.list.take i).map GY).length=i:=by rw[List.length_map,List.length_take];omega
 generalize GY j.list[i]=x at *
 refine h.R8 (ds:=x.cs.toArray) CL rfl S9 rfl (fun v hv=>Enc.one x v hv) fun b w5 h=>?_
 rw[h.r9 2 rfl S9 rfl]
 refine h.WS (α:=uB) 1 rfl x u6 (by decide) (by rw[htl];omega) (by rw[htl];omega) fun v' w14 h=>?_
 rw[Z5,E5 (by omega) (by omega)]
 refine hnext _ _ ⟨i+1,v',hil,rfl,?_⟩ (by simp only;omega)
 rw[htk]
 exact h.take 2
end
end Go.Proofs.YtngbebnhegcokaaGreatDoor

