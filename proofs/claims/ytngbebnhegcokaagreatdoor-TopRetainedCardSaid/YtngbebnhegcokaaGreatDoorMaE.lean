/-
  Part 5 of the proof that TopRetained holds, for the parts that follow; made small by program out of longer texts. No condition.
-/
import Derived.Deep.DeepHandedRow
import Derived.Deep.Slices
import Derived.Deep.Strs
import Derived.Ground.GgzProg
import Derived.Ground.Names2Prog
import Derived.Ground.NamesProg
import Derived.JoinedCond
import Derived.KernelRfl
import Derived.Laws.BytesString
import Derived.Laws.Externs
import Derived.Lib.AtoiAll
import Derived.Lib.AtoiAllCases
import Derived.Lib.ItoaNum
import Derived.Lib.LaidTab
import Derived.Lib.RowBridge
import Derived.Maps.RangeRun
import Derived.OpenShut
import Derived.OrdersHeld
import Derived.ProofKit
import Derived.Scope
import Derived.Shelf.Lay
import Derived.Shelf.SlIterI.Nil
import Derived.Shelf.SlMaps.Clone
import Derived.Shelf.Slices.CompactI
import Derived.Shelf.Slices.In.SortNone
import Derived.Shelf.Small.Strs
import Derived.Shelf.Small.Wraps
import Derived.Shelf.Sort.Plain
import Derived.Shelf.Strconv.AtoiAll
import Derived.Shelf.Strconv.Itoa3
import Derived.Shelf.Strings.BuilderK
import Derived.Test.YtngbebnhegcokaaGreatDoorCards
import Derived.Test.YtngbebnhegcokaaGreatDoorProg
import Derived.Test.YtngbebnhegcokaaGreatDoorRows
import Derived.Test.YtngbebnhegcokaaGreatDoorTie
import Derived.WalkKit
import Derived.WideLaws
import Derived.Test.YtngbebnhegcokaaGreatDoorMaD
namespace Go.Proofs.YtngbebnhegcokaaGreatDoor
open Go.RowKit
set_option maxRecDepth 100000
structure UpP where
 j:JP
 c:CS
 r:G8
structure UH where
 d:DS
 kv:Value
 up:Option UpP
noncomputable def jo0(s:DS):DS×(Option (JP×CS)×Int):=match rM s with
 | (s1,(none,e))=>(s1,(none,e))
 | (s1,(some j,_))=>match EQ s1 2 with
  | (none,e)=>(s1,(none,e))
  | (some c,_)=>(s1,(some (j,c),0))
noncomputable def aY(s:DS):DS×(Option (JP×CS)×Int):=if(L9 s 2).2≠0 then((L9 s 2).1,(none,(L9 s 2).2)) else jo0 (L9 s 2).1
noncomputable def LC0(id:Int)(j:JP)(c:CS):Option UpP:=if UY id (tZ c) (j.list.map GY) then some ⟨j,c,newR id (tZ c) (j.list.map GY)⟩ else none
noncomputable def upM(id:Int)(kv:Value)(s:DS):UH×Int:=match aY s with
 | (s1,(none,e))=>(⟨s1,kv,none⟩,e)
 | (s1,(some (j,c),_))=>(⟨s1,kv,LC0 id j c⟩,0)
structure MQ where
 dp:Nat
 jc:Nat
 jp:Nat
 cp:Nat
 rp:Nat
def Oy0(q:MQ)(m:UH):List Dat:=match m.up with
 | none=>[Z6 q.dp m.d m.kv]
 | some u=>[Z6 q.dp m.d m.kv,JB q.dp q.jc q.jp u.j,O1 q.cp U4 (ccs q.dp 2 u.c),bA q.rp u.r]
def u_(q:MQ)(m:UH):Dat:=eF (Oy0 q m)
def NB(cs:Array Value)(o:Nat)(q:MQ)(up:Bool):Prop :=
 cs.toList[o]? = some (ptr q.dp)∧if up=true then cs.toList[o+1]? = some (ptr q.jp)∧cs.toList[o+2]? = some (ptr q.cp)∧cs.toList[o+3]? = some (ptr q.rp) else(∃a,cs.toList[o+1]? = some (.pointer a))∧(∃b,cs.toList[o+2]? = some (.pointer b))∧cs.toList[o+3]? = some (.pointer none)
theorem NB.yes{cs:Array Value}{o:Nat}{q:MQ}(h0:cs.toList[o]? = some (ptr q.dp))(h1:cs.toList[o+1]? = some (ptr q.jp))(h2:cs.toList[o+2]? = some (ptr q.cp))(h3:cs.toList[o+3]? = some (ptr q.rp)):NB cs o q true:=⟨h0,by rw[if_pos rfl];exact⟨h1,h2,h3⟩⟩
theorem NB.no{cs:Array Value}{o:Nat}{q:MQ}(h0:cs.toList[o]? = some (ptr q.dp))(h1:∃a,cs.toList[o+1]? = some (.pointer a))(h2:∃b,cs.toList[o+2]? = some (.pointer b))(h3:cs.toList[o+3]? = some (.pointer none)):NB cs o q false:=⟨h0,by rw[if_neg (by decide)];exact⟨h1,h2,h3⟩⟩
def IC(cs cs':Array Value)(o:Nat):Prop:=cs'.size=cs.size∧∀k,(k<o∨o+4≤k)→cs'.toList[k]? = cs.toList[k]?
theorem IC.refl(cs:Array Value)(o:Nat):IC cs cs o:=⟨rfl,fun _ _=>rfl⟩
theorem IC.trans{a b c:Array Value}{o:Nat}(h:IC a b o)(h':IC b c o):IC a c o:=⟨h'.1.trans h.1,fun k hk=>(h'.2 k hk).trans (h.2 k hk)⟩
theorem IC.set{a b:Array Value}{o k:Nat}{v:Value}(h:IC a b o)(hk:o≤k∧k<o+4):IC a (b.setIfInBounds k v) o :=
 ⟨by rw[Array.size_setIfInBounds];exact h.1,fun i hi=>by
  rw[Array.toList_setIfInBounds,List.getElem?_set_ne (by omega)]
  exact h.2 i hi⟩
theorem XK{a:Array Value}{k:Nat}{v:Value}(hk:k<a.size):(a.setIfInBounds k v).toList[k]? = some v:=by
 rw[Array.toList_setIfInBounds,List.getElem?_set_self (by rw[Array.length_toList];exact hk)]
theorem Z_{a:Array Value}{k i:Nat}{v:Value}(h:i≠k):(a.setIfInBounds k v).toList[i]? = a.toList[i]? := by
 rw[Array.toList_setIfInBounds,List.getElem?_set_ne (by omega)]
theorem lo0{s s':DS}{j:JP}{e:Int}(hd:DOk s)(h:rM s=(s',(some j,e))):JOk j∧e=0:=by
 unfold rM at h
 split at h
 ·cases h
 split at h
 ·cases h
 simp only[Prod.mk.injEq] at h
 obtain⟨_,h⟩:=h
 have hd2:DOk (L9 (L9 s 0).1 1).1:=(hd.L9 0).L9 1
 generalize (L9 (L9 s 0).1 1).1=s2 at *
 unfold sW at h
 split at h
 ·cases h
 unfold io0 at h
 split at h
 ·cases h
 split at h
 ·cases h
 split at h
 ·cases h
 split at h
 ·cases h
 rename_i c _ _ _ _ h3 h4
 have hrf:=wg0 hd2 0 0 (VF c).1.1
 cases h
 refine⟨⟨?_,?_⟩,rfl⟩
 ·show 0≤(VF c).1.1∧(VF c).1.1≤16777216
  omega
 ·show ((H8 (vU (bl (LD s2 0 0 (VF c).1.1).1) (VF c).1.2).1).length:Int)=(VF c).1.1
  have h3:(vU (bl (LD s2 0 0 (VF c).1.1).1) (VF c).1.2).2=true:=by
   cases hq:(vU (bl (LD s2 0 0 (VF c).1.1).1) (VF c).1.2).2
   ·exact absurd hq h3
   ·rfl
  have hr:H8 (vU (bl (LD s2 0 0 (VF c).1.1).1) (VF c).1.2).1=bl (LD s2 0 0 (VF c).1.1).1:=by
   unfold vU at h3
   rw[Bool.and_eq_true,Bool.and_eq_true] at h3
   exact of_decide_eq_true h3.2.2
  rw[hr,aP]
  omega
section
variable {B:Base} {w:World} {σ τ:List Dat} {pg dp o:Nat} {s:DS} {kv:Value} {cs:Array Value} {K:Value→World→Prop}
def fnV(F:FuncId)(cap:Array Value):SV:=⟨.func (.func F) #[] cap,rfl⟩
theorem zn0{B:Base}{v:Value}{fs:List SV}(q:O4 v fs B)(h:Rel B w σ){i:Nat}(hi:i<fs.length){K:Value→Prop} :
  (M0 Tryz.prog (I5 n_ v (.int .i64 i)) fun t10=>Y0 Tryz.prog (X0 TA t10) w K)=K fs[i].1:=by
 obtain⟨g,o,hx,hc⟩:=O4.idx q IE (P:=Tryz.prog) hi
 rw[hx,K6.ld0 (h.L6 hc) MZ (v:=fs[i].1) rfl]
theorem wv0{s s':DS}{e:Int}(h:rM s=(s',(none,e))):e≠0:=by
 unfold rM at h
 split at h
 ·cases h;assumption
 split at h
 ·cases h;assumption
 simp only[Prod.mk.injEq] at h
 obtain⟨_,h⟩:=h
 unfold sW at h
 split at h
 ·rename_i hq
  cases h
  exact db0 hq
 unfold io0 at h
 split at h
 ·cases h;decide
 split at h
 ·cases h;assumption
 split at h
 ·cases h;decide
 split at h
 ·cases h;decide
 cases h
theorem Ef0(s:DS):(rM s).1.keep=s.keep:=by
 unfold rM
 split
 ·exact cB s 0
 split
 ·exact(cB _ 1).trans (cB s 0)
 ·exact(cB _ 1).trans (cB s 0)
set_option maxHeartbeats 4000000 in
theorem JF0(hT:VT B)(hW:qC B)(hP:VI B)(r:O4 kv s.keep B)(hkl:s.keep.length≤1000000)(id:Int)(hcs:cs.size=14)(ho:o+4≤14)(hdp:cs.toList[o]? = some (ptr dp))(hp1:∃a,cs.toList[o+1]? = some (.pointer a))(hp2:∃b,cs.toList[o+2]? = some (.pointer b))(hup:cs.toList[o+3]? = some (.pointer none)) :
  Both Tryz.prog B (O1 pg K4 cs) (Z6 dp s kv) (Z0 bH #[.pointer (some ⟨pg,o,none⟩),.int .i64 id]) fun u d1 d2=>u = .int .i64 (upM id kv s).2∧∃q cs',q.dp=dp∧d1=O1 pg K4 cs'∧d2=u_ q (upM id kv s).1∧NB cs' o q (upM id kv s).1.up.isSome∧IC cs cs' o:=by
 refine Both.intro fun B' w K base h k=>?_
 replace hT:=base hT
 replace hW:=base hW
 replace hP:=base hP
 replace r:=base r
 refine OJ.up ?_
 unfold OJ.pt
 have hdk:DOk s:=(Z6.ok (h.here (i:=1) rfl)).1
 refine h.box fun m2 w1 h=>?_
 have h:Rel B' w1 ([O1 pg K4 cs,Z6 dp s kv]++[O1 m2 Y5 #[.pointer (some ⟨pg,o,none⟩)]]):=h
 obtain⟨B2,ext2,h,hm2⟩:=h.Bn0
 have up2:∀{d:Dat},d B'→d B2:=fun hd=>Dat.mono _ ext2.le hd
 replace k:∀(u:Value) (d1 d2:Dat) (w':World),(u = .int .i64 (upM id kv s).2∧∃q cs',q.dp=dp∧d1=O1 pg K4 cs'∧d2=u_ q (upM id kv s).1∧NB cs' o q (upM id kv s).1.up.isSome∧IC cs cs' o)→Rel B2 w' [d1,d2]→K u w':=fun u d1 d2 w' hp h=>k u d1 d2 w' hp (ext2.rel h)
 replace hT:=up2 hT
 replace hW:=up2 hW
 replace hP:=up2 hP
 replace r:=up2 r
 clear up2 ext2 base
 refine h.alloc EX fun j5 w2 h=>?_
 refine h.alloc ei0 fun c6 w3 h=>?_
 have h:Rel B2 w3 [O1 pg K4 cs,Z6 dp s kv,O1 j5 I7 #[.pointer none],O1 c6 V8 #[.pointer none]]:=h
 rw[TI,TI,TI]
 refine h.NV ([fnV aD #[ptr m2],fnV bD #[ptr m2,ptr j5],fnV dD #[ptr m2,ptr c6]]:List SV) IE fun v w4 h=>?_
 obtain⟨B3,ext3,h,hrow⟩:=h.Bn0
 have up3:∀{d:Dat},d B2→d B3:=fun hd=>Dat.mono _ ext3.le hd
 replace k:∀(u:Value) (d1 d2:Dat) (w':World),(u = .int .i64 (upM id kv s).2∧∃q cs',q.dp=dp∧d1=O1 pg K4 cs'∧d2=u_ q (upM id kv s).1∧NB cs' o q (upM id kv s).1.up.isSome∧IC cs cs' o)→Rel B3 w' [d1,d2]→K u w':=fun u d1 d2 w' hp h=>k u d1 d2 w' hp (ext3.rel h)
 replace hT:=up3 hT
 replace hW:=up3 hW
 replace hP:=up3 hP
 replace r:=up3 r
 replace hm2:=up3 hm2
 clear up3 ext3
 replace hrow:=Y3.read hrow
 have main:∀K1:Value→World→Prop,
   (∀(s':DS) (e:Int) (w':World),e≠0→aY s=(s',(none,e))→Rel B3 w' [O1 pg K4 cs,Z6 dp s' kv]→K1 (.int .i64 e) w') →
   (∀(s':DS) (j:JP) (c:CS) (jc jp cp:Nat) (w':World),aY s=(s',(some (j,c),0))→JOk j→c.value.size≤65536→Rel B3 w' [O1 pg K4 cs,Z6 dp s' kv,O1 j5 I7 #[ptr jp],O1 c6 V8 #[ptr cp],JB dp jc jp j,O1 cp U4 (ccs dp 2 c)]→K1 (.int .i64 0) w') →
   upK Tryz.prog (Z0 oP #[v]) w4 K1:=by
  intro K1 bad good
  clear k
  refine qN.up ?_
  unfold qN.pt
  rw[O4.len hrow IE]
  have i0:∀{Kp:Value→Prop} {w':World},Rel B3 w' []→(M0 Tryz.prog (I5 n_ v (.int .i64 (0:Int))) fun t10=>Y0 Tryz.prog (X0 TA t10) w' Kp)=Kp (fnV aD #[ptr m2]).1:=fun {Kp w'} h=>zn0 hrow h (i:=0) (show 0<3 by omega)
  have i1:∀{Kp:Value→Prop} {w':World},Rel B3 w' []→(M0 Tryz.prog (I5 n_ v (.int .i64 (1:Int))) fun t10=>Y0 Tryz.prog (X0 TA t10) w' Kp)=Kp (fnV bD #[ptr m2,ptr j5]).1:=fun {Kp w'} h=>zn0 hrow h (i:=1) (show 1<3 by omega)
  have i2:∀{Kp:Value→Prop} {w':World},Rel B3 w' []→(M0 Tryz.prog (I5 n_ v (.int .i64 (2:Int))) fun t10=>Y0 Tryz.prog (X0 TA t10) w' Kp)=Kp (fnV dD #[ptr m2,ptr c6]).1:=fun {Kp w'} h=>zn0 hrow h (i:=2) (show 2<3 by omega)
  refine⟨4,?_⟩
  rw[iter,G6,K3]
  refine⟨fun _=>?_,fun c=>absurd (show (0:Int)<((3:Nat):Int) by decide) c⟩
  rw[i0 h.nil]
  refine YH (?_:upK Tryz.prog (Z0 aD #[ptr m2]) w4 _)
  refine qH.up ?_
  unfold qH.pt
  rw[O1.ld (h.L6 hm2) I_ (o:=0) (v := .pointer (some ⟨pg,o,none⟩)) rfl]
  simp -zeta only[J5,U0 kF,Nat.add_zero]
  rw[h.ld 0 rfl H_ (o:=o) hdp]
  refine h.act 1 rfl (fun B2 own base2=>ba0 (base2 r) hkl 2) fun u e' τ w5 hp h=>?_
  obtain⟨rfl,rfl,rfl⟩:=hp
  have hk1:=cB s 2
  have hd1:=hdk.L9 2
  unfold aY at bad good
  generalize hs1:L9 s 2=x1 at *
  obtain⟨s1,e1⟩:=x1
  simp only at hk1 hd1 bad good h ⊢
  rw[Q7,G5,K3]
  refine⟨fun c=>?_,fun c=>bad s1 e1 _ c (by rw[if_pos c]) (h.take 2)⟩
  subst c
  rw[if_neg (fun hh=>hh rfl)] at bad good
  rw[Z5,E5 (by omega) (by omega)]
  rw[iter,G6,K3]
  refine⟨fun _=>?_,fun c=>absurd (show (0+1:Int)<((3:Nat):Int) by decide) c⟩
  rw[show (0+1:Int)=1 from rfl,i1 h.nil]
  refine YH (?_:upK Tryz.prog (Z0 bD #[ptr m2,ptr j5]) w5 _)
  refine rH.up ?_
  unfold rH.pt
  rw[O1.ld (h.L6 hm2) I_ (o:=0) (v := .pointer (some ⟨pg,o,none⟩)) rfl]
  simp -zeta only[J5,U0 kF,Nat.add_zero]
  rw[h.ld 0 rfl H_ (o:=o) hdp]
  rw[←hk1] at r hkl
  refine h.act 1 rfl (fun B2 own base2=>EC0 (base2 hT) (base2 hW) (base2 hP) (base2 r) hkl) fun u e' τ w6 hp h=>?_
  obtain⟨rfl,hp⟩:=hp
  have hk2:=Ef0 s1
  unfold jo0 at bad good
  cases hoj:rM s1 with
  | mk s2 oe =>
  obtain⟨oj,e2⟩:=oe
  rw[hoj] at hp h hk2 bad good
  simp only at hp h hk2 bad good
  cases oj with
  | none =>
   simp only at hp bad
   obtain⟨rfl,rfl⟩:=hp
   rw[M9,D9]
   refine h.st 2 rfl R7 (o:=0) (show 0<1 by omega) rfl fun w7 h=>?_
   rw[Q7,G5,K3]
   exact⟨fun c=>absurd c (wv0 hoj),fun c=>bad s2 e2 _ c rfl (h.take 2)⟩
  | some j =>
   simp only at hp bad good
   obtain⟨jc,jp,rfl,rfl⟩:=hp
   obtain⟨hjok,he2⟩:=lo0 hd1 hoj
   subst he2
   rw[M9,D9]
   refine h.st 2 rfl R7 (o:=0) (show 0<1 by omega) rfl fun w7 h=>?_
   have h:Rel B3 w7 [O1 pg K4 cs,Z6 dp s2 kv,O1 j5 I7 #[ptr jp],O1 c6 V8 #[.pointer none],JB dp jc jp j]:=h
   rw[Q7,G5,K3]
   refine⟨fun _=>?_,fun c=>absurd rfl c⟩
   rw[Z5,E5 (by omega) (by omega)]
   rw[iter,G6,K3]
   refine⟨fun _=>?_,fun c=>absurd (show (1+1:Int)<((3:Nat):Int) by decide) c⟩
   rw[show (1+1:Int)=2 from rfl,i2 h.nil]
   refine YH (?_:upK Tryz.prog (Z0 dD #[ptr m2,ptr c6]) w7 _)
   refine sH.up ?_
   unfold sH.pt
   rw[O1.ld (h.L6 hm2) I_ (o:=0) (v := .pointer (some ⟨pg,o,none⟩)) rfl]
   simp -zeta only[J5,U0 kF,Nat.add_zero]
   rw[h.ld 0 rfl H_ (o:=o) hdp]
   refine h.make (fun B2 own base2=>Jr0 (base2 hT) (own (i:=1) rfl) 2) fun u τ w8 hp h=>?_
   rcases hp with⟨cp,st,hos,rfl,rfl⟩ | ⟨hos,rfl,rfl⟩
   case inr =>
    cases hq:EQ s2 2 with
    | mk a e3 =>
    rw[hq] at hos bad
    simp only at hos
    subst hos
    simp only at bad ⊢
    rw[M9,D9]
    refine h.st 3 rfl p9 (o:=0) (show 0<1 by omega) rfl fun w9 h=>?_
    rw[Q7,G5,K3]
    exact⟨fun c=>absurd c (db0 hq),fun c=>bad s2 e3 _ c rfl (h.take 2)⟩
   rw[hos] at good
   simp only at good
   rw[M9,D9]
   refine h.st 3 rfl p9 (o:=0) (show 0<1 by omega) rfl fun w9 h=>?_
   rw[Q7,G5,K3]
   refine⟨fun _=>?_,fun c=>absurd rfl c⟩
   rw[Z5,E5 (by omega) (by omega)]
   rw[iter,G6,K3]
   refine⟨fun c=>absurd c (show ¬(2+1:Int)<((3:Nat):Int) by decide),fun _=>?_⟩
   exact good s2 j st jc jp cp _ rfl hjok (fj0 hos) h
 unfold upM at k
 refine main _ (fun s' e w' he hu h=>?_) (fun s' j c jc jp cp w' hu hj hcv h=>?_)
 ·clear main
  rw[hu] at k
  simp only at k
  refine P6 fun J hJ=>?_
  rw[F7,K3]
  refine⟨fun c=>absurd c he,fun _=>hJ _ _ ?_⟩
  have h:Rel B3 w' ([O1 pg K4 cs]++[Z6 dp s' kv]):=h
  exact k _ _ _ _ ⟨rfl,⟨dp,0,0,0,0⟩,cs,rfl,rfl,rfl,NB.no hdp hp1 hp2 hup,IC.refl _ _⟩ h.iU
 clear main
 rw[hu] at k
 simp only at k
 refine P6 fun J hJ=>?_
 rw[F7,K3]
 refine⟨fun _=>?_,fun c=>absurd rfl c⟩
 have h:=h.tick
 generalize tick w'=w' at *
 have im:∀{w':World} {σ:List Dat},Rel B3 w' σ→Is Tryz.prog (X0 Y5 (.pointer (some ⟨m2,0,none⟩))) (.pointer (some ⟨pg,o,none⟩)) w':=fun h=>O1.is (h.L6 hm2) I_ (o:=0) rfl
 rw[O1.ld (h.L6 hm2) I_ (o:=0) (v := .pointer (some ⟨pg,o,none⟩)) rfl]
 rw[O1.ld (h.L6 hm2) I_ (o:=0) (v := .pointer (some ⟨pg,o,none⟩)) rfl]
 rw[O1.ld (h.L6 hm2) I_ (o:=0) (v := .pointer (some ⟨pg,o,none⟩)) rfl]
 rw[h.ld 2 rfl R7 (o:=0) (v:=ptr jp) rfl]
 rw[h.ld 3 rfl p9 (o:=0) (v:=ptr cp) rfl]
 rw[h.ld 3 rfl p9 (o:=0) (v:=ptr cp) rfl]
 rw[h.ld 2 rfl R7 (o:=0) (v:=ptr jp) rfl]
 refine h.ask (fun B2 own base2=>lF0 (base2 hW) (st:=c) (by omega) (own (i:=5) rfl)) fun w1 h=>?_
 refine⟨h.is 2 rfl R7 (o:=0) rfl,h.is 3 rfl p9 (o:=0) rfl,h.is 2 rfl R7 (o:=0) rfl,im h,im h,im h,?_⟩
 refine h.make (fun B2 own base2=>Op0 (base2 hW) (own (i:=4) rfl) hj) fun u τ w2 hp h=>?_
 subst hp
 refine⟨h.is 3 rfl p9 (o:=0) rfl,h.is 2 rfl R7 (o:=0) rfl,im h,im h,im h,?_⟩
 have hfc:=fP j.list
 have hjf:=hj.form
 have hjb:=hj.bytes
 have hll:(j.list.map GY).length≤1000000000:=by rw[List.length_map];omega
 refine h.make (fun B2 own base2=>dz0 id (tZ c) (Y3.read (own (i:=6) rfl)) hll) fun rv τ w3 hp h=>?_
 unfold LC0 at k
 simp -zeta only[J5,U0 gI,U0 dP,U0 lF]
 have hels:∀(rv:Value),IC cs (((cs.setIfInBounds (o+1) (ptr jp)).setIfInBounds (o+2) (ptr cp)).setIfInBounds (o+3) rv) o:=fun rv=>(((IC.refl cs o).set (by omega)).set (by omega)).set (by omega)
 have a0:∀(rv:Value),(((cs.setIfInBounds (o+1) (ptr jp)).setIfInBounds (o+2) (ptr cp)).setIfInBounds (o+3) rv).toList[o]? = some (ptr dp):=fun rv=>by
  rw[Z_ (by omega),Z_ (by omega),Z_ (by omega)];exact hdp
 have a1:∀(rv:Value),(((cs.setIfInBounds (o+1) (ptr jp)).setIfInBounds (o+2) (ptr cp)).setIfInBounds (o+3) rv).toList[o+1]? = some (ptr jp):=fun rv=>by
  rw[Z_ (by omega),Z_ (by omega),XK (by omega)]
 have a2:∀(rv:Value),(((cs.setIfInBounds (o+1) (ptr jp)).setIfInBounds (o+2) (ptr cp)).setIfInBounds (o+3) rv).toList[o+2]? = some (ptr cp):=fun rv=>by
  rw[Z_ (by omega),XK (by rw[Array.size_setIfInBounds];omega)]
 have a3:∀(rv:Value),(((cs.setIfInBounds (o+1) (ptr jp)).setIfInBounds (o+2) (ptr cp)).setIfInBounds (o+3) rv).toList[o+3]? = some rv:=fun rv=>by
  rw[XK (by rw[Array.size_setIfInBounds,Array.size_setIfInBounds];omega)]
 by_cases ok:UY id (tZ c) (j.list.map GY)
 ·rw[if_pos ok] at hp k
  obtain⟨rp,rfl,rfl⟩:=hp
  refine⟨h.is 3 rfl p9 (o:=0) rfl,h.is 2 rfl R7 (o:=0) rfl,im h,im h,im h,?_⟩
  refine h.st 0 rfl R7 (o:=o+1) (by omega) rfl fun w4 h=>?_
  refine⟨h.is 3 rfl p9 (o:=0) rfl,im h,im h,?_⟩
  refine h.st 0 rfl p9 (o:=o+2) (by rw[Array.size_setIfInBounds];omega) rfl fun w5 h=>?_
  refine⟨im h,?_⟩
  refine h.st 0 rfl P8 (o:=o+3) (by rw[Array.size_setIfInBounds,Array.size_setIfInBounds];omega) rfl fun w6 h=>?_
  refine hJ _ _ ?_
  have h:Rel B3 w6 ([O1 pg K4 (((cs.setIfInBounds (o+1) (ptr jp)).setIfInBounds (o+2) (ptr cp)).setIfInBounds (o+3) (ptr rp))]++[Z6 dp s' kv,JB dp jc jp j,O1 cp U4 (ccs dp 2 c),bA rp (newR id (tZ c) (j.list.map GY))]):=h.pick [0,1,4,5,7] (by decide)
  exact k _ _ _ _ ⟨rfl,⟨dp,jc,jp,cp,rp⟩,_,rfl,rfl,rfl,NB.yes (a0 _) (a1 _) (a2 _) (a3 _),hels _⟩ h.iU
 ·rw[if_neg ok] at hp k
  obtain⟨rfl,rfl⟩:=hp
  refine⟨h.is 3 rfl p9 (o:=0) rfl,h.is 2 rfl R7 (o:=0) rfl,im h,im h,im h,?_⟩
  refine h.st 0 rfl R7 (o:=o+1) (by omega) rfl fun w4 h=>?_
  refine⟨h.is 3 rfl p9 (o:=0) rfl,im h,im h,?_⟩
  refine h.st 0 rfl p9 (o:=o+2) (by rw[Array.size_setIfInBounds];omega) rfl fun w5 h=>?_
  refine⟨im h,?_⟩
  refine h.st 0 rfl P8 (o:=o+3) (by rw[Array.size_setIfInBounds,Array.size_setIfInBounds];omega) rfl fun w6 h=>?_
  refine hJ _ _ ?_
  have h:Rel B3 w6 ([O1 pg K4 (((cs.setIfInBounds (o+1) (ptr jp)).setIfInBounds (o+2) (ptr cp)).setIfInBounds (o+3) (.pointer none))]++[Z6 dp s' kv]):=h.pick [0,1] (by decide)
  exact k _ _ _ _ ⟨rfl,⟨dp,0,0,0,0⟩,_,rfl,rfl,rfl,NB.no (a0 _) ⟨_,a1 _⟩ ⟨_,a2 _⟩ (a3 _),hels _⟩ h.iU
end
end Go.Proofs.YtngbebnhegcokaaGreatDoor

namespace Go.Proofs.YtngbebnhegcokaaGreatDoor
open Go.RowKit
set_option maxRecDepth 100000
def YL(m:UH)(u:UpP)(o:vE):(DS×CS)×Int:=if o.save=true then CX m.d u.c 2 (UT o.hard.term o.hard.vote) else((m.d,u.c),0)
def FW(s:DS)(j:JP)(o:vE):(DS×JP)×Int :=
 if(PV s j (min (o.from_-1) j.list.length)).2≠0 then PV s j (min (o.from_-1) j.list.length)
 else IJ (PV s j (min (o.from_-1) j.list.length)).1.1 (PV s j (min (o.from_-1) j.list.length)).1.2 (o.recs.map d9)
def vS(s:DS)(j:JP)(e:Int)(o:vE):(DS×JP)×Int:=if e=0∧0<o.from_ then FW s j o else((s,j),e)
def Wl0(m:UH)(u:UpP)(c:CS)(x:(DS×JP)×Int):UH×Int:=if x.2≠0 then(⟨x.1.1,m.kv,none⟩,x.2) else(⟨x.1.1,m.kv,some ⟨x.1.2,c,u.r⟩⟩,0)
def XE(m:UH)(u:UpP)(o:vE):UH×Int:=Wl0 m u (YL m u o).1.2 (vS (YL m u o).1.1 u.j (YL m u o).2 o)
structure jB0 (o:vE):Prop where
 hard:inI o.hard.term∧inI o.hard.vote
 from_:o.from_≤1000000
 few:o.recs.length≤100
 recs:∀x∈o.recs,MR x
theorem fo0{s:DS}{j:JP}{b n:Int}(hj:JOk j):JOk (FL s j b n).1.2:=⟨hj.bytes,hj.form⟩
theorem qk0{s:DS}{j:JP}{n:Int}(hj:JOk j):JOk (PV s j n).1.2:=by
 unfold PV
 split
 ·exact hj
 split
 ·exact hj
 split
 ·exact hj
 split
 ·refine⟨?_,rfl⟩
  have:=sZ j.list n.toNat
  have h1:=hj.bytes
  have h2:=hj.form
  show 0≤((H8 (j.list.take n.toNat)).length:Int)∧((H8 (j.list.take n.toNat)).length:Int)≤16777216
  omega
 ·exact fo0 hj
theorem we0{s:DS}{j:JP}{l:List Bs}(hj:JOk j):JOk (IJ s j l).1.2:=by
 unfold IJ
 split
 ·exact hj
 split
 ·exact hj
 split
 ·exact hj
 rename_i h3
 split
 ·unfold bZ
  split
  ·have h1:=hj.bytes
   have h2:=hj.form
   refine⟨?_,?_⟩
   ·show 0≤j.bytes+((H8 l).length:Int)∧j.bytes+((H8 l).length:Int)≤16777216
    omega
   ·show ((H8 (j.list++l)).length:Int)=j.bytes+((H8 l).length:Int)
    unfold H8 at h2 ⊢
    rw[List.flatMap_append,List.length_append]
    omega
  ·exact fo0 hj
 ·exact⟨hj.bytes,hj.form⟩
theorem bX(s:DS)(j:JP)(b n:Int):(FL s j b n).1.1.keep=s.keep:=Ki0 _ _ _ _
theorem Fa0(s:DS)(j:JP)(n:Int):(PV s j n).1.1.keep=s.keep:=by
 unfold PV
 split
 ·rfl
 split
 ·rfl
 split
 ·rfl
 split
 ·exact bX _ _ _ _
 ·exact bX _ _ _ _
theorem Gf0(s:DS)(j:JP)(t:ByteArray):(wsJ s j t).1.keep=s.keep:=by
 unfold wsJ
 split
 ·exact(cB _ _).trans (GG _ _ _ _)
 ·exact GG _ _ _ _
theorem al0(s:DS)(j:JP)(l:List Bs):(IJ s j l).1.1.keep=s.keep:=by
 unfold IJ
 split
 ·rfl
 split
 ·rfl
 split
 ·rfl
 split
 ·unfold bZ
  split
  ·exact(bX _ _ _ _).trans (Gf0 _ _ _)
  ·exact(bX _ _ _ _).trans (Gf0 _ _ _)
 ·exact Gf0 _ _ _
theorem zc0(m:UH)(u:UpP)(o:vE):(YL m u o).1.1.keep=m.d.keep:=by
 unfold YL
 split
 ·exact Ki0 _ _ _ _
 ·rfl
section
variable {B:Base} {w:World} {σ τ:List Dat} {pg o:Nat} {q:MQ} {m:UH} {cs:Array Value} {K:Value→World→Prop}
theorem bG0(hcs:cs.size=14)(ho:o+4≤14):Does Tryz.prog B (O1 pg K4 cs) (Z0 IL #[.pointer (some ⟨pg,o,none⟩)]) fun _ e' τ=>τ=[]∧∃cs',e'=O1 pg K4 cs'∧IC cs cs' o∧cs'.toList[o]? = cs.toList[o]? ∧ cs'.toList[o+1]? = some (.pointer none)∧cs'.toList[o+2]? = some (.pointer none)∧cs'.toList[o+3]? = some (.pointer none):=by
 refine Does.intro fun B' w K base h k=>?_
 refine QJ.up ?_
 unfold QJ.pt
 simp -zeta only[J5,U0 gI,U0 dP,U0 lF]
 refine h.st 0 rfl R7 (o:=o+1) (by omega) rfl fun w4 h=>?_
 refine h.st 0 rfl p9 (o:=o+2) (by rw[Array.size_setIfInBounds];omega) rfl fun w5 h=>?_
 refine h.st 0 rfl P8 (o:=o+3) (by rw[Array.size_setIfInBounds,Array.size_setIfInBounds];omega) rfl fun w6 h=>?_
 refine k _ _ [] _ ⟨rfl,_,rfl,(((IC.refl cs o).set (by omega)).set (by omega)).set (by omega),?_,?_,?_,?_⟩ h
 ·rw[Z_ (by omega),Z_ (by omega),Z_ (by omega)]
 ·rw[Z_ (by omega),Z_ (by omega),XK (by omega)]
 ·rw[Z_ (by omega),XK (by rw[Array.size_setIfInBounds];omega)]
 ·rw[XK (by rw[Array.size_setIfInBounds,Array.size_setIfInBounds];omega)]
theorem NB.at0{up:Bool}(h:NB cs o q up):cs.toList[o]? = some (ptr q.dp):=h.1
theorem NB.at1(h:NB cs o q true):cs.toList[o+1]? = some (ptr q.jp):=by have:=h.2;rw[if_pos rfl] at this;exact this.1
theorem NB.at2(h:NB cs o q true):cs.toList[o+2]? = some (ptr q.cp):=by have:=h.2;rw[if_pos rfl] at this;exact this.2.1
theorem NB.at3(h:NB cs o q true):cs.toList[o+3]? = some (ptr q.rp):=by have:=h.2;rw[if_pos rfl] at this;exact this.2.2
theorem NB.FF0(h:NB cs o q false):cs.toList[o+3]? = some (.pointer none):=by have:=h.2;rw[if_neg (by decide)] at this;exact this.2.2
theorem NB.kH0(h:NB cs o q false):∃a,cs.toList[o+1]? = some (.pointer a):=by have:=h.2;rw[if_neg (by decide)] at this;exact this.1
theorem NB.lH0(h:NB cs o q false):∃a,cs.toList[o+2]? = some (.pointer a):=by have:=h.2;rw[if_neg (by decide)] at this;exact this.2.1
set_option maxHeartbeats 4000000 in
theorem gD0(hT:VT B)(hP:VI B)(r:O4 m.kv m.d.keep B)(hkl:m.d.keep.length≤1000000){u:UpP}(hu:m.up=some u)(hj:JOk u.j)(hcs:cs.size=14)(ho:o+4≤14)(hat:NB cs o q true){out:vE}{rv sv:SV}(hf:jB0 out)(qr:O4 rv.1 out.recs B) :
  Both Tryz.prog B (O1 pg K4 cs) (u_ q m) (Z0 lK #[.pointer (some ⟨pg,o,none⟩),.agg (f_ out rv.1 sv.1)]) fun v d1 d2=>v = .int .i64 (XE m u out).2∧∃cs',d1=O1 pg K4 cs'∧d2=u_ q (XE m u out).1∧NB cs' o q (XE m u out).1.up.isSome∧IC cs cs' o:=by
 refine Both.intro fun B' w K base h k=>?_
 replace hT:=base hT
 replace hP:=base hP
 replace r:=base r
 replace qr:=base qr
 refine NI.up ?_
 unfold NI.pt
 refine h.box fun m2 w1 h=>?_
 have h:Rel B' w1 ([O1 pg K4 cs,u_ q m]++[O1 m2 Y5 #[.pointer (some ⟨pg,o,none⟩)]]):=h
 obtain⟨B2,ext2,h,hm2⟩:=h.Bn0
 have up2:∀{d:Dat},d B'→d B2:=fun hd=>Dat.mono _ ext2.le hd
 replace k:∀(v:Value) (d1 d2:Dat) (w':World),(v = .int .i64 (XE m u out).2∧∃cs',d1=O1 pg K4 cs'∧d2=u_ q (XE m u out).1∧NB cs' o q (XE m u out).1.up.isSome∧IC cs cs' o)→Rel B2 w' [d1,d2]→K v w':=fun v d1 d2 w' hp h=>k v d1 d2 w' hp (ext2.rel h)
 replace hT:=up2 hT
 replace hP:=up2 hP
 replace r:=up2 r
 replace qr:=up2 qr
 clear up2 ext2 base
 refine h.box fun o3 w2 h=>?_
 have h:Rel B2 w2 ([O1 pg K4 cs,u_ q m]++[O1 o3 F3 (f_ out rv.1 sv.1)]):=h
 obtain⟨B3,ext3,h,ho3⟩:=h.Bn0
 have up3:∀{d:Dat},d B2→d B3:=fun hd=>Dat.mono _ ext3.le hd
 replace k:∀(v:Value) (d1 d2:Dat) (w':World),(v = .int .i64 (XE m u out).2∧∃cs',d1=O1 pg K4 cs'∧d2=u_ q (XE m u out).1∧NB cs' o q (XE m u out).1.up.isSome∧IC cs cs' o)→Rel B3 w' [d1,d2]→K v w':=fun v d1 d2 w' hp h=>k v d1 d2 w' hp (ext3.rel h)
 replace hT:=up3 hT
 replace hP:=up3 hP
 replace r:=up3 r
 replace qr:=up3 qr
 replace hm2:=up3 hm2
 clear up3 ext3
 have h:Rel B3 w2 [u_ q m,O1 pg K4 cs]:=h.pick [1,0] (by decide)
 unfold u_ Oy0 at h
 rw[hu] at h
 have h:=Rel.nS h
 have h:Rel B3 w2 [Z6 q.dp m.d m.kv,JB q.dp q.jc q.jp u.j,O1 q.cp U4 (ccs q.dp 2 u.c),bA q.rp u.r,O1 pg K4 cs]:=h
 have ldm:∀{Kp:Value→Prop} {w':World} {σ:List Dat},Rel B3 w' σ→Y0 Tryz.prog (X0 Y5 (.pointer (some ⟨m2,0,none⟩))) w' Kp=Kp (.pointer (some ⟨pg,o,none⟩)):=fun h=>O1.ld (h.L6 hm2) I_ (o:=0) rfl
 have im:∀{w':World} {σ:List Dat},Rel B3 w' σ→Is Tryz.prog (X0 Y5 (.pointer (some ⟨m2,0,none⟩))) (.pointer (some ⟨pg,o,none⟩)) w':=fun h=>O1.is (h.L6 hm2) I_ (o:=0) rfl
 have hfh:=hf.hard
 refine P6 fun J1 hJ1=>?_
 unfold XE at k
 have hk1:=zc0 m u out
 replace hJ1:∀w',Rel B3 w' [Z6 q.dp (YL m u out).1.1 m.kv,JB q.dp q.jc q.jp u.j,O1 q.cp U4 (ccs q.dp 2 (YL m u out).1.2),bA q.rp u.r,O1 pg K4 cs]→J1 (.int .i64 (YL m u out).2,()) w':=by
  intro w' h
  refine hJ1 _ _ ?_
  clear hJ1
  generalize YL m u out=x1 at *
  obtain⟨⟨s1,c1⟩,e1⟩:=x1
  simp only at h hk1 k ⊢
  rw[←hk1] at r hkl
  refine P6 fun J2 hJ2=>?_
  replace hJ2:∀w',Rel B3 w' [Z6 q.dp (vS s1 u.j e1 out).1.1 m.kv,JB q.dp q.jc q.jp (vS s1 u.j e1 out).1.2,O1 q.cp U4 (ccs q.dp 2 c1),bA q.rp u.r,O1 pg K4 cs]→J2 (.int .i64 (vS s1 u.j e1 out).2,()) w':=by
   intro w' h
   refine hJ2 _ _ ?_
   clear hJ2
   generalize vS s1 u.j e1 out=x2 at *
   obtain⟨⟨s2,j2⟩,e2⟩:=x2
   unfold Wl0 at k
   simp only at h k ⊢
   refine P6 fun J3 hJ3=>?_
   rw[Q7,G5,K3]
   refine⟨fun c=>?_,fun c=>?_⟩
   ·subst c
    rw[if_neg (fun hh=>hh rfl)] at k
    refine hJ3 _ _ ?_
    have h:=h.pick [4,0,1,2,3] (by decide)
    have h:Rel B3 w' ([O1 pg K4 cs]++[Z6 q.dp s2 m.kv,JB q.dp q.jc q.jp j2,O1 q.cp U4 (ccs q.dp 2 c1),bA q.rp u.r]):=h
    exact k _ _ _ _ ⟨rfl,cs,rfl,rfl,hat,IC.refl _ _⟩ h.iU
   ·rw[if_pos c] at k
    rw[ldm h]
    refine h.act 4 rfl (fun B2 own base2=>bG0 hcs ho) fun u2 e' τ w5 hp h=>?_
    obtain⟨rfl,cs',rfl,h1,h2,h4,h5,h3⟩:=hp
    refine hJ3 _ _ ?_
    have h:Rel B3 w5 ([O1 pg K4 cs']++[Z6 q.dp s2 m.kv]):=h.pick [4,0] (by decide)
    exact k _ _ _ _ ⟨rfl,cs',rfl,rfl,NB.no (h2.trans hat.at0) ⟨_,h4⟩ ⟨_,h5⟩ h3,h1⟩ h.iU
  clear k
  unfold vS at hJ2
  rw[F7,K3]
  refine⟨fun c=>?_,fun c=>?_⟩
  case refine_2=>rw[if_neg (fun hh=>c hh.1)] at hJ2;exact hJ2 _ h
  subst c
  simp -zeta only[U0 YV,U0 qc0,Nat.zero_add]
  rw[O1.ld (h.L6 ho3) Y2 (o:=3) (v := .int .i64 out.from_) rfl,x9,K3]
  refine⟨fun c=>?_,fun c=>?_⟩
  case refine_2=>rw[if_neg (fun hh=>c hh.2)] at hJ2;exact hJ2 _ h
  rw[if_pos ⟨rfl,c⟩] at hJ2
  refine h.alloc sr0 fun l6 w3 h=>?_
  have h:=h.VC ByteArray M3
  have h:Rel B3 w3 [Z6 q.dp s1 m.kv,JB q.dp q.jc q.jp u.j,O1 q.cp U4 (ccs q.dp 2 c1),bA q.rp u.r,O1 pg K4 cs,O1 l6 Z4 #[.slice none 0 0],Y3 M3 (.slice none 0 0) ([]:List ByteArray)]:=h
  rw[O1.ld (h.L6 ho3) X5 (o:=4) (v:=rv.1) rfl,O4.len qr u6]
  have hff:=hf.from_
  have hfw:=hf.few
  refine F6 (fun z w'=>∃(i:Nat) (v:Value),i≤out.recs.length∧z=(.int .i64 i,())∧Rel B3 w' [Z6 q.dp s1 m.kv,JB q.dp q.jc q.jp u.j,O1 q.cp U4 (ccs q.dp 2 c1),bA q.rp u.r,O1 pg K4 cs,O1 l6 Z4 #[v],Y3 M3 v (((out.recs.take i).map d9).map ofL)])
   (fun z _=>out.recs.length-(match z.1 with | .int _ n=>n.toNat | _=>0)) ⟨0,_,Nat.zero_le _,rfl,h⟩ ?_
  clear h
  rintro z w4 ⟨i,v,hi,rfl,h⟩ next hnext
  rw[G6,K3]
  refine⟨fun hlt=>?_,fun hge=>?_⟩
  ·have hil:i<out.recs.length:=by omega
   obtain⟨g,og,hx,hc⟩:=O4.idx qr u6 (P:=Tryz.prog) hil
   have hc:K6 g og out.recs[i].cs B3:=hc
   rw[hx,K6.r9 (h.L6 hc) S9 rfl]
   clear hx hc
   have hfx:=hf.recs _ (List.getElem_mem hil)
   have htk:((out.recs.take (i+1)).map d9).map ofL=((out.recs.take i).map d9).map ofL++[ofL (d9 out.recs[i])]:=by
    rw[List.take_succ_eq_append_getElem hil,List.map_append,List.map_append]
    rfl
   have htl:(((out.recs.take i).map d9).map ofL).length=i:=by rw[List.length_map,List.length_map,List.length_take];omega
   generalize out.recs[i]=x at *
   refine h.R8 (ds:=x.cs.toArray) CL rfl S9 rfl (fun v hv=>Enc.one x v hv) fun b w5 h=>?_
   have h:=h.tick
   generalize tick w5=w5 at *
   rw[h.ld 5 rfl K9 (o:=0) (v:=v) rfl,h.r9 7 rfl S9 rfl]
   refine h.ask (fun B2 own base2=>yg0 (base2 hP) hfx) fun w6 h=>?_
   refine⟨h.is 5 rfl K9 (o:=0) rfl,?_⟩
   refine h.XH (α:=ByteArray) (ofL (d9 x)) K7 (by decide) fun v1 w7 h=>?_
   refine⟨h.is 5 rfl K9 (o:=0) rfl,?_⟩
   refine h.append (α:=ByteArray) 6 rfl K7 (Rd.at 8 rfl) (by rw[htl];show (i+1) * _≤_;omega) (by rw[htl];show i+1≤_;omega) fun v2 w8 h=>?_
   have hv2:v2.oneCell'=true:=h.oneCell (i:=6) rfl
   refine h.st 5 rfl K9 (o:=0) (show 0<1 by omega) hv2 fun w9 h=>?_
   rw[Z5,E5 (by omega) (by omega)]
   refine hnext _ _ ⟨i+1,v2,hil,rfl,?_⟩ (by simp only;omega)
   rw[htk]
   exact h.take 7
  have:i=out.recs.length:=by omega
  subst this
  clear hnext hge
  rw[List.take_length] at h
  rw[TI,TI]
  refine h.NV ([fnV vB #[ptr m2,ptr o3],fnV wB #[ptr m2,ptr l6]]:List SV) IE fun fv w5 h=>?_
  have h:Rel B3 w5 ([Z6 q.dp s1 m.kv,JB q.dp q.jc q.jp u.j,O1 q.cp U4 (ccs q.dp 2 c1),bA q.rp u.r,O1 pg K4 cs,O1 l6 Z4 #[v],Y3 M3 v ((out.recs.map d9).map ofL)]++[Y3 TA fv [fnV vB #[ptr m2,ptr o3],fnV wB #[ptr m2,ptr l6]]]):=h
  obtain⟨B4,ext4,h,hrow⟩:=h.Bn0
  have up4:∀{d:Dat},d B3→d B4:=fun hd=>Dat.mono _ ext4.le hd
  replace hJ2:∀w',Rel B4 w' [Z6 q.dp (FW s1 u.j out).1.1 m.kv,JB q.dp q.jc q.jp (FW s1 u.j out).1.2,O1 q.cp U4 (ccs q.dp 2 c1),bA q.rp u.r,O1 pg K4 cs]→J2 (.int .i64 (FW s1 u.j out).2,()) w':=fun w' h=>hJ2 w' (ext4.rel h)
  replace hT:=up4 hT
  replace hP:=up4 hP
  replace r:=up4 r
  replace hm2:=up4 hm2
  replace ho3:=up4 ho3
  clear up4 ext4 ldm im
  replace hrow:=Y3.read hrow
  unfold FW at hJ2
  refine qN.up ?_
  unfold qN.pt
  rw[O4.len hrow IE]
  have i0:∀{Kp:Value→Prop} {w':World},Rel B4 w' []→(M0 Tryz.prog (I5 n_ fv (.int .i64 (0:Int))) fun t10=>Y0 Tryz.prog (X0 TA t10) w' Kp)=Kp (fnV vB #[ptr m2,ptr o3]).1:=fun {Kp w'} h=>zn0 hrow h (i:=0) (show 0<2 by omega)
  have i1:∀{Kp:Value→Prop} {w':World},Rel B4 w' []→(M0 Tryz.prog (I5 n_ fv (.int .i64 (1:Int))) fun t10=>Y0 Tryz.prog (X0 TA t10) w' Kp)=Kp (fnV wB #[ptr m2,ptr l6]).1:=fun {Kp w'} h=>zn0 hrow h (i:=1) (show 1<2 by omega)
  have ldm:∀{Kp:Value→Prop} {w':World} {σ:List Dat},Rel B4 w' σ→Y0 Tryz.prog (X0 Y5 (.pointer (some ⟨m2,0,none⟩))) w' Kp=Kp (.pointer (some ⟨pg,o,none⟩)):=fun h=>O1.ld (h.L6 hm2) I_ (o:=0) rfl
  have im:∀{w':World} {σ:List Dat},Rel B4 w' σ→Is Tryz.prog (X0 Y5 (.pointer (some ⟨m2,0,none⟩))) (.pointer (some ⟨pg,o,none⟩)) w':=fun h=>O1.is (h.L6 hm2) I_ (o:=0) rfl
  refine⟨3,?_⟩
  rw[iter,G6,K3]
  refine⟨fun _=>?_,fun c=>absurd (show (0:Int)<((2:Nat):Int) by decide) c⟩
  rw[i0 h.nil]
  refine YH (?_:upK Tryz.prog (Z0 vB #[ptr m2,ptr o3]) w5 _)
  refine yG.up ?_
  unfold yG.pt
  have h:=h.tick
  generalize tick w5=w5 at *
  rw[ldm h]
  simp -zeta only[J5,U0 gI,U0 YV,Nat.zero_add]
  rw[h.ld 4 rfl R7 (o:=o+1) hat.at1,O1.ld (h.L6 ho3) Y2 (o:=3) (v := .int .i64 out.from_) rfl,TB,E5 (by omega) (by omega),ldm h]
  simp -zeta only[J5,U0 gI,Nat.zero_add]
  rw[h.ld 4 rfl R7 (o:=o+1) hat.at1]
  refine h.ask (fun B2 own base2=>sF0 (own (i:=1) rfl)) fun w6 h=>?_
  refine⟨O1.is (h.L6 ho3) Y2 (o:=3) rfl,h.is 4 rfl R7 (o:=o+1) hat.at1,im h,?_⟩
  rw[YK]
  have h:=h.pick [2,3,4,5,6,0,1] (by decide)
  have h:Rel B4 w6 ([O1 q.cp U4 (ccs q.dp 2 c1),bA q.rp u.r,O1 pg K4 cs,O1 l6 Z4 #[v],Y3 M3 v ((out.recs.map d9).map ofL)]++[Z6 q.dp s1 m.kv,JB q.dp q.jc q.jp u.j]):=h
  refine h.zh0 (fun B2 own base2=>CG0 (base2 hT) (base2 hP) (base2 r) hkl hj (min (out.from_-1) u.j.list.length)) fun u2 d1 d2 w7 hp h=>?_
  obtain⟨rfl,rfl,rfl⟩:=hp
  have hk2:=Fa0 s1 u.j (min (out.from_-1) u.j.list.length)
  have hj2:JOk (PV s1 u.j (min (out.from_-1) u.j.list.length)).1.2:=qk0 hj
  generalize PV s1 u.j (min (out.from_-1) u.j.list.length)=x2 at *
  obtain⟨⟨s2,j2⟩,e2⟩:=x2
  simp only at h hk2 hj2 hJ2 ⊢
  rw[←hk2] at r hkl
  rw[Q7,G5,K3]
  refine⟨fun c2=>?_,fun c2=>?_⟩
  case refine_2 =>
   rw[if_pos c2] at hJ2
   exact hJ2 _ (h.pick [5,6,0,1,2] (by decide))
  rw[if_neg (fun hh=>hh c2)] at hJ2
  rw[Z5,E5 (by omega) (by omega)]
  rw[iter,G6,K3]
  refine⟨fun _=>?_,fun c=>absurd (show (0+1:Int)<((2:Nat):Int) by decide) c⟩
  rw[show (0+1:Int)=1 from rfl,i1 h.nil]
  refine YH (?_:upK Tryz.prog (Z0 wB #[ptr m2,ptr l6]) w7 _)
  refine zG.up ?_
  unfold zG.pt
  have h:=h.tick
  generalize tick w7=w7 at *
  rw[ldm h]
  simp -zeta only[J5,U0 gI,Nat.zero_add]
  rw[h.ld 2 rfl R7 (o:=o+1) hat.at1,h.ld 3 rfl K9 (o:=0) (v:=v) rfl]
  have hfb:(H8 (out.recs.map d9)).length≤16777216:=by
   have h1:=xE yB (out.recs.map d9) 100065 fun x hx=>by
    obtain⟨y,hy,rfl⟩:=List.mem_map.1 hx
    have h1:=RU (hf.recs y hy)
    have h2:=wE (d9 y) (by omega)
    omega
   rw[List.length_map] at h1
   have:(H8 (out.recs.map d9)).length≤100065 * out.recs.length:=h1
   omega
  have hjc:=fP j2.list
  have hjf:=hj2.form
  have hjb:=hj2.bytes
  refine h.zh0 (fun B2 own base2=>Vw0 (base2 hT) (base2 hP) (base2 r) hkl hj2 (l:=out.recs.map d9) (Y3.read (own (j:=4) rfl)) hfb (by omega) (by rw[List.length_map];omega)) fun u2 d1 d2 w8 hp h=>?_
  obtain⟨rfl,rfl,rfl⟩:=hp
  generalize IJ s2 j2 (out.recs.map d9)=x3 at *
  obtain⟨⟨s3,j3⟩,e3⟩:=x3
  simp only at h hJ2 ⊢
  rw[Q7,G5,K3]
  refine⟨fun c3=>?_,fun c3=>hJ2 _ (h.pick [5,6,0,1,2] (by decide))⟩
  subst c3
  rw[Z5,E5 (by omega) (by omega)]
  rw[iter,G6,K3]
  refine⟨fun c=>absurd c (show ¬(1+1:Int)<((2:Nat):Int) by decide),fun _=>?_⟩
  exact hJ2 _ (h.pick [5,6,0,1,2] (by decide))
 clear k
 unfold YL at hJ1
 simp -zeta only[U0 lc0,U0 oc0,U0 KC,U0 VU,Nat.zero_add,Nat.add_zero]
 rw[O1.ld (h.L6 ho3) AB (o:=0) (v := .bool out.save) rfl,R5]
 refine⟨fun c=>?_,fun c=>?_⟩
 case refine_2=>rw[if_neg (by rw[c];decide)] at hJ1;exact hJ1 _ h
 rw[if_pos c] at hJ1
 have h:=h.tick
 generalize tick w2=w2 at *
 rw[ldm h]
 simp -zeta only[J5,U0 dP]
 rw[h.ld 4 rfl p9 (o:=o+2) hat.at2,O1.ld (h.L6 ho3) Y2 (o:=1) (v := .int .i64 out.hard.term) rfl,O1.ld (h.L6 ho3) Y2 (o:=2) (v := .int .i64 out.hard.vote) rfl]
 refine h.ask (fun B2 own base2=>wC (base2 hP) hfh.1) fun w3 h=>?_
 refine⟨O1.is (h.L6 ho3) Y2 (o:=2) rfl,h.is 4 rfl p9 (o:=o+2) hat.at2,im h,?_⟩
 refine h.ask (fun B2 own base2=>wC (base2 hP) hfh.2) fun w4 h=>?_
 refine⟨h.is 4 rfl p9 (o:=o+2) hat.at2,im h,?_⟩
 have l1:=Q6 hfh.1
 have l2:=Q6 hfh.2
 rw[C9 (by omega)]
 have h:Rel B3 w4 ([JB q.dp q.jc q.jp u.j,bA q.rp u.r,O1 pg K4 cs]++[Z6 q.dp m.d m.kv,O1 q.cp U4 (ccs q.dp 2 u.c)]):=h.pick [1,3,4,0,2] (by decide)
 refine h.zh0 (fun B2 own base2=>uE0 (base2 hT) (base2 r) hkl) fun u2 d1 d2 w5 hp h=>?_
 obtain⟨rfl,rfl,rfl⟩:=hp
 exact hJ1 _ (h.pick [3,0,4,1,2] (by decide))
end
end Go.Proofs.YtngbebnhegcokaaGreatDoor

namespace Go.Proofs.YtngbebnhegcokaaGreatDoor
open Go.RowKit
set_option maxRecDepth 100000
structure nA where
 mem:T3 UH
 net:CO
 committed:List Bs
structure GQ where
 m:T3 MQ
 np:Nat
structure GAt (cs:Array Value) (q:GQ) (mem:T3 UH) (cv:Value):Prop where
 size:cs.size=14
 mem:∀i,I3 i→NB cs (4 * i.toNat) (q.m.get i) (mem.get i).up.isSome
 np:cs.toList[12]? = some (ptr q.np)
 cv:cs.toList[13]? = some cv
def lW(pg:Nat)(g:nA)(q:GQ)(cs:Array Value)(cv:Value):List Dat:=[O1 pg K4 cs,u_ q.m.a g.mem.a,u_ q.m.b g.mem.b,u_ q.m.c g.mem.c,KD q.np g.net,Y3 M3 cv (g.committed.map ofL)]
def kC(pg:Nat)(g:nA):Dat:=Dat.ex fun x:GQ×Array Value×Value=>Dat.and (Dat.pure (GAt x.2.1 x.1 g.mem x.2.2)) (eF (lW pg g x.1 x.2.1 x.2.2))
def lS(c:List Bs)(m:UH):List Bs:=match m.up with
 | none=>c
 | some u=>if u.r.commit≤c.length then c else(u.r.log.take u.r.commit.toNat).map fun x=>bl x.data
def qM(g:nA):Nat→List Bs
 | 0=>g.committed
 | 1=>lS g.committed g.mem.a
 | 2=>lS (lS g.committed g.mem.a) g.mem.b
 | _=>lS (lS (lS g.committed g.mem.a) g.mem.b) g.mem.c
def eo0(g:nA):nA:={ g with committed:=qM g 3 }
theorem yq0(g:nA){i:Nat}(hi:i<3):qM g (i+1)=lS (qM g i) (g.mem.get i):=by
 have:i=0∨i=1∨i=2:=by omega
 rcases this with rfl | rfl | rfl<;>rfl
structure UOk (i:Int) (u:UpP):Prop where
 j:JOk u.j
 r:Y9 u.r
 id:u.r.id=i
 term:u.r.role=2→1≤u.r.hard.term
def XY(mem:T3 UH):Prop:=∀i,I3 i→∀u,(mem.get i).up=some u→UOk i u
def HV(s:CO):Prop:=s.fl.length≤500∧∀p∈s.fl,∃m:R9,bM m∧p.body=ofL (EN m)
def bG(mem:T3 UH)(B:Base):Prop:=∀i,I3 i→O4 (mem.get i).kv (mem.get i).d.keep B∧(mem.get i).d.keep.length≤1000000
theorem AG0{cs:Array Value}(h:cs.size=14):∃a b c d e f g i j k l m n o,cs=#[a,b,c,d,e,f,g,i,j,k,l,m,n,o]:=by
 obtain⟨L⟩:=cs
 match L,h with
 | [a,b,c,d,e,f,g,i,j,k,l,m,n,o],_=>exact⟨a,b,c,d,e,f,g,i,j,k,l,m,n,o,rfl⟩
theorem WG0:agB Tryz.prog Y_ 12=true:=by kernel_rfl
theorem idxM{Kp:Value→Prop}{a b c d e f g h i j k l:Value}{n:Nat}(hn:n<3){xs:List Value}(hx:xs=([a,b,c,d,e,f,g,h,i,j,k,l].drop (4 * n)).take 4):M0 Tryz.prog (IY Y_ (.agg #[a,b,c,d,e,f,g,h,i,j,k,l]) (.int .i64 n)) Kp=Kp (.agg xs.toArray):=by
 subst hx
 have:n=0∨n=1∨n=2:=by omega
 rcases this with rfl | rfl | rfl
 all_goals exact F5 fun w=>by kernel_rfl
theorem YX{Kp:Value→Prop}{p:Nat}{i:Int}(hi:I3 i):M0 Tryz.prog (I5 Y_ (.pointer (some ⟨p,0,none⟩)) (.int .i64 i)) Kp=Kp (.pointer (some ⟨p,4 * i.toNat,none⟩)):=by
 rcases hi.cases with rfl | rfl | rfl<;>exact F5 fun w=>by kernel_rfl
section
variable {B:Base} {w:World} {σ τ:List Dat} {pg:Nat} {g:nA} {K:Value→World→Prop}
theorem kC.open(h:Rel B w (kC pg g :: τ)):∃q cs cv,GAt cs q g.mem cv∧Rel B w (lW pg g q cs cv++τ):=by
 obtain⟨⟨q,cs,cv⟩,h⟩:=h.ex (i:=0) rfl
 obtain⟨hp,h⟩:=h.VS (i:=0) rfl
 exact⟨q,cs,cv,hp,Rel.nS h⟩
theorem kC.close{q:GQ}{cs:Array Value}{cv:Value}(ha:GAt cs q g.mem cv)(h:Rel B w (lW pg g q cs cv++τ)):Rel B w (kC pg g :: τ) :=
 (Rel.RL h).imp (i:=0) (e:=kC pg g) rfl fun B hB=>⟨(q,cs,cv),ha,hB⟩
theorem Gs0{q:GQ}{cs:Array Value}{cv:Value}{i:Int}(hi:I3 i):(lW pg g q cs cv)[1+i.toNat]? = some (u_ (q.m.get i) (g.mem.get i)):=by
 rcases hi.cases with rfl | rfl | rfl<;>rfl
theorem u_.rep{q:MQ}{m:UH}{u:UpP}(h:u_ q m B)(hu:m.up=some u):pJ q.rp u.r B:=by
 unfold u_ Oy0 at h
 rw[hu] at h
 exact bA.toR (eF.get (j:=3) h rfl)
theorem NB.pts{cs:Array Value}{o:Nat}{q:MQ}{up:Bool}(h:NB cs o q up):∃a b c d,cs.toList[o]? = some (.pointer a)∧cs.toList[o+1]? = some (.pointer b)∧cs.toList[o+2]? = some (.pointer c)∧cs.toList[o+3]? = some (.pointer d):=by
 cases up with
 | true=>exact⟨_,_,_,_,h.at0,h.at1,h.at2,h.at3⟩
 | false =>
  obtain⟨b,hb⟩:=h.kH0
  obtain⟨c,hc⟩:=h.lH0
  exact⟨_,b,c,_,h.at0,hb,hc,h.FF0⟩
theorem zk0{Kp:Value→Prop}{xo yo:Operand}{a:Option Addr}:M0 Tryz.prog (V3 .eql J7 xo yo (.pointer a) (.pointer none)) Kp=Kp (.bool a.isNone):=by
 cases a with
 | none=>exact F5 fun w=>by kernel_rfl
 | some x=>exact OA rX
theorem GAt.SG0{cs:Array Value}{q:GQ}{mem:T3 UH}{cv v:Value}(h:GAt cs q mem cv):GAt (cs.setIfInBounds 13 v) q mem v where
 size:=by rw[Array.size_setIfInBounds];exact h.size
 mem:=fun i hi=>by
  have h1:=h.mem i hi
  have h2:i.toNat≤2:=by unfold I3 at hi;omega
  unfold NB at h1 ⊢
  rw[Z_ (by omega),Z_ (by omega),Z_ (by omega),Z_ (by omega)]
  exact h1
 np:=by rw[Z_ (by omega)];exact h.np
 cv:=by rw[XK (by have:=h.size;omega)]
set_option maxHeartbeats 2000000 in
theorem GF0(hok:XY g.mem)(hc:g.committed.length≤1000000):Does Tryz.prog B (kC pg g) (Z0 wI #[ptr pg]) fun _ e' τ=>e'=kC pg (eo0 g)∧τ=[]:=by
 refine Does.intro fun B' w K base h k=>?_
 refine kL.up ?_
 unfold kL.pt
 obtain⟨q,cs,cv,ha,h⟩:=kC.open h
 rw[List.append_nil] at h
 simp -zeta only[J5,U0 OC,Nat.zero_add]
 obtain⟨a,b,c,d,e,f,g',i',j,k',l,m,n,o,rfl⟩:=AG0 ha.size
 rw[K6.r9 (xs:=[a,b,c,d,e,f,g',i',j,k',l,m]) (O1.sub (h.here (i:=0) rfl) rfl) WG0 rfl]
 have hat:=ha.mem
 have hpts:∀i:Nat,i<3→∃x y z t,(([a,b,c,d,e,f,g',i',j,k',l,m].drop (4 * i)).take 4)=[.pointer x,.pointer y,.pointer z,.pointer t]∧(if(g.mem.get i).up.isSome=true then(.pointer t:Value)=ptr (q.m.get i).rp else t=none):=by
  intro i hi
  have hi3:I3 (i:Int):=by unfold I3;omega
  have h1:=hat i hi3
  obtain⟨x,y,z,t,h2,h3,h4,h5⟩:=h1.pts
  have h6:(if(g.mem.get i).up.isSome=true then(.pointer t:Value)=ptr (q.m.get i).rp else t=none):=by
   cases hu:(g.mem.get i).up.isSome with
   | true =>
    rw[hu] at h1
    rw[if_pos rfl]
    have:=h1.at3
    rw[h5] at this
    exact Option.some.inj this
   | false =>
    rw[hu] at h1
    rw[if_neg (by decide)]
    have:=h1.FF0
    rw[h5] at this
    cases this
    rfl
  refine⟨x,y,z,t,?_,h6⟩
  have:i=0∨i=1∨i=2:=by omega
  rcases this with rfl | rfl | rfl
  all_goals
   cases h2
   cases h3
   cases h4
   cases h5
   rfl
 refine F6 (fun z w'=>∃(i:Nat) (cs:Array Value) (cv:Value),i≤3∧z=(.int .i64 i,())∧GAt cs q g.mem cv∧(qM g i).length≤1000000∧Rel B' w' (lW pg { g with committed:=qM g i } q cs cv))
  (fun z _=>3-(match z.1 with | .int _ n=>n.toNat | _=>0)) ⟨0,_,cv,Nat.zero_le _,rfl,ha,hc,h⟩ ?_
 clear h ha hat cv
 rintro z w1 ⟨i,cs,cv,hi,rfl,ha,hcl,h⟩ next hnext
 rw[G6,K3]
 refine⟨fun hlt=>?_,fun hge=>?_⟩
 case refine_2 =>
  have:i=3:=by omega
  subst this
  exact k _ _ [] _ ⟨rfl,rfl⟩ (kC.close (g:=eo0 g) ha (by rw[List.append_nil];exact h))
 have hi3:i<3:=by omega
 have hI:I3 (i:Int):=by unfold I3;omega
 refine P6 fun J hJ=>?_
 replace hJ:∀(cs:Array Value) (cv:Value) (w':World),GAt cs q g.mem cv→(qM g (i+1)).length≤1000000→Rel B' w' (lW pg { g with committed:=qM g (i+1) } q cs cv)→J () w':=by
  intro cs cv w' ha hl h
  refine hJ _ _ ?_
  rw[Z5,E5 (by omega) (by omega)]
  exact hnext _ _ ⟨i+1,cs,cv,by omega,rfl,ha,hl,h⟩ (by simp only;omega)
 clear hnext
 obtain⟨x,y,z,t,hx,ht⟩:=hpts i hi3
 rw[idxM hi3 hx.symm]
 refine h.R8 (ds:=#[.pointer x,.pointer y,.pointer z,.pointer t]) qh0 rfl dd0 rfl (fun v hv=>?_) fun m3 w2 h=>?_
 ·have hv:v∈[Value.pointer x,.pointer y,.pointer z,.pointer t]:=hv
  simp only[List.mem_cons,List.not_mem_nil,or_false] at hv
  rcases hv with rfl | rfl | rfl | rfl<;>rfl
 have hmem:=Gs0 (pg:=pg) (g:={ g with committed:=qM g i }) (q:=q) (cs:=cs) (cv:=cv) hI
 have hmem:(lW pg { g with committed:=qM g i } q cs cv)[1+(i:Int).toNat]? = some (u_ (q.m.get i) (g.mem.get i)):=hmem
 have hlen6:(lW pg { g with committed:=qM g i } q cs cv).length=6:=rfl
 have h:=h.tick
 generalize tick w2=w2 at *
 simp -zeta only[U0 lF,Nat.zero_add]
 rw[h.ld 6 rfl P8 (o:=3) (v := .pointer t) rfl,zk0,R5]
 have hns:=yq0 g hi3
 unfold lS at hns
 cases hu:(g.mem.get i).up with
 | none =>
  rw[hu] at ht hns
  rw[if_neg (show ¬(none:Option UpP).isSome=true by decide)] at ht
  subst ht
  refine⟨fun _=>?_,fun c=>by cases c⟩
  have hns:qM g (i+1)=qM g i:=hns
  rw[hns] at hJ
  exact hJ cs cv _ ha hcl (h.take 6)
 | some u =>
  rw[hu] at ht hns
  rw[if_pos (show (some u).isSome=true from rfl)] at ht
  cases ht
  have hns:qM g (i+1)=if u.r.commit≤(qM g i).length then qM g i else(u.r.log.take u.r.commit.toNat).map fun x=>bl x.data:=hns
  refine⟨fun c=>(by cases c),fun _=>?_⟩
  have huok:=hok i hI u hu
  have hrlen:=huok.r.len
  have hrc:=huok.r.commit
  have rep:∀{B2:Base} {σ:List Dat},(∀{j:Nat} {d:Dat},σ[j]? = some d→d B2)→σ[1+(i:Int).toNat]? = some (u_ (q.m.get i) (g.mem.get i))→pJ (q.m.get i).rp u.r B2:=fun own hs=>u_.rep (own hs) hu
  have hmem2:∀(ρ:List Dat),(lW pg { g with committed:=qM g i } q cs cv++ρ)[1+(i:Int).toNat]? = some (u_ (q.m.get i) (g.mem.get i)):=fun ρ=>by
   rw[List.getElem?_append_left (by rw[hlen6];omega)];exact hmem
  rw[h.ld 6 rfl P8 (o:=3) (v:=ptr (q.m.get i).rp) rfl]
  simp -zeta only[J5,U0 vV,Nat.zero_add]
  rw[h.ld 0 rfl K9 (o:=13) ha.cv,O4.len (Y3.read (h.here (i:=5) rfl)) K7,List.length_map]
  refine h.ask (fun B2 own base2=>Km0 (rep own (hmem2 _))) fun w3 h=>?_
  have isl:Is Tryz.prog (M5 .len #[Z4] Q0 #[false] #[cv]) (.int .i64 (qM g i).length) w3:=by
   have:=O4.len (P:=Tryz.prog) (w:=w3) (T:=Z4) (U:=Q0) (bs:=#[false]) (Kp:=fun x=>x = .int .i64 ((qM g i).map ofL).length) (Y3.read (h.here (i:=5) rfl)) K7
   rw[List.length_map] at this
   obtain⟨x,h1,rfl⟩:=this.mpr rfl
   exact h1
  refine⟨isl,h.is 0 rfl K9 (o:=13) ha.cv,?_⟩
  rw[WC,K3]
  refine⟨fun c=>?_,fun c=>?_⟩
  ·rw[if_pos c] at hns
   rw[hns] at hJ
   exact hJ cs cv _ ha hcl (h.take 6)
  rw[if_neg c] at hns
  have hcs:=ha.size
  refine h.st 0 rfl K9 (o:=13) (by omega) rfl fun w4 h=>?_
  have h:=h.tick
  generalize tick w4=w4 at *
  have h:Rel B' w4 ([O1 pg K4 (cs.setIfInBounds 13 (.slice none 0 0)),u_ q.m.a g.mem.a,u_ q.m.b g.mem.b,u_ q.m.c g.mem.c,KD q.np g.net,Y3 M3 cv ((qM g i).map ofL),O1 m3 y7 #[.pointer x,.pointer y,.pointer z,ptr (q.m.get i).rp]]):=h
  have hmem3:∀(c0 c5:Dat) (ρ:List Dat),([c0,u_ q.m.a g.mem.a,u_ q.m.b g.mem.b,u_ q.m.c g.mem.c,KD q.np g.net]++ρ)[1+(i:Int).toNat]? = some (u_ (q.m.get i) (g.mem.get i)):=fun c0 c5 ρ=>by
   have:i=0∨i=1∨i=2:=by omega
   rcases this with rfl | rfl | rfl<;>rfl
  rw[h.ld 6 rfl P8 (o:=3) (v:=ptr (q.m.get i).rp) rfl]
  rw[h.ld 6 rfl P8 (o:=3) (v:=ptr (q.m.get i).rp) rfl]
  refine h.make (fun B2 own base2=>KG0 (rep own (hmem3 _ emp _)) (by omega)) fun lv τ w5 hp h=>?_
  subst hp
  refine⟨h.is 6 rfl P8 (o:=3) rfl,?_⟩
  refine h.ask (fun B2 own base2=>Km0 (rep own (hmem3 _ emp _))) fun w6 h=>?_
  obtain⟨cn,ecn⟩:∃cn:Nat,u.r.commit=cn:=⟨u.r.commit.toNat,by omega⟩
  have ecn2:u.r.commit.toNat=cn:=by omega
  rw[ecn2] at hns
  rw[ecn]
  have hcut:∀Kp:Value→Prop,M0 Tryz.prog (y9 U3 lv none (some (.int .i64 cn)) none) Kp=Kp (cutV 2 lv 0 cn):=fun Kp =>
   O4.Me0 (α:=uB) (P:=Tryz.prog) (lo:=0) (hi:=cn) (Y3.read (h.here (i:=7) rfl)) u6 Bnd.none Bnd.some (by omega) (by omega)
  rw[hcut]
  clear hcut
  have h:Rel B' w6 ([O1 pg K4 (cs.setIfInBounds 13 (.slice none 0 0)),u_ q.m.a g.mem.a,u_ q.m.b g.mem.b,u_ q.m.c g.mem.c,KD q.np g.net,Y3 X3 lv u.r.log]):=h.pick [0,1,2,3,4,7] (by decide)
  have h:=h.VC ByteArray M3
  have htl:(u.r.log.take cn).length=cn:=by rw[List.length_take];omega
  have hcr:∀{B2:Base},Y3 X3 lv u.r.log B2→O4 (cutV 2 lv 0 cn) (u.r.log.take cn) B2:=fun hh=>by
   have:=O4.rk0 (α:=uB) (lo:=0) (hi:=cn) (Y3.read hh) (by omega) (by omega)
   exact this
  rw[O4.len (hcr (h.here (i:=5) rfl)) u6,htl]
  refine F6 (fun z w'=>∃(i2:Nat) (v:Value),i2≤cn∧z=(.int .i64 i2,())∧Rel B' w' [O1 pg K4 (cs.setIfInBounds 13 v),u_ q.m.a g.mem.a,u_ q.m.b g.mem.b,u_ q.m.c g.mem.c,KD q.np g.net,Y3 X3 lv u.r.log,Y3 M3 v ((u.r.log.take i2).map fun x=>x.data)])
   (fun z _=>cn-(match z.1 with | .int _ n=>n.toNat | _=>0)) ⟨0,.slice none 0 0,Nat.zero_le _,rfl,h⟩ ?_
  clear h
  rintro z w7 ⟨i2,v,hi2,rfl,h⟩ next hnext
  simp -zeta only[G6,K3]
  refine⟨fun hlt2=>?_,fun hge2=>?_⟩
  case refine_2 =>
   have:i2=cn:=by omega
   subst this
   refine hJ (cs.setIfInBounds 13 v) v _ ha.SG0 (by rw[hns,List.length_map,htl];omega) ?_
   have e:((u.r.log.take i2).map fun x=>x.data)=(qM g (i+1)).map ofL:=by
    rw[hns,List.map_map]
    exact List.map_congr_left fun x _=>(pO x.data).symm
   rw[e] at h
   exact h.pick [0,1,2,3,4,6] (by decide)
  have hi2l:i2<(u.r.log.take cn).length:=by omega
  obtain⟨gb,go,hx2,hc2⟩:=O4.idx (hcr (h.here (i:=5) rfl)) u6 (P:=Tryz.prog) hi2l
  rw[hx2,K6.r9 (xs:=((u.r.log.take cn)[i2]).cs) hc2 S9 rfl]
  clear hx2 hc2
  have htk:((u.r.log.take (i2+1)).map fun x=>x.data)=((u.r.log.take i2).map fun x=>x.data)++[((u.r.log.take cn)[i2]).data]:=by
   rw[List.take_succ_eq_append_getElem (by omega),List.map_append,List.getElem_take]
   rfl
  have htl2:((u.r.log.take i2).map fun x=>x.data).length=i2:=by rw[List.length_map,List.length_take];omega
  generalize (u.r.log.take cn)[i2]=x2 at *
  refine h.R8 (ds:=x2.cs.toArray) CL rfl S9 rfl (fun v hv=>Enc.one x2 v hv) fun b5 w8 h=>?_
  have h:=h.tick
  generalize tick w8=w8 at *
  simp -zeta only[U0 bW,Nat.zero_add]
  have hc13:(cs.setIfInBounds 13 v).toList[13]? = some v:=XK (by omega)
  rw[h.ld 0 rfl K9 (o:=13) hc13,h.ld 7 rfl U6 (o:=1) (v := .string x2.data) rfl]
  refine h.XH (α:=ByteArray) x2.data K7 (by decide) fun v1 w9 h=>?_
  refine⟨h.is 0 rfl K9 (o:=13) hc13,?_⟩
  refine h.append (α:=ByteArray) 6 rfl K7 (Rd.at 8 rfl) (by rw[htl2];show (i2+1) * _≤_;omega) (by rw[htl2];show i2+1≤_;omega) fun v2 w10 h=>?_
  have hv2:v2.oneCell'=true:=h.oneCell (i:=6) rfl
  refine h.st 0 rfl K9 (o:=13) (by rw[Array.size_setIfInBounds];omega) hv2 fun w11 h=>?_
  rw[Z5,E5 (by omega) (by omega)]
  refine hnext _ _ ⟨i2+1,v2,by omega,rfl,?_⟩ (by simp only;omega)
  rw[htk]
  have e13:(cs.setIfInBounds 13 v).setIfInBounds 13 v2=cs.setIfInBounds 13 v2:=Array.setIfInBounds_setIfInBounds ..
  rw[e13] at h
  exact h.take 7
end
end Go.Proofs.YtngbebnhegcokaaGreatDoor

namespace Go.Proofs.YtngbebnhegcokaaGreatDoor
open Go.RowKit
set_option maxRecDepth 100000
def upE(g:nA)(id:Int):Int:=if id<0∨3≤id then 1 else if(g.mem.get id).up.isSome=true then 0 else 9
def sendAll(id:Int)(n:CO)(l:List R9):CO:=l.foldl (fun n m=>(xV n ⟨id,m.to_,ofL (EN m)⟩).2) n
def XG(g:nA)(id:Int)(m:UH):nA:={ g with mem:=g.mem.set id m }
def do2(g:nA)(id:Int)(x:UH×Int)(l:List R9):nA:=if x.2=0 then { XG g id x.1 with net:=sendAll id g.net l } else XG g id x.1
def doS(g:nA)(id:Int)(u:UpP)(out:vE):nA×Int:=(eo0 (do2 g id (XE (g.mem.get id) u out) out.send),(XE (g.mem.get id) u out).2)
theorem JY{id:Int}:∀{l:List R9} {n:CO},HV n→(∀m∈l,bM m)→HV (sendAll id n l)
 | [],_,h,_=>h
 | m :: l,n,h,hl=>by
  show HV (sendAll id (xV n ⟨id,m.to_,ofL (EN m)⟩).2 l)
  refine JY (l:=l) ⟨Sv0 h.1,fun p hp=>?_⟩ fun m hm=>hl m (List.mem_cons_of_mem _ hm)
  unfold xV at hp
  split at hp
  ·split at hp
   ·split at hp
    ·rcases List.mem_append.1 hp with hp | hp
     ·exact h.2 p hp
     ·rw[List.mem_singleton.1 hp]
      exact⟨m,hl m (List.mem_cons_self ..),rfl⟩
    ·exact h.2 p hp
   ·exact h.2 p hp
  ·exact h.2 p hp
theorem GAt.put{cs cs':Array Value}{q:GQ}{mem:T3 UH}{cv:Value}{i:Int}{q':MQ}{m':UH}(h:GAt cs q mem cv)(hi:I3 i)(h1:NB cs' (4 * i.toNat) q' m'.up.isSome)(h2:IC cs cs' (4 * i.toNat)):GAt cs' { q with m:=q.m.set i q' } (mem.set i m') cv where
 size:=h2.1.trans h.size
 mem:=fun j hj=>by
  by_cases c:j=i
  ·subst c
   show NB cs' _ ((q.m.set j q').get j) ((mem.set j m').get j).up.isSome
   rw[T3.IA _ hi,T3.IA _ hi]
   exact h1
  ·show NB cs' _ ((q.m.set i q').get j) ((mem.set i m').get j).up.isSome
   rw[T3.WG _ hi hj _ c,T3.WG _ hi hj _ c]
   have h3:=h.mem j hj
   have hn:j.toNat≠i.toNat:=by unfold I3 at hi hj;omega
   unfold NB at h3 ⊢
   rw[h2.2 _ (by omega),h2.2 _ (by omega),h2.2 _ (by omega),h2.2 _ (by omega)]
   exact h3
 np:=by rw[h2.2 _ (by unfold I3 at hi;omega)];exact h.np
 cv:=by rw[h2.2 _ (by unfold I3 at hi;omega)];exact h.cv
theorem XY.set{mem:T3 UH}(h:XY mem){i:Int}(hi:I3 i){m:UH}(hm:∀u,m.up=some u→UOk i u):XY (mem.set i m):=fun j hj u hu=>by
 by_cases c:j=i
 ·subst c
  rw[T3.IA _ hi] at hu
  exact hm u hu
 ·rw[T3.WG _ hi hj _ c] at hu
  exact h j hj u hu
theorem Do0{m:UH}{u:UpP}{out:vE}{i:Int}(h:UOk i u):∀u',(XE m u out).1.up=some u'→UOk i u':=by
 intro u' hu
 unfold XE Wl0 at hu
 split at hu
 ·cases hu
 ·cases hu
  refine⟨?_,h.r,h.id,h.term⟩
  show JOk (vS (YL m u out).1.1 u.j (YL m u out).2 out).1.2
  unfold vS
  split
  ·unfold FW
   split
   ·exact qk0 h.j
   ·exact we0 (qk0 h.j)
  ·exact h.j
theorem dw0(m:UH)(u:UpP)(out:vE):(XE m u out).1.kv=m.kv∧(XE m u out).1.d.keep=m.d.keep:=by
 have h1:=zc0 m u out
 have h2:(vS (YL m u out).1.1 u.j (YL m u out).2 out).1.1.keep=m.d.keep:=by
  unfold vS
  split
  ·unfold FW
   split
   ·exact(Fa0 _ _ _).trans h1
   ·exact(al0 _ _ _).trans ((Fa0 _ _ _).trans h1)
  ·exact h1
 unfold XE Wl0
 split
 ·exact⟨rfl,h2⟩
 ·exact⟨rfl,h2⟩
section
variable {B:Base} {w:World} {σ τ:List Dat} {pg:Nat} {g:nA} {K:Value→World→Prop}
theorem kC.jP(h:kC pg g B):∃q cs cv,GAt cs q g.mem cv∧O1 pg K4 cs B∧KD q.np g.net B∧O4 cv (g.committed.map ofL) B∧∀i,I3 i→u_ (q.m.get i) (g.mem.get i) B:=by
 obtain⟨⟨q,cs,cv⟩,ha,h⟩:=h
 exact⟨q,cs,cv,ha,eF.get (j:=0) h rfl,eF.get (j:=4) h rfl,Y3.read (eF.get (j:=5) h rfl),fun i hi=>eF.get (j:=1+i.toNat) h (Gs0 hi)⟩
theorem UG0(h0:kC pg g B)(id:Int):Gives Tryz.prog B (Z0 SK #[ptr pg,.int .i64 id]) (.int .i64 (upE g id)):=by
 refine Gives.intro fun B' w K base h k=>?_
 obtain⟨q,cs,cv,ha,c0,c1,c2,c3⟩:=kC.jP (base h0)
 refine iO.up ?_
 unfold iO.pt
 unfold upE at k
 rw[G6,K3]
 refine⟨fun c=>?_,fun e1=>?_⟩
 ·rw[if_pos (.inl c)] at k;exact k _ _ h
 rw[FC,K3]
 refine⟨fun c=>?_,fun e2=>?_⟩
 ·rw[if_pos (.inr c)] at k;exact k _ _ h
 rw[if_neg (fun hh=>hh.elim e1 e2)] at k
 have hi:I3 id:=by unfold I3;omega
 simp -zeta only[J5,U0 OC,Nat.zero_add]
 rw[YX hi,U0 lF]
 have hm:=ha.mem id hi
 cases hu:(g.mem.get id).up.isSome with
 | true =>
  rw[hu] at hm k
  rw[if_pos rfl] at k
  rw[O1.ld (h.L6 c0) P8 (o:=4 * id.toNat+3) hm.at3,zk0,R5]
  exact⟨fun c=>(by cases c),fun _=>k _ _ h⟩
 | false =>
  rw[hu] at hm k
  rw[if_neg (by decide)] at k
  rw[O1.ld (h.L6 c0) P8 (o:=4 * id.toNat+3) hm.FF0,zk0,R5]
  exact⟨fun _=>k _ _ h,fun c=>by cases c⟩
theorem CE0{q:GQ}{cs:Array Value}{cv:Value}{i:Int}{s:Sem Next}{post:Value→Array Value→MQ→UH→Prop}(h:Rel B w (lW pg g q cs cv))(ha:GAt cs q g.mem cv)(hi:I3 i)
  (G:∀B':Base,(∀{d:Dat},d B→d B')→Both Tryz.prog B' (O1 pg K4 cs) (u_ (q.m.get i) (g.mem.get i)) s fun v d1 d2=>∃cs' q' m',d1=O1 pg K4 cs'∧d2=u_ q' m'∧NB cs' (4 * i.toNat) q' m'.up.isSome∧IC cs cs' (4 * i.toNat)∧post v cs' q' m')
  (k:∀v cs' q' m' w',post v cs' q' m'→GAt cs' { q with m:=q.m.set i q' } (g.mem.set i m') cv→Rel B w' (lW pg (XG g i m') { q with m:=q.m.set i q' } cs' cv)→K v w'):upK Tryz.prog s w K:=by
 rcases hi.cases with rfl | rfl | rfl
 ·have h:Rel B w ([u_ q.m.b g.mem.b,u_ q.m.c g.mem.c,KD q.np g.net,Y3 M3 cv (g.committed.map ofL)]++[O1 pg K4 cs,u_ q.m.a g.mem.a]):=h.pick [2,3,4,5,0,1] (by decide)
  refine h.zh0 (fun B2 own base2=>G B2 base2) fun v d1 d2 w' hp h=>?_
  obtain⟨cs',q',m',rfl,rfl,h1,h2,hp⟩:=hp
  exact k _ _ _ _ _ hp (ha.put hi h1 h2) (h.pick [4,5,0,1,2,3] (by decide))
 ·have h:Rel B w ([u_ q.m.a g.mem.a,u_ q.m.c g.mem.c,KD q.np g.net,Y3 M3 cv (g.committed.map ofL)]++[O1 pg K4 cs,u_ q.m.b g.mem.b]):=h.pick [1,3,4,5,0,2] (by decide)
  refine h.zh0 (fun B2 own base2=>G B2 base2) fun v d1 d2 w' hp h=>?_
  obtain⟨cs',q',m',rfl,rfl,h1,h2,hp⟩:=hp
  exact k _ _ _ _ _ hp (ha.put hi h1 h2) (h.pick [4,0,5,1,2,3] (by decide))
 ·have h:Rel B w ([u_ q.m.a g.mem.a,u_ q.m.b g.mem.b,KD q.np g.net,Y3 M3 cv (g.committed.map ofL)]++[O1 pg K4 cs,u_ q.m.c g.mem.c]):=h.pick [1,2,4,5,0,3] (by decide)
  refine h.zh0 (fun B2 own base2=>G B2 base2) fun v d1 d2 w' hp h=>?_
  obtain⟨cs',q',m',rfl,rfl,h1,h2,hp⟩:=hp
  exact k _ _ _ _ _ hp (ha.put hi h1 h2) (h.pick [4,0,1,5,2,3] (by decide))
set_option maxHeartbeats 2000000 in
theorem bE0(hT:VT B)(hP:VI B)(hok:XY g.mem)(hke:bG g.mem B)(hn:HV g.net)(hc:g.committed.length≤1000000){id:Int}(hi:I3 id){u:UpP}(hu:(g.mem.get id).up=some u){out:vE}{rv sv:SV}(hf:jB0 out)(hfm:∀m∈out.send,bM m)(hsl:out.send.length≤1000)(qr:O4 rv.1 out.recs B)(qs:wN sv.1 out.send B) :
  Does Tryz.prog B (kC pg g) (Z0 PK #[ptr pg,.int .i64 id,.agg (f_ out rv.1 sv.1)]) fun v e' τ=>v = .int .i64 (doS g id u out).2∧e'=kC pg (doS g id u out).1∧τ=[]:=by
 refine Does.intro fun B' w K base h k=>?_
 replace hT:=base hT
 replace hP:=base hP
 replace qr:=base qr
 replace qs:=base qs
 obtain⟨hr,hkl⟩:=hke id hi
 replace hr:=base hr
 refine fO.up ?_
 unfold fO.pt
 refine h.box fun o5 w1 h=>?_
 have h:Rel B' w1 ([kC pg g]++[O1 o5 F3 (f_ out rv.1 sv.1)]):=h
 obtain⟨B2,ext2,h,ho5⟩:=h.Bn0
 have up2:∀{d:Dat},d B'→d B2:=fun hd=>Dat.mono _ ext2.le hd
 replace k:∀w',Rel B2 w' [kC pg (doS g id u out).1]→K (.int .i64 (doS g id u out).2) w':=fun w' h=>k _ _ [] w' ⟨rfl,rfl,rfl⟩ (ext2.rel h)
 replace hT:=up2 hT
 replace hP:=up2 hP
 replace hr:=up2 hr
 replace qr:=up2 qr
 replace qs:=up2 qs
 clear up2 ext2 base
 unfold doS at k
 obtain⟨q,cs,cv,ha,h⟩:=kC.open h
 rw[List.append_nil] at h
 simp -zeta only[J5,U0 OC,Nat.zero_add]
 rw[YX hi]
 have h:=h.tick
 generalize tick w1=w1 at *
 rw[O1.r9 (h.L6 ho5) EC rfl]
 have hat:=ha.mem id hi
 rw[hu] at hat
 refine CE0 (post:=fun v cs' q' m'=>v = .int .i64 (XE (g.mem.get id) u out).2∧m'=(XE (g.mem.get id) u out).1∧q'=q.m.get id) h ha hi (fun B3 base3=>?_) fun v cs' q' m' w2 hp ha h=>?_
 ·intro w σ i K h0 h1 h2
  refine gD0 (base3 hT) (base3 hP) (base3 hr) hkl hu (hok id hi u hu).j ha.size (by unfold I3 at hi;omega) hat hf (base3 qr) w σ i K h0 h1 fun v e' τ w' hp=>h2 v e' τ w' ?_
  obtain⟨d1',d2',⟨rfl,cs',rfl,rfl,h3,h4⟩,he,ht⟩:=hp
  exact⟨_,_,⟨cs',q.m.get id,_,rfl,rfl,h3,h4,rfl,rfl,rfl⟩,he,ht⟩
 obtain⟨rfl,rfl,rfl⟩:=hp
 have hok2:XY (XG g id (XE (g.mem.get id) u out).1).mem:=hok.set hi (Do0 (hok id hi u hu))
 generalize XE (g.mem.get id) u out=x at *
 obtain⟨m',e⟩:=x
 simp only at h ha hok2 k ⊢
 generalize ({ q with m:=q.m.set id (q.m.get id) }:GQ)=q at *
 unfold do2 at k
 simp only at k
 have fin:∀(n:CO) w',(∀w',Rel B2 w' [kC pg (eo0 { XG g id m' with net:=n })]→K (.int .i64 e) w')→Rel B2 w' (lW pg { XG g id m' with net:=n } q cs' cv)→upK Tryz.prog (Z0 wI #[ptr pg]) w' fun _ w4=>K (.int .i64 e) w4:=by
  intro n w' k h
  have h:Rel B2 w' [kC pg { XG g id m' with net:=n }]:=kC.close (τ:=[]) ha (by rw[List.append_nil];exact h)
  refine h.act 0 rfl (fun B3 own base3=>GF0 hok2 hc) fun v e' τ w3 hp h=>?_
  obtain⟨rfl,rfl⟩:=hp
  exact k _ h
 refine P6 fun J hJ=>?_
 rw[F7,K3]
 refine⟨fun c=>?_,fun c=>?_⟩
 case refine_2 =>
  rw[if_neg c] at k
  exact hJ _ _ (fin g.net _ k h)
 rw[if_pos c] at k
 replace hJ:∀w',Rel B2 w' (lW pg { XG g id m' with net:=sendAll id g.net out.send } q cs' cv)→J () w':=fun w' h=>hJ _ _ (fin _ _ k h)
 clear fin k
 simp -zeta only[U0 ZV,Nat.zero_add]
 rw[O1.ld (h.L6 ho5) pR (o:=5) (v:=sv.1) rfl]
 obtain⟨vs,hvs,qs1,qs2⟩:=qs
 have hvs:vs.length=out.send.length:=hvs
 have hzl:(List.zipWith R9.raw out.send vs).length=out.send.length:=by rw[List.length_zipWith];omega
 rw[O4.len qs1 vL,hzl]
 refine F6 (fun z w'=>∃i:Nat,i≤out.send.length∧z=(.int .i64 i,())∧Rel B2 w' (lW pg { XG g id m' with net:=sendAll id g.net (out.send.take i) } q cs' cv))
  (fun z _=>out.send.length-(match z.1 with | .int _ n=>n.toNat | _=>0)) ⟨0,Nat.zero_le _,rfl,h⟩ ?_
 clear h
 rintro z w3 ⟨i,hil,rfl,h⟩ next hnext
 rw[G6,K3]
 refine⟨fun hlt=>?_,fun hge=>?_⟩
 case refine_2 =>
  have:i=out.send.length:=by omega
  subst this
  rw[List.take_length] at h
  exact hJ _ h
 have hi1:i<out.send.length:=by omega
 have hi2:i<(List.zipWith R9.raw out.send vs).length:=by omega
 obtain⟨gb,go,hx,hcx⟩:=O4.idx qs1 vL (P:=Tryz.prog) hi2
 have hcx:K6 gb go ((List.zipWith R9.raw out.send vs)[i]).cs B2:=hcx
 rw[hx,K6.r9 (h.L6 hcx) Z8 rfl,List.getElem_zipWith]
 clear hx hcx
 have hmi:bM out.send[i]:=hfm _ (List.getElem_mem hi1)
 have hrow:O4 (vs[i]).1 (out.send[i]).recs B2:=by
  have hz:i<(out.send.zip vs).length:=by rw[List.length_zip];omega
  have:=qs2 (out.send.zip vs)[i] (List.getElem_mem hz)
  rw[List.getElem_zip] at this
  exact this
 have htk:sendAll id g.net (out.send.take (i+1))=(xV (sendAll id g.net (out.send.take i)) ⟨id,(out.send[i]).to_,ofL (EN out.send[i])⟩).2:=by
  unfold sendAll
  rw[List.take_succ_eq_append_getElem hi1,List.foldl_append]
  rfl
 have hno:HV (sendAll id g.net (out.send.take i)):=JY hn fun m hm=>hfm m (List.mem_of_mem_take hm)
 generalize out.send[i]=m at *
 generalize vs[i]=mv at *
 refine h.R8 (ds:=(m.raw mv).cs.toArray) vJ rfl Z8 rfl (fun v hv=>Enc.one (m.raw mv) v hv) fun m9 w4 h=>?_
 have h:=h.tick
 generalize tick w4=w4 at *
 simp -zeta only[J5,U0 uQ,U0 XV,Nat.zero_add]
 have h:Rel B2 w4 [O1 pg K4 cs',u_ q.m.a (XG g id m').mem.a,u_ q.m.b (XG g id m').mem.b,u_ q.m.c (XG g id m').mem.c,KD q.np (sendAll id g.net (out.send.take i)),Y3 M3 cv (g.committed.map ofL),O1 m9 Y1 (m.raw mv).cs.toArray]:=h
 rw[h.ld 0 rfl nR (o:=12) ha.np,h.ld 6 rfl Y2 (o:=2) (v := .int .i64 m.to_) rfl,h.r9 6 rfl Z8 rfl]
 refine h.ask (fun B3 own base3=>Rf0 (base3 hP) hmi (base3 hrow)) fun w5 h=>?_
 refine⟨h.is 6 rfl Y2 (o:=2) rfl,h.is 0 rfl nR (o:=12) ha.np,?_⟩
 refine h.act 4 rfl (fun B3 own base3=>YF0 hno.1 id m.to_ (ofL (EN m))) fun v e' τ w6 hp h=>?_
 obtain⟨rfl,rfl,rfl⟩:=hp
 rw[Z5,E5 (by omega) (by omega)]
 refine hnext _ _ ⟨i+1,hi1,rfl,?_⟩ (by simp only;omega)
 rw[htk]
 exact h.take 6
end
end Go.Proofs.YtngbebnhegcokaaGreatDoor

namespace Go.Proofs.YtngbebnhegcokaaGreatDoor
open Go.RowKit
set_option maxRecDepth 100000
theorem Qb0{b:Int}:∀{l:List uB} {a:Int},RA l a b=true→∀x∈l,a≤x.term∧x.term≤b∧x.data.size≤2000
 | [],_,_,x,hx=>by cases hx
 | y :: l,a,h,x,hx=>by
  rw[RA] at h
  split at h
  ·cases h
  split at h
  ·cases h
  split at h
  ·cases h
  rename_i h1 h2 h3
  rcases List.mem_cons.1 hx with rfl | hx
  ·omega
  ·have:=Qb0 h x hx
   omega
theorem lr0{l:List uB}{a b:Int}(h:RA l a b=true)(n:Nat):RA (l.take n) a b=true:=by
 rw[←List.take_append_drop n l,xO,Bool.and_eq_true] at h
 exact h.1
theorem jr0{l:List uB}{a b:Int}(h:RA l a b=true)(n:Nat):RA (l.drop n) ((((l.take n).getLast?).map (·.term)).getD a) b=true:=by
 rw[←List.take_append_drop n l,xO,Bool.and_eq_true] at h
 exact h.2
theorem vo0(log:List uB):∀(l:List uB) (i:Nat),i≤log.length→i+yF log i l≤log.length
 | [],i,h=>h
 | x :: l,i,h=>by
  unfold yF
  split
  ·rename_i c
   have:=vo0 log l (i+1) c.1
   omega
  ·exact h
theorem uj0(log:List uB):∀(l:List uB) (i j:Nat) (hj:j<l.length),j<yF log i l→bK log ((i:Int)+j+1)=(l[j]).term
 | [],_,_,hj,_=>by cases hj
 | x :: l,i,j,hj,h=>by
  unfold yF at h
  split at h
  ·rename_i c
   cases j with
   | zero =>
    have:=c.2
    rw[show ((i:Int)+((0:Nat):Int)+1)=(i:Int)+1 by omega]
    exact this
   | succ j =>
    have:=uj0 log l (i+1) j (by rw[List.length_cons] at hj;omega) (by omega)
    rw[show (((i+1:Nat):Int)+j+1)=((i:Int)+((j+1:Nat):Int)+1) by omega] at this
    rw[this]
    rfl
  ·cases h
theorem yj0{log:List uB}{n:Nat}(hn:n<log.length):bK log ((n:Int)+1)=(log[n]).term:=by
 unfold bK
 rw[if_neg (by omega),show ((n:Int)+1-1).toNat=n by omega,List.getElem?_eq_getElem hn]
 rfl
theorem Oa0{l:List uB}{n:Nat}(hn:n<l.length)(a:Int):(((l.take (n+1)).getLast?).map (·.term)).getD a=(l[n]).term:=by
 rw[List.take_succ_eq_append_getElem hn,List.getLast?_concat]
 rfl
theorem ae0{r:G8}(hk:Y9 r):Y9 (oI r).1∧(oI r).1.id=r.id∧((r.role=2→1≤r.hard.term)→(oI r).1.role=2→1≤(oI r).1.hard.term):=by
 unfold oI
 split
 ·exact⟨hk,rfl,id⟩
 split
 ·exact⟨hk,rfl,id⟩
 ·have h1:=hk.term
  have h2:=hk.id
  refine⟨⟨hk.id,?_,?_,hk.len,PY (show r.hard.term≤r.hard.term+1 by omega) _ _ hk.sound,.inr (.inl rfl),hk.commit,(fun h=>by cases h),(fun h=>by cases h)⟩,rfl,fun _ h=>by cases h⟩
  ·show 0≤r.hard.term+1∧r.hard.term+1≤_
   omega
  ·show -1≤r.id∧r.id≤2
   unfold I3 at h2
   omega
theorem tx0{r:G8}(hk:Y9 r){m:R9}(hm:0≤m.commit)(h:0≤m.index∧m.index+m.recs.length≤r.log.length):Y9 (wp0 r m) :=
 ⟨hk.id,hk.term,hk.vote,hk.len,hk.sound,hk.role,(by have:=hk.commit;show 0≤max r.commit (min m.commit (m.index+m.recs.length))∧max r.commit (min m.commit (m.index+m.recs.length))≤(r.log.length:Int);omega),hk.next,hk.mtch⟩
theorem yD0{r:G8}(hk:Y9 r)(hr:r.role=0){m:R9}(hm:WO r m)(ht:m.term=r.hard.term):Y9 (OZ r m).1:=by
 unfold OZ
 split
 ·exact hk
 rename_i h1
 have h1a:¬(r.log.length:Int)<m.index:=fun h=>h1 (.inl h)
 have h1b:bK r.log m.index=m.prev:=Classical.byContradiction fun h=>h1 (.inr h)
 have hi:=hm.index
 obtain⟨mi,emi⟩:∃mi:Nat,m.index=mi:=⟨m.index.toNat,by omega⟩
 have emn:m.index.toNat=mi:=by omega
 have hsl:=vo0 r.log m.recs mi (by omega)
 have hsr:=Yd0 r.log m.recs mi
 have hroom:=hm.room
 rw[emn]
 split
 ·rename_i h2
  exact tx0 hk hm.commit.1 (by omega)
 split
 ·exact hk
 rename_i h2 h3
 have hcom:=hk.commit
 have hlen:(r.log.take (mi+yF r.log mi m.recs)++m.recs.drop (yF r.log mi m.recs)).length=mi+m.recs.length:=by
  rw[List.length_append,List.length_take,List.length_drop]
  omega
 refine tx0 (r:={ r with log:=r.log.take (mi+yF r.log mi m.recs)++m.recs.drop (yF r.log mi m.recs) }) ⟨hk.id,hk.term,hk.vote,?_,?_,hk.role,?_,(fun h=>by rw[show _=r.role from rfl,hr] at h;cases h),(fun h=>by rw[show _=r.role from rfl,hr] at h;cases h)⟩ hm.commit.1 ?_
 ·show (r.log.take (mi+yF r.log mi m.recs)++m.recs.drop (yF r.log mi m.recs)).length≤4000
  rw[hlen]
  omega
 ·show RA (r.log.take (mi+yF r.log mi m.recs)++m.recs.drop (yF r.log mi m.recs)) 1 r.hard.term=true
  rw[xO,Bool.and_eq_true]
  refine⟨lr0 hk.sound _,?_⟩
  have hs:=hm.sound
  rw[ht] at hs
  generalize hk':yF r.log mi m.recs=k at *
  cases k with
  | zero =>
   rw[List.drop_zero,Nat.add_zero]
   refine yo0 m.recs ?_ hs
   cases mi with
   | zero =>
    show (((r.log.take 0).getLast?).map (·.term)).getD 1≤max 1 m.prev
    rw[List.take_zero]
    show (1:Int)≤_
    omega
   | succ n =>
    rw[Oa0 (by omega)]
    rw[emi,show ((n+1:Nat):Int)=(n:Int)+1 by omega,yj0 (by omega)] at h1b
    omega
  | succ n =>
   have hd:=jr0 hs (n+1)
   rw[Oa0 (by omega)] at hd
   rw[show mi+(n+1)=(mi+n)+1 by omega,Oa0 (by omega)]
   have:=uj0 r.log m.recs mi n (by omega) (by omega)
   rw[show ((mi:Int)+n+1)=((mi+n:Nat):Int)+1 by omega,yj0 (by omega)] at this
   rw[this]
   exact hd
 ·show 0≤r.commit∧r.commit≤((r.log.take (mi+yF r.log mi m.recs)++m.recs.drop (yF r.log mi m.recs)).length:Int)
  rw[hlen]
  omega
 ·show 0≤m.index∧m.index+m.recs.length≤((r.log.take (mi+yF r.log mi m.recs)++m.recs.drop (yF r.log mi m.recs)).length:Int)
  rw[hlen]
  omega
theorem rD0(r:G8)(m:R9):(OZ r m).1.id=r.id∧(OZ r m).1.role=r.role∧(OZ r m).1.hard=r.hard:=by
 unfold OZ
 split
 ·exact⟨rfl,rfl,rfl⟩
 split
 ·exact⟨rfl,rfl,rfl⟩
 split
 ·exact⟨rfl,rfl,rfl⟩
 ·exact⟨rfl,rfl,rfl⟩
theorem ub0(r:G8)(m:R9):m.term≤(KO r m).hard.term:=by
 unfold KO
 split
 ·exact Int.le_refl _
 ·omega
theorem bl0{r:G8}(hk:Y9 r){m:R9}(hm:WO r m)(hle:m.term≤r.hard.term)(ht:r.role=2→1≤r.hard.term):Y9 (ZX r m).1∧(ZX r m).1.id=r.id∧((ZX r m).1.role=2→1≤(ZX r m).1.hard.term):=by
 have hf:I3 m.from_:=by have:=hm.from3;unfold I3;omega
 unfold ZX
 split
 ·unfold Fj0
  split
  ·have:=hm.from3
   exact⟨⟨hk.id,hk.term,(show -1≤m.from_∧m.from_≤2 by omega),hk.len,hk.sound,hk.role,hk.commit,hk.next,hk.mtch⟩,rfl,ht⟩
  ·exact⟨hk,rfl,ht⟩
 split
 ·unfold Yb0
  split
  ·exact⟨hk,rfl,ht⟩
  split
  ·exact⟨VZ hk _,rfl,ht⟩
  ·rename_i h1 _
   have h2:m.term=r.hard.term:=Classical.byContradiction fun h=>h1 (.inr (.inl h))
   have h3:=hm.term
   exact⟨Kf0 (VZ hk _),rfl,fun _=>(show 1≤r.hard.term by omega)⟩
 split
 ·unfold PW
  split
  ·exact⟨hk,rfl,ht⟩
  split
  ·exact⟨hk,rfl,ht⟩
  ·rename_i h1 h2
   have hk0:Y9 { r with role:=0 }:=⟨hk.id,hk.term,hk.vote,hk.len,hk.sound,.inl rfl,hk.commit,(fun h=>by cases h),(fun h=>by cases h)⟩
   have hm0:WO { r with role:=0 } m:=⟨hm.kind,hm.to_,hm.from_,hm.from3,hm.term,hm.index,hm.prev,hm.zero,hm.commit,hm.few,hm.room,hm.sound⟩
   obtain⟨i1,i2,i3⟩:=rD0 { r with role:=0 } m
   exact⟨yD0 hk0 rfl hm0 (show m.term=r.hard.term by omega),i1,fun h=>by rw[i2] at h;cases h⟩
 ·unfold vR
  split
  ·exact⟨hk,rfl,ht⟩
  rename_i h1
  have hlead:r.role=2:=Classical.byContradiction fun h=>h1 (.inl h)
  have hn:=hk.next hlead _ hf
  have hmt:=hk.mtch hlead _ hf
  have hix:=hm.index
  split
  ·exact⟨Ud0 hk hf (by omega),rfl,ht⟩
  rename_i h2
  have hyes:m.yes=true:=by cases hy:m.yes;exact absurd hy h2;rfl
  have h3:m.index≤r.log.length:=by
   by_cases c:(r.log.length:Int)<m.index
   ·exact absurd (.inr (.inr ⟨hyes,c⟩)) h1
   ·omega
  have hk2:Y9 { r with mtch:=r.mtch.set m.from_ (max (r.mtch.get m.from_) m.index),next:=r.next.set m.from_ (max (r.mtch.get m.from_) m.index+1) }:=Ud0 (r:={ r with mtch:=r.mtch.set m.from_ (max (r.mtch.get m.from_) m.index) }) (Ms0 hk hf (by omega)) hf (by show _∧_≤(r.log.length:Int)+1;omega)
  have e1:Y9 (BV r m):=qe0 hk2 hlead
  have e2:(BV r m).id=r.id∧(BV r m).hard=r.hard:=by unfold BV kJ;split<;>exact⟨rfl,rfl⟩
  have e3:(BV r m).role=2→1≤(BV r m).hard.term:=fun _=>by rw[e2.2];exact ht hlead
  split
  ·exact⟨e1,e2.1,e3⟩
  ·exact⟨e1,e2.1,e3⟩
theorem eA0(hd:SN)(q:G8×vE):(Kg0 hd q).1=q.1:=by unfold Kg0;split<;>rfl
theorem Uk0{r:G8}(hk:Y9 r)(ht:r.role=2→1≤r.hard.term)(m:R9):Y9 (nJ r m).1∧(nJ r m).1.id=r.id∧((nJ r m).1.role=2→1≤(nJ r m).1.hard.term):=by
 unfold nJ
 split
 ·rename_i hm
  obtain⟨hk1,hm1⟩:=Bl0 hk hm
  rw[eA0]
  have h1:(KO r m).role=2→1≤(KO r m).hard.term:=by
   unfold KO
   split
   ·intro h;cases h
   ·exact ht
  have h2:(KO r m).id=r.id:=by unfold KO;split<;>rfl
  obtain⟨a,b,c⟩:=bl0 hk1 hm1 (ub0 r m) h1
  exact⟨a,b.trans h2,c⟩
 ·exact⟨hk,rfl,ht⟩
theorem iV{r:G8}(hk:Y9 r)(ht:r.role=2→1≤r.hard.term)(data:ByteArray):Y9 (U8 r data).r∧(U8 r data).r.id=r.id∧((U8 r data).r.role=2→1≤(U8 r data).r.hard.term):=by
 unfold U8
 split
 ·exact⟨hk,rfl,ht⟩
 split
 ·exact⟨hk,rfl,ht⟩
 split
 ·exact⟨hk,rfl,ht⟩
 ·rename_i h1 h2 h3
  have hl:r.role=2:=Classical.byContradiction h1
  exact⟨Zs0 hk (ht hl) (by omega) h3,rfl,ht⟩
end Go.Proofs.YtngbebnhegcokaaGreatDoor

namespace Go.Proofs.YtngbebnhegcokaaGreatDoor
open Go.RowKit
set_option maxRecDepth 100000
structure QN (o:vE):Prop where
 st:jB0 o
 send:∀m∈o.send,bM m
 few:o.send.length≤1000
theorem JD{n:Int}(h0 : -1≤n)(h1:n≤1099511627776):inI n:=by unfold inI;omega
theorem ws0{l:List uB}{a b:Int}(h:RA l a b=true)(ha:0≤a)(hb:b≤1099511627776){x:uB}(hx:x∈l):MR x:=by
 have:=Qb0 h x hx
 exact⟨JD (by omega) (by omega),by omega⟩
theorem us0{r:G8}(hk:Y9 r){x:uB}(hx:x∈r.log):MR x:=ws0 hk.sound (by omega) hk.term.2 hx
theorem Vg0{r:G8}(hk:Y9 r)(n:Int):0≤bK r.log n∧bK r.log n≤1099511627776:=by
 unfold bK
 split
 ·omega
 cases h:r.log[(n-1).toNat]? with
 | none=>show (0:Int)≤0∧(0:Int)≤_;omega
 | some x =>
  have hx:x∈r.log:=List.mem_of_getElem? h
  have:=Qb0 hk.sound x hx
  have:=hk.term
  show 0≤x.term∧x.term≤_
  omega
theorem ZE0{m:R9}(h0:inI m.kind)(h1:inI m.from_)(h2:inI m.to_)(h3:inI m.term)(h4:inI m.index)(h5:inI m.prev)(h6:inI m.commit):∀n∈EL m,inI n:=by
 intro n hn
 unfold EL at hn
 simp only[List.mem_cons,List.not_mem_nil,or_false] at hn
 rcases hn with rfl | rfl | rfl | rfl | rfl | rfl | rfl | rfl
 ·exact h0
 ·exact h1
 ·exact h2
 ·exact h3
 ·exact h4
 ·exact h5
 ·exact h6
 ·split<;>(unfold inI;omega)
theorem Up0{r:G8}(hk:Y9 r):inI r.id:=by have:=hk.id;unfold I3 at this;exact JD (by omega) (by omega)
theorem mU{r:G8}(hk:Y9 r):inI r.hard.term:=by have:=hk.term;exact JD (by omega) (by omega)
theorem gW{r:G8}(hk:Y9 r)(hl:r.role=2){to_:Int}(ht:I3 to_):bM (z_ r to_):=by
 have h1:=hk.next hl to_ ht
 have h2:=hk.len
 have h3:=hk.commit
 have h4:=Vg0 hk (r.next.get to_-1)
 refine⟨ZE0 (by show inI (2:Int);exact JD (by omega) (by omega)) (Up0 hk) (by unfold I3 at ht;exact JD (by show -1≤to_;omega) (by show to_≤_;omega)) (mU hk) (JD (by show -1≤r.next.get to_-1;omega) (by show r.next.get to_-1≤_;omega)) (JD (by show -1≤bK r.log (r.next.get to_-1);omega) (by show bK r.log (r.next.get to_-1)≤_;omega)) (JD (by show -1≤r.commit;omega) (by show r.commit≤_;omega)),?_,?_⟩
 ·show ((r.log.drop _).take 8).length≤8
  rw[List.length_take]
  omega
 ·intro x hx
  have hx:x∈(r.log.drop (r.next.get to_-1).toNat).take 8:=hx
  exact us0 hk (List.mem_of_mem_drop (List.mem_of_mem_take hx))
theorem Jk0{r:G8}(hk:Y9 r)(hl:r.role=2):∀m∈PR r,bM m:=by
 intro m hm
 obtain⟨i,hi,rfl⟩:=List.mem_map.1 hm
 exact gW hk hl (sU hi)
theorem ck0(r:G8):(PR r).length≤3:=by unfold PR;rw[List.length_map];exact sS _
theorem bF0{o:vE}(h1:o.hard=⟨0,0⟩)(h2:o.from_=0)(h3:o.recs=[]):jB0 o:=⟨by rw[h1];exact⟨JD (by show (-1:Int)≤0;omega) (by show (0:Int)≤_;omega),JD (by show (-1:Int)≤0;omega) (by show (0:Int)≤_;omega)⟩,by rw[h2];omega,by rw[h3];exact Nat.zero_le _,by rw[h3];intro x hx;cases hx⟩
theorem Gd0{o:vE}(h1:o.hard=⟨0,0⟩)(h2:o.from_=0)(h3:o.recs=[])(h4:∀m∈o.send,bM m)(h5:o.send.length≤1000):QN o:=⟨bF0 h1 h2 h3,h4,h5⟩
theorem wK:QN o0:=Gd0 rfl rfl rfl (fun m hm=>by cases hm) (Nat.zero_le _)
theorem WU{m:R9}(h:bM m):QN { o0 with send:=[m] }:=Gd0 rfl rfl rfl (fun x hx=>by rw[List.mem_singleton.1 hx];exact h) (by show 1≤1000;omega)
theorem ff0{r:G8}(hk:Y9 r):QN (oI r).2:=by
 have hk2:=(ae0 hk).1
 unfold oI at hk2 ⊢
 split
 ·rename_i h
  refine Gd0 rfl rfl rfl (Jk0 hk h) ?_
  have:=ck0 r
  show (PR r).length≤1000
  omega
 split
 ·exact wK
 ·rename_i h1 h2
  rw[if_neg h1,if_neg h2] at hk2
  have hk2:Y9 (PO r):=hk2
  have ht:=hk2.term
  have hv:=hk2.vote
  have hl:=hk2.len
  refine⟨⟨⟨mU hk2,JD (by show -1≤(PO r).hard.vote;omega) (by show (PO r).hard.vote≤_;omega)⟩,by show (0:Int)≤1000000;omega,Nat.zero_le _,fun x hx=>by cases hx⟩,?_,?_⟩
  ·intro m hm
   obtain⟨i,hi,rfl⟩:=List.mem_map.1 hm
   have hi3:=sU hi
   have h4:=Vg0 hk2 (PO r).log.length
   refine⟨ZE0 (by show inI (0:Int);exact JD (by omega) (by omega)) (Up0 hk2) (by unfold I3 at hi3;exact JD (by show -1≤i;omega) (by show i≤_;omega)) (mU hk2) (JD (by show (-1:Int)≤(PO r).log.length;omega) (by show ((PO r).log.length:Int)≤_;omega)) (JD (by show -1≤bK (PO r).log (PO r).log.length;omega) (by show bK (PO r).log (PO r).log.length≤_;omega)) (by show inI (0:Int);exact JD (by omega) (by omega)),Nat.zero_le _,fun x hx=>by cases hx⟩
  ·show ((o8 r.id).map _).length≤1000
   rw[List.length_map]
   have:=sS r.id
   omega
theorem iW{r:G8}(hk:Y9 r)(ht:r.role=2→1≤r.hard.term)(data:ByteArray):QN (U8 r data).o:=by
 have hk2:=(iV hk ht data).1
 unfold U8 at hk2 ⊢
 split
 ·exact wK
 split
 ·exact wK
 split
 ·exact wK
 ·rename_i h1 h2 h3
  rw[if_neg h1,if_neg h2,if_neg h3] at hk2
  have hl:r.role=2:=Classical.byContradiction h1
  have hlen:=hk.len
  have hk2:Y9 (wV r data):=hk2
  refine⟨⟨⟨JD (by show (-1:Int)≤0;omega) (by show (0:Int)≤_;omega),JD (by show (-1:Int)≤0;omega) (by show (0:Int)≤_;omega)⟩,by show (r.log.length:Int)+1≤1000000;omega,by show 1≤100;omega,fun x hx=>?_⟩,Jk0 hk2 hl,?_⟩
  ·rw[List.mem_singleton.1 hx]
   exact⟨mU hk,by show data.size≤_;omega⟩
  ·have:=ck0 (wV r data)
   show (PR (wV r data)).length≤1000
   omega
theorem WW{r:G8}(hk:Y9 r){m:R9}(hf:I3 m.from_){k i:Int}(hkk:0≤k∧k≤3)(hi : -1≤i∧i≤100000)(yes:Bool):bM ⟨k,r.id,m.from_,r.hard.term,i,0,0,yes,[]⟩:=by
 refine⟨ZE0 (JD (by show -1≤k;omega) (by show k≤_;omega)) (Up0 hk) (by unfold I3 at hf;exact JD (by show -1≤m.from_;omega) (by show m.from_≤_;omega)) (mU hk) (JD (by show -1≤i;omega) (by show i≤_;omega)) (by show inI (0:Int);exact JD (by omega) (by omega)) (by show inI (0:Int);exact JD (by omega) (by omega)),Nat.zero_le _,fun x hx=>by cases hx⟩
theorem by0{r:G8}(hk:Y9 r){m:R9}(hm:WO r m)(hle:m.term≤r.hard.term)(ht:r.role=2→1≤r.hard.term):QN (ZX r m).2:=by
 have hf:I3 m.from_:=by have:=hm.from3;unfold I3;omega
 have hk2:=(bl0 hk hm hle ht).1
 have hlen:=hk.len
 have hix:=hm.index
 unfold ZX at hk2 ⊢
 split
 ·unfold Fj0
  split
  ·exact WU (WW hk hf (by omega) (by omega) true)
  ·exact WU (WW hk hf (by omega) (by omega) false)
 split
 ·unfold Yb0
  split
  ·exact wK
  split
  ·exact wK
  ·refine Gd0 rfl rfl rfl (Jk0 (Kf0 (VZ hk _)) rfl) ?_
   have:=ck0 (AZ { r with votes:=r.votes.set m.from_ true })
   show (PR (AZ { r with votes:=r.votes.set m.from_ true })).length≤1000
   omega
 split
 ·unfold PW
  split
  ·exact WU (WW hk hf (by omega) (by omega) false)
  split
  ·exact wK
  ·unfold OZ
   have hroom:=hm.room
   have hsl:=Yd0 r.log m.recs m.index.toNat
   split
   ·exact WU (WW (r:=r) hk hf (by omega) (by show -1≤min (r.log.length:Int) (m.index-1)∧min (r.log.length:Int) (m.index-1)≤100000;omega) false)
   split
   ·exact WU (WW (r:=r) hk hf (by omega) (by omega) true)
   split
   ·exact wK
   ·refine⟨⟨⟨JD (by show (-1:Int)≤0;omega) (by show (0:Int)≤_;omega),JD (by show (-1:Int)≤0;omega) (by show (0:Int)≤_;omega)⟩,?_,?_,fun x hx=>?_⟩,fun x hx=>?_,by show 1≤1000;omega⟩
    ·show m.index+(yF r.log m.index.toNat m.recs:Nat)+1≤1000000
     omega
    ·show (m.recs.drop _).length≤100
     rw[List.length_drop]
     have:=hm.few
     omega
    ·have hx:x∈m.recs:=List.mem_of_mem_drop hx
     exact ws0 hm.sound (by omega) hm.term.2 hx
    ·rw[List.mem_singleton.1 hx]
     exact WW (r:=r) hk hf (by omega) (by omega) true
 ·unfold vR at hk2 ⊢
  split
  ·exact wK
  rename_i h1
  have hlead:r.role=2:=Classical.byContradiction fun h=>h1 (.inl h)
  split
  ·rename_i h2
   rw[if_neg (by assumption),if_neg (by assumption),if_neg (by assumption),if_neg h1,if_pos h2] at hk2
   exact WU (gW (r:=li0 r m) hk2 hlead hf)
  split
  ·rename_i h2 h3
   rw[if_neg (by assumption),if_neg (by assumption),if_neg (by assumption),if_neg h1,if_neg h2,if_pos h3] at hk2
   refine WU (gW (r:=BV r m) hk2 ?_ hf)
   unfold BV kJ
   split<;>exact hlead
  ·exact wK
theorem cy0{hd:SN}{q:G8×vE}(hk:Y9 q.1)(h:QN q.2):QN (Kg0 hd q).2:=by
 unfold Kg0
 split
 ·exact h
 ·have:=hk.vote
  exact⟨⟨⟨mU hk,JD (by show -1≤q.1.hard.vote;omega) (by show q.1.hard.vote≤_;omega)⟩,h.st.from_,h.st.few,h.st.recs⟩,h.send,h.few⟩
theorem ef0{r:G8}(hk:Y9 r)(ht:r.role=2→1≤r.hard.term)(m:R9):QN (nJ r m).2:=by
 unfold nJ
 split
 ·rename_i hm
  obtain⟨hk1,hm1⟩:=Bl0 hk hm
  have h1:(KO r m).role=2→1≤(KO r m).hard.term:=by
   unfold KO
   split
   ·intro h;cases h
   ·exact ht
  exact cy0 (bl0 hk1 hm1 (ub0 r m) h1).1 (by0 hk1 hm1 (ub0 r m) h1)
 ·exact wK
end Go.Proofs.YtngbebnhegcokaaGreatDoor

namespace Go.Proofs.YtngbebnhegcokaaGreatDoor
open Go.RowKit
set_option maxRecDepth 100000
def pI(g:nA)(id:Int)(u:UpP)(r:G8):nA:=XG g id { (g.mem.get id) with up:=some { u with r:=r } }
def zV(g:nA)(id:Int)(f:G8→G8×vE):nA×Int :=
 if upE g id≠0 then(g,upE g id)
 else match (g.mem.get id).up with
  | none=>(g,9)
  | some u=>doS (pI g id u (f u.r).1) id { u with r:=(f u.r).1 } (f u.r).2
structure GOk (g:nA):Prop where
 ups:XY g.mem
 net:HV g.net
 com:g.committed.length≤1000000
theorem BU{g:nA}{id:Int}(h:upE g id=0):I3 id∧∃u,(g.mem.get id).up=some u:=by
 unfold upE at h
 split at h
 ·cases h
 rename_i c
 split at h
 ·rename_i hu
  exact⟨by unfold I3;omega,Option.isSome_iff_exists.1 hu⟩
 ·cases h
theorem GAt.same{cs:Array Value}{q:GQ}{mem mem':T3 UH}{cv:Value}(h:GAt cs q mem cv)(he:∀i,I3 i→(mem'.get i).up.isSome=(mem.get i).up.isSome):GAt cs q mem' cv :=
 ⟨h.size,fun i hi=>by rw[he i hi];exact h.mem i hi,h.np,h.cv⟩
theorem ih0{g:nA}{id:Int}{u:UpP}{r:G8}(hi:I3 id)(hu:(g.mem.get id).up=some u)(i:Int)(hi2:I3 i):((pI g id u r).mem.get i).up.isSome=(g.mem.get i).up.isSome:=by
 by_cases c:i=id
 ·subst c
  show ((g.mem.set i _).get i).up.isSome=_
  rw[T3.IA _ hi,hu]
  rfl
 ·show ((g.mem.set id _).get i).up.isSome=_
  rw[T3.WG _ hi hi2 _ c]
theorem bG.set{mem:T3 UH}{B:Base}(h:bG mem B){i:Int}(hi:I3 i){m:UH}(hm:O4 m.kv m.d.keep B∧m.d.keep.length≤1000000):bG (mem.set i m) B:=fun j hj=>by
 by_cases c:j=i
 ·subst c
  rw[T3.IA _ hi]
  exact hm
 ·rw[T3.WG _ hi hj _ c]
  exact h j hj
theorem bG.mono{mem:T3 UH}{B B':Base}(h:bG mem B)(base:∀{d:Dat},d B→d B'):bG mem B':=fun i hi=>⟨base (h i hi).1,(h i hi).2⟩
section
variable {B:Base} {w:World} {σ τ:List Dat} {pg:Nat} {g:nA} {K:Value→World→Prop}
theorem Pw0{q:GQ}{cs:Array Value}{cv:Value}{i:Int}{u:UpP}{s:Sem Next}{post:Value→G8→Dat→Prop}(h:Rel B w (lW pg g q cs cv))(hi:I3 i)(hu:(g.mem.get i).up=some u)
  (G:∀B':Base,(∀{d:Dat},d B→d B')→Does Tryz.prog B' (bA (q.m.get i).rp u.r) s fun v e' τ=>∃r' d,e'=bA (q.m.get i).rp r'∧τ=[d]∧post v r' d)
  (k:∀v r' d w',post v r' d→Rel B w' (lW pg (pI g i u r') q cs cv++[d])→K v w'):upK Tryz.prog s w K:=by
 have hL:u_ (q.m.get i) (g.mem.get i)=eF [Z6 (q.m.get i).dp (g.mem.get i).d (g.mem.get i).kv,JB (q.m.get i).dp (q.m.get i).jc (q.m.get i).jp u.j,O1 (q.m.get i).cp U4 (ccs (q.m.get i).dp 2 u.c),bA (q.m.get i).rp u.r]:=by
  unfold u_ Oy0
  rw[hu]
 have hR:∀r',u_ (q.m.get i) { (g.mem.get i) with up:=some { u with r:=r' } }=eF [Z6 (q.m.get i).dp (g.mem.get i).d (g.mem.get i).kv,JB (q.m.get i).dp (q.m.get i).jc (q.m.get i).jp u.j,O1 (q.m.get i).cp U4 (ccs (q.m.get i).dp 2 u.c),bA (q.m.get i).rp r']:=fun _=>rfl
 rcases hi.cases with rfl | rfl | rfl
 ·have h:Rel B w (u_ (q.m.get 0) (g.mem.get 0) :: [O1 pg K4 cs,u_ q.m.b g.mem.b,u_ q.m.c g.mem.c,KD q.np g.net,Y3 M3 cv (g.committed.map ofL)]):=h.pick [1,0,2,3,4,5] (by decide)
  rw[hL] at h
  have h:=Rel.nS h
  refine h.act 3 rfl (fun B2 own base2=>G B2 base2) fun v e' τ w' hp h=>?_
  obtain⟨r',d,rfl,rfl,hp⟩:=hp
  refine k v r' d w' hp ?_
  have h:Rel B w' ([Z6 (q.m.get 0).dp (g.mem.get 0).d (g.mem.get 0).kv,JB (q.m.get 0).dp (q.m.get 0).jc (q.m.get 0).jp u.j,O1 (q.m.get 0).cp U4 (ccs (q.m.get 0).dp 2 u.c),bA (q.m.get 0).rp r']++[O1 pg K4 cs,u_ q.m.b g.mem.b,u_ q.m.c g.mem.c,KD q.np g.net,Y3 M3 cv (g.committed.map ofL),d]):=h
  have h:=Rel.RL h
  rw[←hR] at h
  exact h.pick [1,0,2,3,4,5,6] (by decide)
 ·have h:Rel B w (u_ (q.m.get 1) (g.mem.get 1) :: [O1 pg K4 cs,u_ q.m.a g.mem.a,u_ q.m.c g.mem.c,KD q.np g.net,Y3 M3 cv (g.committed.map ofL)]):=h.pick [2,0,1,3,4,5] (by decide)
  rw[hL] at h
  have h:=Rel.nS h
  refine h.act 3 rfl (fun B2 own base2=>G B2 base2) fun v e' τ w' hp h=>?_
  obtain⟨r',d,rfl,rfl,hp⟩:=hp
  refine k v r' d w' hp ?_
  have h:Rel B w' ([Z6 (q.m.get 1).dp (g.mem.get 1).d (g.mem.get 1).kv,JB (q.m.get 1).dp (q.m.get 1).jc (q.m.get 1).jp u.j,O1 (q.m.get 1).cp U4 (ccs (q.m.get 1).dp 2 u.c),bA (q.m.get 1).rp r']++[O1 pg K4 cs,u_ q.m.a g.mem.a,u_ q.m.c g.mem.c,KD q.np g.net,Y3 M3 cv (g.committed.map ofL),d]):=h
  have h:=Rel.RL h
  rw[←hR] at h
  exact h.pick [1,2,0,3,4,5,6] (by decide)
 ·have h:Rel B w (u_ (q.m.get 2) (g.mem.get 2) :: [O1 pg K4 cs,u_ q.m.a g.mem.a,u_ q.m.b g.mem.b,KD q.np g.net,Y3 M3 cv (g.committed.map ofL)]):=h.pick [3,0,1,2,4,5] (by decide)
  rw[hL] at h
  have h:=Rel.nS h
  refine h.act 3 rfl (fun B2 own base2=>G B2 base2) fun v e' τ w' hp h=>?_
  obtain⟨r',d,rfl,rfl,hp⟩:=hp
  refine k v r' d w' hp ?_
  have h:Rel B w' ([Z6 (q.m.get 2).dp (g.mem.get 2).d (g.mem.get 2).kv,JB (q.m.get 2).dp (q.m.get 2).jc (q.m.get 2).jp u.j,O1 (q.m.get 2).cp U4 (ccs (q.m.get 2).dp 2 u.c),bA (q.m.get 2).rp r']++[O1 pg K4 cs,u_ q.m.a g.mem.a,u_ q.m.b g.mem.b,KD q.np g.net,Y3 M3 cv (g.committed.map ofL),d]):=h
  have h:=Rel.RL h
  rw[←hR] at h
  exact h.pick [1,2,3,0,4,5,6] (by decide)
theorem GA0(hT:VT B)(hP:VI B)(hok:GOk g)(hke:bG g.mem B){id:Int}{fv:Value}{f:G8→G8×vE}
  (hf:∀u,(g.mem.get id).up=some u→I3 id→UOk id { u with r:=(f u.r).1 }∧QN (f u.r).2∧∀(B':Base) (p:Nat),(∀{d:Dat},d B→d B')→Does Tryz.prog B' (bA p u.r) (dA fv #[ptr p]) fun v e' τ=>e'=bA p (f u.r).1∧τ=[eG v (f u.r).2]) :
  Does Tryz.prog B (kC pg g) (Z0 xI #[ptr pg,.int .i64 id,fv]) fun v e' τ=>v = .int .i64 (zV g id f).2∧e'=kC pg (zV g id f).1∧τ=[]:=by
 refine Does.intro fun B' w K base h k=>?_
 replace hT:=base hT
 replace hP:=base hP
 replace hke:=hke.mono base
 refine lL.up ?_
 unfold lL.pt
 unfold zV at k
 refine h.ask (fun B2 own base2=>UG0 (own (i:=0) rfl) id) fun w1 h=>?_
 rw[Q7,G5,K3]
 refine⟨fun c=>?_,fun c=>?_⟩
 case refine_2 =>
  rw[if_pos c] at k
  exact k _ _ [] _ ⟨rfl,rfl,rfl⟩ h
 rw[if_neg (fun hh=>hh c)] at k
 obtain⟨hi,u,hu⟩:=BU c
 rw[hu] at k
 simp only at k
 obtain⟨hu2,hfo,hG⟩:=hf u hu hi
 obtain⟨q,cs,cv,ha,h⟩:=kC.open h
 rw[List.append_nil] at h
 have hat:=ha.mem id hi
 rw[hu] at hat
 simp -zeta only[J5,U0 OC,Nat.zero_add]
 rw[YX hi,U0 lF,h.ld 0 rfl P8 (o:=4 * id.toNat+3) hat.at3]
 refine Pw0 (post:=fun v r' d=>r'=(f u.r).1∧d=eG v (f u.r).2) h hi hu (fun B2 base2=>?_) fun v r' d w2 hp h=>?_
 ·intro w σ i K h0 h1 h2
  refine hG B2 (q.m.get id).rp (fun hd=>base2 (base hd)) w σ i K h0 h1 fun v e' τ w' hp=>h2 v e' τ w' ?_
  obtain⟨rfl,rfl⟩:=hp
  exact⟨_,_,rfl,rfl,rfl,rfl⟩
 obtain⟨rfl,rfl⟩:=hp
 obtain⟨B2,ext2,h9,ho⟩:=h.Bn0
 have up2:∀{d:Dat},d B'→d B2:=fun hd=>Dat.mono _ ext2.le hd
 obtain⟨⟨rv,sv⟩,ev,qr,qs⟩:=ho
 have ev:v = .agg (f_ (f u.r).2 rv.1 sv.1):=ev
 subst ev
 have h:Rel B2 w2 [kC pg (pI g id u (f u.r).1)]:=kC.close (τ:=[]) (ha.same (ih0 hi hu)) (by rw[List.append_nil];exact h9)
 have hok2:XY (pI g id u (f u.r).1).mem:=hok.ups.set hi fun u' hu'=>by cases hu';exact hu2
 have hke2:bG (pI g id u (f u.r).1).mem B2:=(hke.mono up2).set hi ((hke.mono up2) id hi)
 have hsome:((pI g id u (f u.r).1).mem.get id).up=some { u with r:=(f u.r).1 }:=by
  show ((g.mem.set id _).get id).up=_
  rw[T3.IA _ hi]
 refine h.act 0 rfl (fun B3 own base3=>bE0 (base3 (up2 hT)) (base3 (up2 hP)) hok2 (hke2.mono base3) hok.net hok.com hi hsome hfo.st hfo.send hfo.few (base3 qr) (base3 qs)) fun v e' τ w3 hp h=>?_
 obtain⟨rfl,rfl,rfl⟩:=hp
 exact k _ _ [] _ ⟨rfl,rfl,rfl⟩ (ext2.rel h)
def Zg0(g:nA)(id:Int):nA×Int:=zV g id oI
theorem AD0(hT:VT B)(hP:VI B)(hok:GOk g)(hke:bG g.mem B)(id:Int):Does Tryz.prog B (kC pg g) (Z0 VM #[ptr pg,.int .i64 id]) fun v e' τ=>v = .int .i64 (Zg0 g id).2∧e'=kC pg (Zg0 g id).1∧τ=[]:=by
 refine Does.intro fun B' w K base h k=>?_
 refine jL.up ?_
 unfold jL.pt
 refine h.act 0 rfl (fun B2 own base2=>GA0 (f:=oI) (base2 (base hT)) (base2 (base hP)) hok (hke.mono fun hd=>base2 (base hd)) fun u hu hi=>?_) fun v e' τ w1 hp h=>?_
 ·have huok:=hok.ups id hi u hu
  obtain⟨a,b,c⟩:=ae0 huok.r
  refine⟨⟨huok.j,a,b.trans huok.id,c huok.term⟩,ff0 huok.r,fun B3 p base3=>?_⟩
  intro w σ i K h0 h1 h2
  exact YH (fG0 (p:=p) huok.r w σ i K h0 h1 h2)
 ·exact k _ _ _ _ hp h
end
end Go.Proofs.YtngbebnhegcokaaGreatDoor

namespace Go.Proofs.YtngbebnhegcokaaGreatDoor
open Go.RowKit
set_option maxRecDepth 100000
def CU(g:nA)(n:CO):nA:={ g with net:=n }
def WN(g:nA)(i:Int)(m:R9):nA×Int :=
 if(aA g.net i).1.2≠0 then(CU g (aA g.net i).2,(aA g.net i).1.2)
 else zV (CU g (aA g.net i).2) (aA g.net i).1.1.to_ fun r=>nJ r m
structure WD0 where
 g:nA
 n:Int
 e:Int
def ZP(g:nA)(id:Int)(u:UpP)(x:YD0):WD0 :=
 if x.e≠0 then⟨pI g id u x.r,0,x.e⟩
 else if(doS (pI g id u x.r) id { u with r:=x.r } x.o).2≠0 then⟨(doS (pI g id u x.r) id { u with r:=x.r } x.o).1,0,(doS (pI g id u x.r) id { u with r:=x.r } x.o).2⟩
 else⟨(doS (pI g id u x.r) id { u with r:=x.r } x.o).1,x.n,0⟩
def oJ(g:nA)(id:Int)(data:ByteArray):WD0 :=
 if upE g id≠0 then⟨g,0,upE g id⟩
 else match (g.mem.get id).up with
  | none=>⟨g,0,9⟩
  | some u=>ZP g id u (U8 u.r data)
theorem tE0{s:CO}{n:Nat}(h:HV s):HV (rmS s n):=⟨WC0 h.1,fun p hp=>by
 rcases List.mem_append.1 hp with hp | hp
 ·exact h.2 p (List.mem_of_mem_take hp)
 ·exact h.2 p (List.mem_of_mem_drop hp)⟩
theorem rY{s:CO}{i:Int}(h:HV s):HV (aA s i).2:=by
 unfold aA
 split
 ·split
  ·exact tE0 h
  ·exact tE0 h
 ·exact h
section
variable {B:Base} {w:World} {σ τ:List Dat} {pg:Nat} {g:nA} {K:Value→World→Prop}
theorem dC0{p o:Nat}{r:G8}{m:R9}{pk:bU}(hW:qC B)(hP:VI B)(hk:Y9 r)(hm:bM m)(hb:pk.body=ofL (EN m))(hc:O1 o K5 pk.cs.toArray B):Does Tryz.prog B (bA p r) (Z0 OH #[ptr p,ptr o]) fun v e' τ=>e'=bA p (nJ r m).1∧τ=[eG v (nJ r m).2]:=by
 refine Does.intro fun B' w K base h k=>?_
 replace hW:=base hW
 replace hP:=base hP
 replace hc:=base hc
 refine NF.up ?_
 unfold NF.pt
 have hmf:=hm.few
 refine h.alloc qF fun t w1 h=>?_
 have h:Rel B' w1 [bA p r,O1 t F3 (f_ o0 (.slice none 0 0) (.slice none 0 0))]:=h
 simp -zeta only[U0 bf0,Nat.zero_add]
 rw[O1.ld (h.L6 hc) U6 (o:=2) (v := .string pk.body) rfl,hb]
 refine h.make (fun B2 own base2=>RF0 (base2 hW) (base2 hP) hm) fun v τ w2 hp h=>?_
 obtain⟨mv,rfl,rfl⟩:=hp
 rw[M9,D9]
 have h:Rel B' w2 [bA p r,O1 t F3 (f_ o0 (.slice none 0 0) (.slice none 0 0)),Y3 X3 mv.1 m.recs]:=h
 refine h.R8 (ds:=(m.raw mv).cs.toArray) vJ rfl Z8 rfl (fun v hv=>Enc.one (m.raw mv) v hv) fun m4 w3 h=>?_
 rw[h.r9 3 rfl Z8 rfl]
 refine h.act 0 rfl (fun B2 own base2=>zE0 hk (Y3.read (own (j:=2) (by decide) rfl)) (by omega)) fun v e' τ w4 hp h=>?_
 obtain⟨rfl,rfl⟩:=hp
 have h:Rel B' w4 ([bA p (nJ r m).1,O1 t F3 (f_ o0 (.slice none 0 0) (.slice none 0 0)),Y3 X3 mv.1 m.recs,O1 m4 Y1 (m.raw mv).cs.toArray]++[eG v (nJ r m).2]):=h
 obtain⟨rv,sv,ev,h2⟩:=eG.jP h
 subst ev
 refine BK (i:=1) h2 rfl rfl rfl (FE rv.2 sv.2) fun w5 h3=>?_
 refine k _ _ _ _ ⟨rfl,rfl⟩ ?_
 have h3:=h3.pick [0,4] (by decide)
 exact h3.imp (i:=1) (e:=eG (.agg (f_ (nJ r m).2 rv.1 sv.1)) (nJ r m).2) rfl fun B hB=>eG.of rv.2 sv.2 hB.1 hB.2
theorem gF0(h:Rel B w [kC pg g]):∃q cs cv,GAt cs q g.mem cv∧Rel B w [O1 pg K4 cs,u_ q.m.a g.mem.a,u_ q.m.b g.mem.b,u_ q.m.c g.mem.c,KD q.np g.net,Y3 M3 cv (g.committed.map ofL)]:=by
 obtain⟨q,cs,cv,ha,h⟩:=kC.open h
 exact⟨q,cs,cv,ha,h⟩
theorem my0{q:GQ}{cs:Array Value}{cv:Value}{n:CO}(ha:GAt cs q g.mem cv)(h:Rel B w [O1 pg K4 cs,u_ q.m.a g.mem.a,u_ q.m.b g.mem.b,u_ q.m.c g.mem.c,KD q.np n,Y3 M3 cv (g.committed.map ofL)]):Rel B w [kC pg (CU g n)] :=
 kC.close (g:=CU g n) (τ:=[]) ha (by rw[List.append_nil];exact h)
theorem Dp0(hT:VT B)(hW:qC B)(hP:VI B)(hok:GOk g)(hke:bG g.mem B)(i:Int){m:R9}(hm:(aA g.net i).1.2=0→bM m∧(aA g.net i).1.1.body=ofL (EN m)):Does Tryz.prog B (kC pg g) (Z0 xJ #[ptr pg,.int .i64 i]) fun v e' τ=>v = .int .i64 (WN g i m).2∧e'=kC pg (WN g i m).1∧τ=[]:=by
 refine Does.intro fun B' w K base h k=>?_
 replace hT:=base hT
 replace hW:=base hW
 replace hP:=base hP
 replace hke:=hke.mono base
 refine mH.up ?_
 unfold mH.pt
 obtain⟨q,cs,cv,ha,h⟩:=gF0 h
 simp -zeta only[J5,U0 uQ,Nat.zero_add]
 rw[h.ld 0 rfl nR (o:=12) ha.np]
 refine h.act 4 rfl (fun B2 own base2=>uu0 hok.net.1 i) fun v e' τ w1 hp h=>?_
 obtain⟨rfl,rfl,rfl⟩:=hp
 have hn2:=rY (i:=i) hok.net
 unfold WN at k
 have h:Rel B' w1 [kC pg (CU g (aA g.net i).2)]:=my0 ha h
 generalize aA g.net i=x at *
 obtain⟨⟨pk,e⟩,n⟩:=x
 simp only at h hn2 hm k ⊢
 rw[M9,D9]
 refine h.R8 (ds:=pk.cs.toArray) BL rfl a_ rfl (fun v hv=>Enc.one pk v hv) fun p5 w2 h=>?_
 have h:Rel B' w2 ([kC pg (CU g n)]++[O1 p5 K5 pk.cs.toArray]):=h
 rw[Q7,G5,K3]
 refine⟨fun c=>?_,fun c=>?_⟩
 case refine_2 =>
  rw[if_pos c] at k
  exact k _ _ [] _ ⟨rfl,rfl,rfl⟩ (h.take 1)
 rw[if_neg (fun hh=>hh c)] at k
 obtain⟨hfm,hb⟩:=hm c
 simp -zeta only[U0 aW,Nat.zero_add]
 rw[h.ld 1 rfl Y2 (o:=1) (v := .int .i64 pk.to_) rfl,TI]
 have hok2:GOk (CU g n):=⟨hok.ups,hn2,hok.com⟩
 refine h.act 0 rfl (fun B2 own base2=>GA0 (f:=fun r=>nJ r m) (base2 hT) (base2 hP) hok2 (hke.mono base2) fun u hu hi=>?_) fun v e' τ w3 hp h=>?_
 ·have huok:=hok.ups pk.to_ hi u hu
  obtain⟨a,b,c⟩:=Uk0 huok.r huok.term m
  refine⟨⟨huok.j,a,b.trans huok.id,c⟩,ef0 huok.r huok.term m,fun B3 p base3=>?_⟩
  have hc:=base3 (own (j:=1) (by decide) rfl)
  intro w σ i K h0 h1 h2
  exact YH (dC0 (p:=p) (base3 (base2 hW)) (base3 (base2 hP)) huok.r hfm hb hc w σ i K h0 h1 h2)
 ·obtain⟨rfl,rfl,rfl⟩:=hp
  exact k _ _ [] _ ⟨rfl,rfl,rfl⟩ (h.take 1)
theorem Cv0(h0:kC pg g B):Gives Tryz.prog B (Z0 yJ #[ptr pg]) (.int .i64 g.net.fl.length):=by
 refine Gives.intro fun B' w K base h k=>?_
 obtain⟨q,cs,cv,ha,c0,c1,c2,c3⟩:=kC.jP (base h0)
 refine nH.up ?_
 unfold nH.pt
 simp -zeta only[J5,U0 uQ,Nat.zero_add]
 rw[O1.ld (h.L6 c0) nR (o:=12) ha.np]
 refine h.ask (fun B2 own base2=>zB0 (base2 c1)) fun w1 h=>?_
 exact k _ _ h
theorem Lm0(h0:kC pg g B)(hc:g.committed.length≤1000000):Makes Tryz.prog B (Z0 NH #[ptr pg]) fun u τ=>τ=[Y3 M3 u (g.committed.map ofL)]:=by
 refine Makes.intro fun B' w K base h k=>?_
 obtain⟨q,cs,cv,ha,c0,c1,c2,c3⟩:=kC.jP (base h0)
 refine MF.up ?_
 unfold MF.pt
 have hl:(g.committed.map ofL).length=g.committed.length:=List.length_map ..
 simp -zeta only[J5,U0 vV,Nat.zero_add]
 rw[O1.ld (h.L6 c0) K9 (o:=13) ha.cv]
 refine h.make (fun B2 own base2=>XP (base2 c2) (by omega) (by omega)) fun u τ w1 hp h=>?_
 exact k _ _ _ hp h
theorem ig0(hT:VT B)(hP:VI B)(hok:GOk g)(hke:bG g.mem B)(id:Int)(data:ByteArray):Does Tryz.prog B (kC pg g) (Z0 EF #[ptr pg,.int .i64 id,.string data]) fun v e' τ=>v = .tuple #[.int .i64 (oJ g id data).n,.int .i64 (oJ g id data).e]∧e'=kC pg (oJ g id data).g∧τ=[]:=by
 refine Does.intro fun B' w K base h k=>?_
 replace hT:=base hT
 replace hP:=base hP
 replace hke:=hke.mono base
 refine oH.up ?_
 unfold oH.pt
 unfold oJ at k
 refine h.ask (fun B2 own base2=>UG0 (own (i:=0) rfl) id) fun w1 h=>?_
 rw[Q7,G5,K3]
 refine⟨fun c=>?_,fun c=>?_⟩
 case refine_2 =>
  rw[if_pos c] at k
  exact k _ _ [] _ ⟨rfl,rfl,rfl⟩ h
 rw[if_neg (fun hh=>hh c)] at k
 obtain⟨hi,u,hu⟩:=BU c
 rw[hu] at k
 simp only at k
 have huok:=hok.ups id hi u hu
 obtain⟨q,cs,cv,ha,h⟩:=kC.open h
 rw[List.append_nil] at h
 have hat:=ha.mem id hi
 rw[hu] at hat
 simp -zeta only[J5,U0 OC,Nat.zero_add]
 rw[YX hi,U0 lF,h.ld 0 rfl P8 (o:=4 * id.toNat+3) hat.at3]
 refine Pw0 (post:=fun v r' d=>r'=(U8 u.r data).r∧∃o,v = .tuple #[.int .i64 (U8 u.r data).n,.int .i64 (U8 u.r data).e,o]∧d=eG o (U8 u.r data).o) h hi hu (fun B2 base2=>?_) fun v r' d w2 hp h=>?_
 ·intro w σ i K h0 h1 h2
  refine Ot0 huok.r huok.term data w σ i K h0 h1 fun v e' τ w' hp=>h2 v e' τ w' ?_
  obtain⟨rfl,o,rfl,rfl⟩:=hp
  exact⟨_,_,rfl,rfl,rfl,o,rfl,rfl⟩
 obtain⟨rfl,o,rfl,rfl⟩:=hp
 obtain⟨a,b,c2⟩:=iV huok.r huok.term data
 have hfo:=iW huok.r huok.term data
 obtain⟨B2,ext2,h9,ho⟩:=h.Bn0
 have up2:∀{d:Dat},d B'→d B2:=fun hd=>Dat.mono _ ext2.le hd
 obtain⟨⟨rv,sv⟩,ev,qr,qs⟩:=ho
 have ev:o = .agg (f_ (U8 u.r data).o rv.1 sv.1):=ev
 subst ev
 generalize U8 u.r data=x at *
 rw[UU,Dd0,Ed0]
 have h:Rel B2 w2 [kC pg (pI g id u x.r)]:=kC.close (τ:=[]) (ha.same (ih0 hi hu)) (by rw[List.append_nil];exact h9)
 refine h.R8 (ds:=f_ x.o rv.1 sv.1) qF rfl EC rfl (FE rv.2 sv.2) fun o11 w3 h=>?_
 unfold ZP at k
 refine P6 fun J hJ=>?_
 rw[F7,K3]
 refine⟨fun c=>?_,fun c=>?_⟩
 case refine_2 =>
  rw[if_pos c] at k
  refine hJ _ _ ?_
  rw[Q7,G5,K3]
  exact⟨fun hh=>absurd hh c,fun _=>k _ _ [] _ ⟨rfl,rfl,rfl⟩ (ext2.rel (h.take 1))⟩
 rw[if_neg (fun hh=>hh c)] at k
 rw[h.r9 1 rfl EC rfl]
 have hok2:XY (pI g id u x.r).mem:=hok.ups.set hi fun u' hu'=>by cases hu';exact⟨huok.j,a,b.trans huok.id,c2⟩
 have hke2:bG (pI g id u x.r).mem B2:=(hke.mono up2).set hi ((hke.mono up2) id hi)
 have hsome:((pI g id u x.r).mem.get id).up=some { u with r:=x.r }:=by
  show ((g.mem.set id _).get id).up=_
  rw[T3.IA _ hi]
 refine h.act 0 rfl (fun B3 own base3=>bE0 (base3 (up2 hT)) (base3 (up2 hP)) hok2 (hke2.mono base3) hok.net hok.com hi hsome hfo.st hfo.send hfo.few (base3 qr) (base3 qs)) fun v e' τ w4 hp h=>?_
 obtain⟨rfl,rfl,rfl⟩:=hp
 refine hJ _ _ ?_
 rw[Q7,G5,K3]
 refine⟨fun c=>?_,fun c=>?_⟩
 ·rw[if_neg (fun hh=>hh c)] at k
  exact k _ _ [] _ ⟨rfl,rfl,rfl⟩ (ext2.rel (h.take 1))
 ·rw[if_pos c] at k
  exact k _ _ [] _ ⟨rfl,rfl,rfl⟩ (ext2.rel (h.take 1))
end
end Go.Proofs.YtngbebnhegcokaaGreatDoor

namespace Go.Proofs.YtngbebnhegcokaaGreatDoor
open Go.RowKit
set_option maxRecDepth 100000
section
variable {B:Base} {w:World} {σ τ:List Dat} {pg:Nat} {g:nA} {K:Value→World→Prop}
def RD0(pg:Nat)(B:Base)(cs:Array Value)(o:Nat)(q:MQ)(m:UH)(s:Sem Next)(out:Int→UH→Dat→Prop):Prop :=
 Does Tryz.prog B (yU [O1 pg K4 cs,u_ q m]) s fun v e' τ=>∃cs' q' m' e d,v = .int .i64 e∧e'=yU [O1 pg K4 cs',u_ q' m']∧τ=[d]∧NB cs' o q' m'.up.isSome∧IC cs cs' o∧out e m' d
theorem u_.disk{q:MQ}{m:UH}(h:u_ q m B):Z6 q.dp m.d m.kv B:=by
 unfold u_ Oy0 at h
 cases hu:m.up with
 | none=>rw[hu] at h;exact eF.get (j:=0) h rfl
 | some u=>rw[hu] at h;exact eF.get (j:=0) h rfl
theorem RD0.intro{cs:Array Value}{o:Nat}{q:MQ}{m:UH}{s:Sem Next}{out:Int→UH→Dat→Prop}
  (h:∀(B':Base) (w:World) (K:Value→World→Prop),(∀{d:Dat},d B→d B')→Rel B' w [O1 pg K4 cs,u_ q m]→(∀cs' q' m' e d w',NB cs' o q' m'.up.isSome→IC cs cs' o→out e m' d→Rel B' w' [O1 pg K4 cs',u_ q' m',d]→K (.int .i64 e) w')→upK Tryz.prog s w K):RD0 pg B cs o q m s out:=by
 refine Does.intro fun B' w K base h0 k=>?_
 have h0:=Rel.kX (σ:=[]) (L:=[O1 pg K4 cs,u_ q m]) h0
 refine h B' w K base h0 fun cs' q' m' e d w' h1 h2 ho h3=>?_
 have h3:Rel B' w' ([d]++[O1 pg K4 cs',u_ q' m']):=h3.pick [2,0,1] (by decide)
 have h3:=Rel.kR h3
 exact k _ _ [d] w' ⟨cs',q',m',e,d,rfl,rfl,rfl,h1,h2,ho⟩ (h3.pick [1,0] (by decide))
end
end Go.Proofs.YtngbebnhegcokaaGreatDoor

namespace Go.Proofs.YtngbebnhegcokaaGreatDoor
open Go.RowKit
set_option maxRecDepth 100000
theorem Za0{c:List Bs}{m:UH}{i:Int}(hm:∀u,m.up=some u→UOk i u)(hc:c.length≤1000000):(lS c m).length≤1000000:=by
 unfold lS
 cases hu:m.up with
 | none=>exact hc
 | some u =>
  have h1:=(hm u hu).r.len
  show (if u.r.commit≤c.length then c else(u.r.log.take u.r.commit.toNat).map fun x=>bl x.data).length≤1000000
  split
  ·exact hc
  ·rw[List.length_map,List.length_take]
   omega
theorem AC0{g:nA}(h:GOk g):GOk (eo0 g):=by
 refine⟨h.ups,h.net,?_⟩
 have h0:=Za0 (h.ups 0 (by unfold I3;omega)) h.com
 have h1:=Za0 (h.ups 1 (by unfold I3;omega)) h0
 exact Za0 (h.ups 2 (by unfold I3;omega)) h1
theorem Mb0{g:nA}(h:GOk g){i:Int}(hi:I3 i){m:UH}(hm:∀u,m.up=some u→UOk i u):GOk (XG g i m):=⟨h.ups.set hi hm,h.net,h.com⟩
theorem Gp0{g:nA}(h:GOk g){i:Int}(hi:I3 i){u:UpP}(hu:UOk i u){o:vE}(hf:∀m∈o.send,bM m):GOk (doS g i u o).1:=by
 refine AC0 ?_
 unfold do2
 have h1:GOk (XG g i (XE (g.mem.get i) u o).1):=Mb0 h hi (Do0 hu)
 split
 ·exact⟨h1.ups,JY h.net hf,h1.com⟩
 ·exact h1
theorem Oo0{g:nA}(h:GOk g){id:Int}{f:G8→G8×vE}(hf:∀u,(g.mem.get id).up=some u→I3 id→UOk id { u with r:=(f u.r).1 }∧QN (f u.r).2):GOk (zV g id f).1:=by
 unfold zV
 split
 ·exact h
 rename_i c
 obtain⟨hi,u,hu⟩:=BU (Classical.byContradiction c)
 rw[hu]
 obtain⟨h1,h2⟩:=hf u hu hi
 exact Gp0 (Mb0 h hi fun u' hu'=>by cases hu';exact h1) hi h1 h2.send
theorem iw0{g:nA}(h:GOk g)(id:Int):∀u,(g.mem.get id).up=some u→I3 id→UOk id { u with r:=(oI u.r).1 }∧QN (oI u.r).2:=fun u hu hi=>by
 have huok:=h.ups id hi u hu
 obtain⟨a,b,c⟩:=ae0 huok.r
 exact⟨⟨huok.j,a,b.trans huok.id,c huok.term⟩,ff0 huok.r⟩
theorem Vu0{g:nA}(h:GOk g)(id:Int)(m:R9):∀u,(g.mem.get id).up=some u→I3 id→UOk id { u with r:=(nJ u.r m).1 }∧QN (nJ u.r m).2:=fun u hu hi=>by
 have huok:=h.ups id hi u hu
 obtain⟨a,b,c⟩:=Uk0 huok.r huok.term m
 exact⟨⟨huok.j,a,b.trans huok.id,c⟩,ef0 huok.r huok.term m⟩
theorem QZ{g:nA}(h:GOk g)(id:Int):GOk (Zg0 g id).1:=Oo0 h (iw0 h id)
theorem bp0{g:nA}(h:GOk g){n:CO}(hn:HV n):GOk (CU g n):=⟨h.ups,hn,h.com⟩
theorem QV{g:nA}(h:GOk g)(i:Int)(m:R9):GOk (WN g i m).1:=by
 unfold WN
 have h1:GOk (CU g (aA g.net i).2):=bp0 h (rY h.net)
 split
 ·exact h1
 ·exact Oo0 h1 (Vu0 h1 _ m)
theorem TS{g:nA}(h:GOk g)(id:Int)(data:ByteArray):GOk (oJ g id data).g:=by
 unfold oJ
 split
 ·exact h
 rename_i c
 obtain⟨hi,u,hu⟩:=BU (Classical.byContradiction c)
 rw[hu]
 show GOk (ZP g id u (U8 u.r data)).g
 have huok:=h.ups id hi u hu
 obtain⟨a,b,c2⟩:=iV huok.r huok.term data
 have hfo:=iW huok.r huok.term data
 have hu2:UOk id { u with r:=(U8 u.r data).r }:=⟨huok.j,a,b.trans huok.id,c2⟩
 have h1:GOk (pI g id u (U8 u.r data).r):=Mb0 h hi fun u' hu'=>by cases hu';exact hu2
 unfold ZP
 split
 ·exact h1
 split
 ·exact Gp0 h1 hi hu2 hfo.send
 ·exact Gp0 h1 hi hu2 hfo.send
def E_(g g':nA):Prop:=∀i,I3 i→(g'.mem.get i).kv=(g.mem.get i).kv∧(g'.mem.get i).d.keep=(g.mem.get i).d.keep
theorem E_.refl(g:nA):E_ g g:=fun _ _=>⟨rfl,rfl⟩
theorem E_.trans{a b c:nA}(h:E_ a b)(h':E_ b c):E_ a c:=fun i hi=>⟨(h' i hi).1.trans (h i hi).1,(h' i hi).2.trans (h i hi).2⟩
theorem E_.keep{g g':nA}{B:Base}(h:E_ g g')(hk:bG g.mem B):bG g'.mem B:=fun i hi=>by rw[(h i hi).1,(h i hi).2];exact hk i hi
theorem E_.XG(g:nA){i:Int}(hi:I3 i){m:UH}(h:m.kv=(g.mem.get i).kv∧m.d.keep=(g.mem.get i).d.keep):E_ g (XG g i m):=fun j hj=>by
 by_cases c:j=i
 ·subst c
  show ((g.mem.set j m).get j).kv=_∧((g.mem.set j m).get j).d.keep=_
  rw[T3.IA _ hi]
  exact h
 ·show ((g.mem.set i m).get j).kv=_∧((g.mem.set i m).get j).d.keep=_
  rw[T3.WG _ hi hj _ c]
  exact⟨rfl,rfl⟩
theorem Ym0(g:nA){i:Int}(hi:I3 i)(u:UpP)(o:vE):E_ g (doS g i u o).1:=by
 have h1:=E_.XG g hi (dw0 (g.mem.get i) u o)
 unfold doS do2
 split
 ·exact fun j hj=>h1 j hj
 ·exact fun j hj=>h1 j hj
theorem TY(g:nA)(id:Int)(f:G8→G8×vE):E_ g (zV g id f).1:=by
 unfold zV
 split
 ·exact E_.refl g
 rename_i c
 obtain⟨hi,u,hu⟩:=BU (Classical.byContradiction c)
 rw[hu]
 have h1:E_ g (pI g id u (f u.r).1):=E_.XG g hi ⟨rfl,rfl⟩
 have h2:E_ (pI g id u (f u.r).1) (doS (pI g id u (f u.r).1) id { u with r:=(f u.r).1 } (f u.r).2).1:=Ym0 _ hi _ _
 exact h1.trans h2
theorem GX(g:nA)(i:Int)(m:R9):E_ g (WN g i m).1:=by
 unfold WN
 split
 ·exact E_.refl g
 ·exact fun j hj=>TY (CU g (aA g.net i).2) _ _ j hj
open Classical in
noncomputable def BZ(b:ByteArray):R9:=if h:∃m,bM m∧b=ofL (EN m) then h.choose else⟨0,0,0,0,0,0,0,false,[]⟩
noncomputable def jZ(g:nA)(i:Int):nA×Int:=WN g i (BZ (aA g.net i).1.1.body)
noncomputable def rJ:Nat→nA→nA
 | 0,g=>g
 | k+1,g=>if g.net.fl=[] then g else rJ k (jZ g 0).1
noncomputable def jX(g:nA)(id most:Int):nA:=rJ most.toNat (Zg0 g id).1
theorem Rm0{g:nA}(h:GOk g)(i:Int)(hz:(aA g.net i).1.2=0):bM (BZ (aA g.net i).1.1.body)∧(aA g.net i).1.1.body=ofL (EN (BZ (aA g.net i).1.1.body)):=by
 have hex:∃m,bM m∧(aA g.net i).1.1.body=ofL (EN m):=by
  unfold aA at hz ⊢
  split at hz
  ·rename_i n p ha
   split at hz
   ·rename_i hh
    rw[if_pos hh]
    obtain⟨_,hn,hp⟩:=Zw0 ha
    obtain⟨m,h1,h2⟩:=h.net.2 p (by rw[←hp];exact List.getElem_mem hn)
    exact⟨m,h1,h2⟩
   ·cases hz
  ·cases hz
 unfold BZ
 rw[dif_pos hex]
 exact hex.choose_spec
section
variable {B:Base} {w:World} {σ τ:List Dat} {pg:Nat} {g:nA} {K:Value→World→Prop}
theorem tj0(hT:VT B)(hW:qC B)(hP:VI B)(hok:GOk g)(hke:bG g.mem B)(id most:Int)(hmo:most≤1000000):Does Tryz.prog B (kC pg g) (Z0 oG #[ptr pg,.int .i64 id,.int .i64 most]) fun _ e' τ=>e'=kC pg (jX g id most)∧τ=[]:=by
 refine Does.intro fun B' w K base h k=>?_
 replace hT:=base hT
 replace hW:=base hW
 replace hP:=base hP
 replace hke:=hke.mono base
 refine MI.up ?_
 unfold MI.pt
 refine h.act 0 rfl (fun B2 own base2=>AD0 (base2 hT) (base2 hP) hok (hke.mono base2) id) fun v e' τ w1 hp h=>?_
 obtain⟨rfl,rfl,rfl⟩:=hp
 have hok1:=QZ hok id
 have hke1:bG (Zg0 g id).1.mem B':=(TY g id oI).keep hke
 unfold jX at k
 generalize (Zg0 g id).1=g1 at *
 refine P6 fun J hJ=>?_
 replace hJ:∀(n:Int) (g':nA) w',rJ most.toNat g1=g'→Rel B' w' [kC pg g']→J (.int .i64 n,()) w':=fun n g' w' he h=>hJ _ _ (k _ _ [] _ ⟨by rw[he],rfl⟩ h)
 clear k hok hke
 refine F6 (fun z w'=>∃(n:Nat) (g':nA),z=(.int .i64 n,())∧(n:Int)≤max most 0∧rJ most.toNat g1=rJ (most.toNat-n) g'∧GOk g'∧bG g'.mem B'∧Rel B' w' [kC pg g'])
  (fun z _=>most.toNat-(match z.1 with | .int _ n=>n.toNat | _=>0)) ⟨0,g1,rfl,by omega,rfl,hok1,hke1,h⟩ ?_
 clear h hok1 hke1
 rintro z w2 ⟨n,g',rfl,hn,hs,hok,hke,h⟩ next hnext
 rw[G6,K3]
 refine⟨fun hlt=>?_,fun hge=>?_⟩
 case refine_2 =>
  refine hJ n g' _ ?_ h
  rw[hs,show most.toNat-n=0 by omega]
  rfl
 obtain⟨j,hj⟩:∃j,most.toNat-n=j+1:=⟨most.toNat-n-1,by omega⟩
 rw[hj,rJ] at hs
 refine h.ask (fun B2 own base2=>Cv0 (own (i:=0) rfl)) fun w3 h=>?_
 rw[x9,K3]
 refine⟨fun c=>?_,fun c=>?_⟩
 case refine_2 =>
  rw[if_pos (List.eq_nil_of_length_eq_zero (by omega))] at hs
  exact hJ n g' _ hs h
 rw[if_neg (fun hh=>by rw[hh] at c;exact absurd c (by decide))] at hs
 refine h.act 0 rfl (fun B2 own base2=>Dp0 (base2 hT) (base2 hW) (base2 hP) hok (hke.mono base2) 0 (m:=BZ (aA g'.net 0).1.1.body) (Rm0 hok 0)) fun v e' τ w4 hp h=>?_
 obtain⟨rfl,rfl,rfl⟩:=hp
 rw[Z5,E5 (by omega) (by omega)]
 refine hnext _ _ ⟨n+1,(jZ g' 0).1,rfl,by omega,?_,QV hok 0 _,(GX g' 0 _).keep hke,h⟩ (by simp only;omega)
 rw[hs,show most.toNat-(n+1)=j by omega]
end
end Go.Proofs.YtngbebnhegcokaaGreatDoor

namespace Go.Proofs.YtngbebnhegcokaaGreatDoor
open Go.RowKit
set_option maxRecDepth 100000
instance (i:Int):Decidable (I3 i):=by unfold I3;exact inferInstance
theorem rz0{s s':DS}{j:JP}{c:CS}{e:Int}(hd:DOk s)(h:aY s=(s',(some (j,c),e))):JOk j:=by
 unfold aY at h
 split at h
 ·cases h
 unfold jo0 at h
 split at h
 ·cases h
 split at h
 ·cases h
 rename_i hoj _ _ _ _
 cases h
 exact(lo0 (hd.L9 2) hoj).1
theorem or0{s:DS}{kv:Value}{id:Int}(hi:I3 id)(hd:DOk s):∀u,(upM id kv s).1.up=some u→UOk id u:=by
 intro u hu
 unfold upM at hu
 split at hu
 ·cases hu
 ·rename_i hom
  have hj:=rz0 hd hom
  simp only at hu
  unfold LC0 at hu
  split at hu
  ·rename_i hn
   cases hu
   exact⟨hj,rC0 hn,rfl,fun h=>by cases h⟩
  ·cases hu
theorem Tb0(id:Int)(kv:Value)(s:DS):(upM id kv s).1.kv=kv∧(upM id kv s).1.d.keep=s.keep:=by
 have h1:(aY s).1.keep=s.keep:=by
  unfold aY
  split
  ·exact cB s 2
  ·have h2:=Ef0 (L9 s 2).1
   unfold jo0
   split
   ·rename_i hq
    rw[hq] at h2
    exact h2.trans (cB s 2)
   ·rename_i hq
    rw[hq] at h2
    split
    ·exact h2.trans (cB s 2)
    ·exact h2.trans (cB s 2)
 unfold upM
 split
 ·rename_i hq
  rw[hq] at h1
  exact⟨rfl,h1⟩
 ·rename_i hq
  rw[hq] at h1
  exact⟨rfl,h1⟩
def gNil:Value := .slice none 0 0
noncomputable def Vh0:nA:=⟨⟨(upM 0 gNil iC).1,(upM 1 gNil iC).1,(upM 2 gNil iC).1⟩,⟨[],0⟩,[]⟩
section
variable {B:Base} {w:World} {σ τ:List Dat} {pg:Nat} {g:nA} {K:Value→World→Prop}
theorem IC.mem{cs cs':Array Value}{o o2:Nat}{q:MQ}{up:Bool}(h:IC cs cs' o)(hd:o2+4≤o∨o+4≤o2)(hm:NB cs o2 q up):NB cs' o2 q up:=by
 unfold NB at hm ⊢
 rw[h.2 _ (by omega),h.2 _ (by omega),h.2 _ (by omega),h.2 _ (by omega)]
 exact hm
theorem wq0{ρ:List Dat}{cs:Array Value}{i:Nat}(hi:i<3)(hT:VT B)(hW:qC B)(hP:VI B)(hcs:cs.size=14)(hnil:∀k,4 * i≤k→k<12→cs.toList[k]? = some (.pointer none))
  {dp:Nat} (h:Rel B w (ρ++[O1 pg K4 (cs.setIfInBounds (4 * i) (ptr dp)),Z6 dp iC gNil]))
  (k:∀v q cs' w',NB cs' (4 * i) q (upM i gNil iC).1.up.isSome→IC cs cs' (4 * i)→Rel B w' (ρ++[O1 pg K4 cs',u_ q (upM i gNil iC).1])→K v w') :
  upK Tryz.prog (Z0 bH #[.pointer (some ⟨pg,4 * i,none⟩),.int .i64 i]) w K:=by
 refine h.zh0 (fun B2 own base2=>JF0 (kv:=gNil) (s:=iC) (dp:=dp) (base2 hT) (base2 hW) (base2 hP) AX (Nat.zero_le _) i (by rw[Array.size_setIfInBounds];exact hcs) (by omega) (XK (by omega)) ⟨none,by rw[Z_ (by omega)];exact hnil _ (by omega) (by omega)⟩ ⟨none,by rw[Z_ (by omega)];exact hnil _ (by omega) (by omega)⟩ (by rw[Z_ (by omega)];exact hnil _ (by omega) (by omega))) fun v d1 d2 w' hp h=>?_
 obtain⟨rfl,q,cs',_,rfl,rfl,h1,h2⟩:=hp
 exact k _ q cs' w' h1 (((IC.refl cs _).set (by omega)).trans h2) h
set_option maxHeartbeats 2000000 in
theorem DF0(hT:VT B)(hW:qC B)(hP:VI B):Makes Tryz.prog B (Z0 DV #[]) fun u τ=>∃pg,u=ptr pg∧τ=[kC pg Vh0]:=by
 refine Makes.intro fun B' w K base h k=>?_
 replace hT:=base hT
 replace hW:=base hW
 replace hP:=base hP
 refine YW.up ?_
 unfold YW.pt
 refine h.make (fun B2 own base2=>bz0) fun u τ w1 hp h=>?_
 obtain⟨np,rfl,rfl⟩:=hp
 rw[ta0]
 refine h.box fun pg w2 h=>?_
 have h:Rel B' w2 [KD np ⟨[],0⟩,O1 pg K4 #[.pointer none,.pointer none,.pointer none,.pointer none,.pointer none,.pointer none,.pointer none,.pointer none,.pointer none,.pointer none,.pointer none,.pointer none,ptr np,.slice none 0 0]]:=h
 generalize hcs0:(#[.pointer none,.pointer none,.pointer none,.pointer none,.pointer none,.pointer none,.pointer none,.pointer none,.pointer none,.pointer none,.pointer none,.pointer none,ptr np,.slice none 0 0]:Array Value)=cs0 at h
 have hs0:cs0.size=14:=by rw[←hcs0];rfl
 have hn0:∀k,k<12→cs0.toList[k]? = some (.pointer none):=fun k hk=>by
  rw[←hcs0]
  have:k=0∨k=1∨k=2∨k=3∨k=4∨k=5∨k=6∨k=7∨k=8∨k=9∨k=10∨k=11:=by omega
  rcases this with rfl | rfl | rfl | rfl | rfl | rfl | rfl | rfl | rfl | rfl | rfl | rfl<;>rfl
 have h12:cs0.toList[12]? = some (ptr np):=by rw[←hcs0];rfl
 have h13:cs0.toList[13]? = some (.slice none 0 0):=by rw[←hcs0];rfl
 clear hcs0
 refine⟨4,?_⟩
 rw[iter,G6,K3]
 refine⟨fun _=>?_,fun c=>absurd (show (0:Int)<3 by decide) c⟩
 have h:=h.tick
 generalize tick w2=w2 at *
 simp -zeta only[J5,U0 OC,Nat.zero_add]
 refine h.make (fun B2 own base2=>zp0) fun u τ w3 hp h=>?_
 obtain⟨d0,rfl,rfl⟩:=hp
 rw[YX (show I3 (0:Int) by unfold I3;omega),U0 kF]
 refine h.st 1 rfl H_ (o:=4 * (0:Int).toNat+0) (show 4 * (0:Int).toNat+0<cs0.size by rw[hs0];decide) rfl fun w4 h=>?_
 rw[YX (show I3 (0:Int) by unfold I3;omega)]
 refine wq0 (pg:=pg) (i:=0) (ρ:=[KD np ⟨[],0⟩]) (dp:=d0) (by omega) hT hW hP hs0 (fun k _ hk=>hn0 k hk) h fun v q0 cs1 w5 m0 e0 h=>?_
 have hs1:cs1.size=14:=e0.1.trans hs0
 have h:Rel B' w5 [KD np ⟨[],0⟩,O1 pg K4 cs1,u_ q0 (upM 0 gNil iC).1]:=h
 rw[Z5,E5 (by omega) (by omega)]
 rw[iter,G6,K3]
 refine⟨fun _=>?_,fun c=>absurd (show (0+1:Int)<3 by decide) c⟩
 rw[show (0+1:Int)=1 from rfl]
 have h:=h.tick
 generalize tick w5=w5 at *
 simp -zeta only[J5,U0 OC,Nat.zero_add]
 refine h.make (fun B2 own base2=>zp0) fun u τ w3 hp h=>?_
 obtain⟨d1,rfl,rfl⟩:=hp
 rw[YX (show I3 (1:Int) by unfold I3;omega),U0 kF]
 refine h.st 1 rfl H_ (o:=4 * (1:Int).toNat+0) (show 4 * (1:Int).toNat+0<cs1.size by rw[hs1];decide) rfl fun w4 h=>?_
 rw[YX (show I3 (1:Int) by unfold I3;omega)]
 have h:Rel B' w4 ([KD np ⟨[],0⟩,u_ q0 (upM 0 gNil iC).1]++[O1 pg K4 (cs1.setIfInBounds (4 * 1) (ptr d1)),Z6 d1 iC gNil]):=h.pick [0,2,1,3] (by decide)
 refine wq0 (pg:=pg) (i:=1) (dp:=d1) (by omega) hT hW hP hs1 (fun k h1 hk=>by rw[e0.2 k (by omega)];exact hn0 k hk) h fun v q1 cs2 w5 m1 e1 h=>?_
 have hs2:cs2.size=14:=e1.1.trans hs1
 have h:Rel B' w5 [KD np ⟨[],0⟩,u_ q0 (upM 0 gNil iC).1,O1 pg K4 cs2,u_ q1 (upM 1 gNil iC).1]:=h
 rw[Z5,E5 (by omega) (by omega)]
 rw[iter,G6,K3]
 refine⟨fun _=>?_,fun c=>absurd (show (1+1:Int)<3 by decide) c⟩
 rw[show (1+1:Int)=2 from rfl]
 have h:=h.tick
 generalize tick w5=w5 at *
 simp -zeta only[J5,U0 OC,Nat.zero_add]
 refine h.make (fun B2 own base2=>zp0) fun u τ w3 hp h=>?_
 obtain⟨d2,rfl,rfl⟩:=hp
 rw[YX (show I3 (2:Int) by unfold I3;omega),U0 kF]
 refine h.st 2 rfl H_ (o:=4 * (2:Int).toNat+0) (show 4 * (2:Int).toNat+0<cs2.size by rw[hs2];decide) rfl fun w4 h=>?_
 rw[YX (show I3 (2:Int) by unfold I3;omega)]
 have h:Rel B' w4 ([KD np ⟨[],0⟩,u_ q0 (upM 0 gNil iC).1,u_ q1 (upM 1 gNil iC).1]++[O1 pg K4 (cs2.setIfInBounds (4 * 2) (ptr d2)),Z6 d2 iC gNil]):=h.pick [0,1,3,2,4] (by decide)
 refine wq0 (pg:=pg) (i:=2) (dp:=d2) (by omega) hT hW hP hs2 (fun k h1 hk=>by rw[e1.2 k (by omega),e0.2 k (by omega)];exact hn0 k hk) h fun v q2 cs3 w5 m2 e2 h=>?_
 have hs3:cs3.size=14:=e2.1.trans hs2
 rw[Z5,E5 (by omega) (by omega)]
 rw[iter,G6,K3]
 refine⟨fun c=>absurd c (show ¬(2+1:Int)<3 by decide),fun _=>?_⟩
 have h:Rel B' w5 [KD np ⟨[],0⟩,u_ q0 (upM 0 gNil iC).1,u_ q1 (upM 1 gNil iC).1,O1 pg K4 cs3,u_ q2 (upM 2 gNil iC).1]:=h
 have h:=h.VC ByteArray M3
 have h:Rel B' w5 (lW pg Vh0 ⟨⟨q0,q1,q2⟩,np⟩ cs3 (.slice none 0 0)++[]):=h.pick [3,1,2,4,0,5] (by decide)
 refine k _ _ _ ⟨pg,rfl,rfl⟩ (kC.close (g:=Vh0) ⟨hs3,fun i hi=>?_,?_,?_⟩ h)
 ·rcases hi.cases with rfl | rfl | rfl
  ·exact e2.mem (by omega) (e1.mem (by omega) m0)
  ·exact e2.mem (by omega) m1
  ·exact m2
 ·rw[e2.2 _ (by omega),e1.2 _ (by omega),e0.2 _ (by omega)];exact h12
 ·rw[e2.2 _ (by omega),e1.2 _ (by omega),e0.2 _ (by omega)];exact h13
theorem kl0:GOk Vh0∧∀B:Base,bG Vh0.mem B:=by
 have hd:DOk iC:=⟨fun _=>Nat.zero_le _,fun _=>Nat.zero_le _,(fun q hq=>by cases hq),List.nodup_nil,(show (0:Int)≤0∧(0:Int)≤9223372036854775807 by omega),(show (0:Int)≤0∧(0:Int)≤9223372036854775807 by omega)⟩
 refine⟨⟨fun i hi u hu=>?_,⟨Nat.zero_le _,(fun p hp=>by cases hp)⟩,Nat.zero_le _⟩,fun B i hi=>?_⟩
 ·rcases hi.cases with rfl | rfl | rfl
  ·exact or0 hi hd u hu
  ·exact or0 hi hd u hu
  ·exact or0 hi hd u hu
 ·rcases hi.cases with rfl | rfl | rfl
  ·show O4 (upM 0 gNil iC).1.kv (upM 0 gNil iC).1.d.keep B∧(upM 0 gNil iC).1.d.keep.length≤1000000
   rw[(Tb0 0 gNil iC).1,(Tb0 0 gNil iC).2]
   exact⟨AX,Nat.zero_le _⟩
  ·show O4 (upM 1 gNil iC).1.kv (upM 1 gNil iC).1.d.keep B∧(upM 1 gNil iC).1.d.keep.length≤1000000
   rw[(Tb0 1 gNil iC).1,(Tb0 1 gNil iC).2]
   exact⟨AX,Nat.zero_le _⟩
  ·show O4 (upM 2 gNil iC).1.kv (upM 2 gNil iC).1.d.keep B∧(upM 2 gNil iC).1.d.keep.length≤1000000
   rw[(Tb0 2 gNil iC).1,(Tb0 2 gNil iC).2]
   exact⟨AX,Nat.zero_le _⟩
end
end Go.Proofs.YtngbebnhegcokaaGreatDoor

namespace Go.Proofs.YtngbebnhegcokaaGreatDoor
open Go.RowKit
set_option maxRecDepth 100000
abbrev PrD:=yD
structure Pr where
 id:Int
 epoch:Int
 next:Int
 last:List Int
abbrev Pr.raw(p:Pr)(v:SV):PrD:=⟨p.id,p.epoch,p.next,v⟩
abbrev PrL:=List (Pr×SV)
def o9(L:PrL):List PrD:=L.map fun p=>p.1.raw p.2
def IG(L:PrL):Dat:=Dat.all L fun p=>O4 p.2.1 p.1.last
abbrev prs(L:PrL):List Pr:=L.map (·.1)
def inP(n:Int):Prop:=0≤n∧n≤1099511627776
instance (n:Int):Decidable (inP n):=by unfold inP;infer_instance
structure KR (p:Pr):Prop where
 id:inP p.id
 epoch:inP p.epoch
 next:inP p.next
 len:(p.last.length:Int)=min p.next 20
 each:∀i (h:i<p.last.length),inP p.last[i]
 asc:∀i (h:i<p.last.length),0<i→p.last[i-1]<p.last[i]
structure DC (s:List Pr):Prop where
 fine:∀p∈s,KR p
 asc:∀i (h:i<s.length),0<i→s[i-1].id<s[i].id
 len:s.length≤50
open Classical in
noncomputable def sn0(p:Pr):Bool:=decide (KR p)
open Classical in
noncomputable def rb0(s:List Pr):Bool:=decide (DC s)
theorem wY{p:Pr}:sn0 p=true↔KR p:=by simp [sn0]
theorem tn0{p:Pr}(h:¬KR p):sn0 p=false:=by simp [sn0,h]
theorem xW{s:List Pr}:rb0 s=true↔DC s:=by simp [rb0]
theorem rl0{s:List Pr}(h:¬DC s):rb0 s=false:=by simp [rb0,h]
section
variable {B:Base} {w:World}
theorem eq0(n:Int):Gives Tryz.prog B (Z0 qD #[.int .i64 n]) (.bool (decide (inP n))):=by
 refine Gives.intro fun B' w K base h k=>?_
 refine SS.up ?_
 unfold SS.pt
 simp -zeta only[FC,WC,K3]
 refine⟨fun h1=>?_,fun h1=>?_⟩
 ·have:decide (inP n)=decide (n≤1099511627776):=decide_eq_decide.2 ⟨fun h=>h.2,fun h=>⟨h1,h⟩⟩
  rw[this] at k
  exact k _ _ h
 ·rw[decide_eq_false (fun hh:inP n=>h1 hh.1)] at k
  exact k _ _ h
theorem WE0{p:Pr}{sv:SV}(r:O4 sv.1 p.last B)(hl:p.last.length≤4611686018427387904):Gives Tryz.prog B (Z0 lQ #[(p.raw sv).v]) (.bool (sn0 p)):=by
 refine Gives.intro fun B' w K base h k=>?_
 replace r:=base r
 refine EP.up ?_
 unfold EP.pt
 have no:∀w' τ,Rel B' w' τ→¬KR p→K (.bool false) w':=fun w' τ h hn=>by rw[tn0 hn] at k;exact k _ _ h
 refine h.box fun b w1 h=>?_
 have h:Rel B' w1 [O1 b U2 (p.raw sv).cs.toArray]:=h
 simp -zeta only[U0 iF,U0 fI,U0 dL,U0 jF,Nat.add_zero,Nat.zero_add,h.ld 0 rfl Y2 (o:=0) rfl]
 refine h.ask (fun B2 own base2=>eq0 p.id) fun w2 h=>?_
 rw[V7,G5,K3]
 refine⟨fun c1=>?_,fun c1=>no _ _ h fun hh=>c1 hh.id⟩
 simp -zeta only[h.ld 0 rfl Y2 (o:=1) rfl]
 refine h.ask (fun B2 own base2=>eq0 p.epoch) fun w3 h=>?_
 rw[V7,G5,K3]
 refine⟨fun c2=>?_,fun c2=>no _ _ h fun hh=>c2 hh.epoch⟩
 simp -zeta only[h.ld 0 rfl Y2 (o:=2) rfl]
 refine h.ask (fun B2 own base2=>eq0 p.next) fun w4 h=>?_
 rw[V7,G5,K3]
 refine⟨fun c3=>?_,fun c3=>no _ _ h fun hh=>c3 hh.next⟩
 simp -zeta only[h.ld 0 rfl Y2 (o:=2) rfl,h.ld 0 rfl wF (o:=3) rfl,O4.len r N8,YK,Q7,G5,K3]
 refine⟨fun c4=>?_,fun c4=>no _ _ h fun hh=>c4 hh.len⟩
 refine F6 (fun x w'=>∃i:Nat,i≤p.last.length∧x=(.int .i64 i,())∧(∀j (hj:j<p.last.length),j<i→inP p.last[j]∧(0<j→p.last[j-1]<p.last[j]))∧Rel B' w' [O1 b U2 (p.raw sv).cs.toArray]) (fun x _=>p.last.length-(match x.1 with | .int _ n=>n.toNat | _=>0))
  ⟨0,Nat.zero_le _,rfl,fun j _ hj=>absurd hj (Nat.not_lt_zero j),h⟩ ?_
 clear h
 rintro x w5 ⟨i,hi,rfl,hin,h⟩ next hnext
 simp -zeta only[G6,K3]
 refine⟨fun hlt=>?_,fun hge=>?_⟩
 ·have hil:i<p.last.length:=by omega
  refine P6 fun J hJ=>?_
  replace hJ:inP p.last[i]→(0<i→p.last[i-1]<p.last[i])→∀w',Rel B' w' [O1 b U2 (p.raw sv).cs.toArray]→J () w':=by
   intro h1 h2 w' h
   refine hJ _ _ ?_
   rw[Z5,E5 (by omega) (by omega)]
   refine hnext _ _ ⟨i+1,hil,rfl,fun j hj hji=>?_,h⟩ (by simp only;omega)
   by_cases e:j=i
   ·subst e;exact⟨h1,h2⟩
   ·exact hin j hj (by omega)
  clear hnext
  obtain⟨q,q1,q2⟩:=O4.cZ r h N8 hil Y2 (x := .int .i64 p.last[i]) rfl
  rw[q1,q2]
  refine h.ask (fun B2 own base2=>eq0 p.last[i]) fun w6 h=>?_
  rw[V7,G5,K3]
  refine⟨fun c5=>?_,fun c5=>no _ _ h fun hh=>c5 (hh.each i hil)⟩
  simp -zeta only[x9,K3]
  refine⟨fun c6=>?_,fun c6=>hJ c5 (fun z=>absurd z (by omega)) _ h⟩
  have hw:IntKind.i64.wrap ((i:Int)-1)=((i-1:Nat):Int):=by rw[E5 (by omega) (by omega)];omega
  obtain⟨q',q3,q4⟩:=O4.cZ r h N8 (i:=i-1) (by omega) Y2 (x := .int .i64 (p.last[i-1]'(by omega))) rfl
  simp -zeta only[h.ld 0 rfl wF (o:=3) rfl,TB,hw,q3,q4,WC,K3]
  exact⟨fun c7=>no _ _ h fun hh=>by have:=hh.asc i hil (by omega);omega,fun c7=>hJ c5 (fun _=>by omega) _ h⟩
 ·have:KR p:=⟨c1,c2,c3,c4,fun j hj=>(hin j hj (by omega)).1,fun j hj=>(hin j hj (by omega)).2⟩
  rw[wY.2 this] at k
  exact k _ _ h
theorem oB0{v:Value}{L:PrL}(r:O4 v (o9 L) B)(q:IG L B)(hl:L.length≤4611686018427387904)(hq:∀p∈L,p.1.last.length≤4611686018427387904):Gives Tryz.prog B (Z0 RO #[v]) (.bool (rb0 (prs L))):=by
 refine Gives.intro fun B' w K base h k=>?_
 replace r:=base r
 replace q:=base q
 refine sO.up ?_
 unfold sO.pt
 have hal:(o9 L).length=L.length:=List.length_map ..
 have hpl:(prs L).length=L.length:=List.length_map ..
 have hget:∀i (h:i<L.length),(prs L)[i]'(by omega)=L[i].1:=fun i h=>by simp
 have no:∀w' τ,Rel B' w' τ→¬DC (prs L)→K (.bool false) w':=fun w' τ h hn=>by rw[rl0 hn] at k;exact k _ _ h
 simp -zeta only[O4.len r I6]
 rw[hal]
 refine F6 (fun x w'=>∃i:Nat,i≤L.length∧x=(.int .i64 i,())∧(∀j (hj:j<L.length),j<i→KR L[j].1∧(0<j→(L[j-1]'(by omega)).1.id<L[j].1.id))∧Rel B' w' []) (fun x _=>L.length-(match x.1 with | .int _ n=>n.toNat | _=>0))
  ⟨0,Nat.zero_le _,rfl,fun j _ hj=>absurd hj (Nat.not_lt_zero j),h⟩ ?_
 clear h
 rintro x w1 ⟨i,hi,rfl,hin,h⟩ next hnext
 simp -zeta only[G6,K3]
 refine⟨fun hlt=>?_,fun hge=>?_⟩
 ·have hil:i<L.length:=by omega
  refine P6 fun J hJ=>?_
  replace hJ:KR L[i].1→(0<i→(L[i-1]'(by omega)).1.id<L[i].1.id)→∀w' τ,Rel B' w' τ→J () w':=by
   intro h1 h2 w' τ h
   refine hJ _ _ ?_
   rw[Z5,E5 (by omega) (by omega)]
   refine hnext _ _ ⟨i+1,hil,rfl,fun j hj hji=>?_,h.nil⟩ (by simp only;omega)
   by_cases e:j=i
   ·subst e;exact⟨h1,h2⟩
   ·exact hin j hj (by omega)
  clear hnext
  obtain⟨g,o,hx,hc⟩:=O4.idx r I6 (P:=Tryz.prog) (i:=i) (by omega)
  have hel:(o9 L)[i]'(by omega)=L[i].1.raw L[i].2:=by simp [o9]
  rw[hel] at hc
  have hc:K6 g o (L[i].1.raw L[i].2).cs B':=hc
  have hrow:=q L[i] (List.getElem_mem hil)
  have hql:=hq L[i] (List.getElem_mem hil)
  simp -zeta only[hx,K6.r9 (h.L6 hc) X7 rfl]
  refine h.R8 (ds:=(L[i].1.raw L[i].2).cs.toArray) zF rfl X7 rfl (fun v hv=>Enc.one (L[i].1.raw L[i].2) v hv) fun b w4 h=>?_
  have h:=h.tick
  have h:Rel B' (tick w4) [O1 b U2 (L[i].1.raw L[i].2).cs.toArray]:=h
  rw[h.r9 0 rfl X7 rfl]
  refine h.ask (fun B2 own base2=>WE0 (p:=L[i].1) (sv:=L[i].2) (base2 hrow) hql) fun w5 h=>?_
  rw[V7,G5,R5]
  refine⟨fun c1=>?_,fun c1=>no _ _ h fun hh=>by
   have:=wY.2 (hh.fine L[i].1 (List.mem_map_of_mem (List.getElem_mem hil)))
   rw[this] at c1;cases c1⟩
  have c1:=wY.1 c1
  simp -zeta only[x9,K3]
  refine⟨fun c2=>?_,fun c2=>hJ c1 (fun z=>absurd z (by omega)) _ _ h⟩
  have hw:IntKind.i64.wrap ((i:Int)-1)=((i-1:Nat):Int):=by rw[E5 (by omega) (by omega)];omega
  obtain⟨g2,o2,hx2,hc2⟩:=O4.idx r I6 (P:=Tryz.prog) (i:=i-1) (by omega)
  have hel2:(o9 L)[i-1]'(by omega)=(L[i-1]'(by omega)).1.raw (L[i-1]'(by omega)).2:=by simp [o9]
  rw[hel2] at hc2
  have hc2:K6 g2 o2 ((L[i-1]'(by omega)).1.raw (L[i-1]'(by omega)).2).cs B':=hc2
  simp -zeta only[U0 iF,Nat.add_zero,h.ld 0 rfl Y2 (o:=0) rfl,TB,hw,hx2,K6.ld0 (h.L6 hc2) Y2 rfl,WC,K3]
  refine⟨fun c3=>no _ _ h fun hh=>?_,fun c3=>hJ c1 (fun _=>by omega) _ _ h⟩
  have:=hh.asc i (by omega) (by omega)
  rw[hget _ hil,hget (i-1) (by omega)] at this
  omega
 ·rw[WC]
  have e:rb0 (prs L)=decide ((L.length:Int)≤50):=by
   rw[Bool.eq_iff_iff,xW,decide_eq_true_iff]
   refine⟨fun hh=>by have:=hh.len;omega,fun hh=>⟨fun p hp=>?_,fun j hj h0=>?_,by omega⟩⟩
   ·obtain⟨x,hx,rfl⟩:=List.mem_map.1 hp
    obtain⟨j,hj,rfl⟩:=List.getElem_of_mem hx
    exact(hin j hj (by omega)).1
   ·rw[hget j (by omega),hget (j-1) (by omega)]
    exact(hin j (by omega) (by omega)).2 h0
  rw[e] at k
  exact k _ _ h
end
end Go.Proofs.YtngbebnhegcokaaGreatDoor

namespace Go.Proofs.YtngbebnhegcokaaGreatDoor
open Go.RowKit
set_option maxRecDepth 100000
def Rh0(id:Int)(p:Pr):Bool:=decide (p.id=id)
def PD(s:List Pr)(id:Int):Pr:=match s.find? (Rh0 id) with
 | some p=>p
 | none=>⟨id,0,0,[]⟩
def xK(s:List Pr)(id:Int):Bool:=(s.find? (Rh0 id)).isSome
theorem kW{s:List Pr}{id:Int}(h:xK s id=true):PD s id∈s∧(PD s id).id=id:=by
 unfold xK at h
 unfold PD
 cases hf:s.find? (Rh0 id) with
 | none=>rw[hf] at h;cases h
 | some p =>
  have h1:=List.find?_some hf
  exact⟨List.mem_of_find?_eq_some hf,of_decide_eq_true h1⟩
theorem xR{s:List Pr}{id:Int}(h:xK s id=false):PD s id=⟨id,0,0,[]⟩∧∀p∈s,p.id≠id:=by
 unfold xK at h
 unfold PD
 cases hf:s.find? (Rh0 id) with
 | none =>
  refine⟨rfl,fun p hp e=>?_⟩
  have:=List.find?_eq_none.1 hf p hp
  exact this (decide_eq_true e)
 | some p=>rw[hf] at h;cases h
theorem Ru0{s:List Pr}{id:Int}(h:DC s)(hid:inP id):KR (PD s id)∧(PD s id).id=id:=by
 cases e:xK s id
 ·rw[(xR e).1]
  exact⟨⟨hid,(show inP 0 by decide),(show inP 0 by decide),rfl,fun i h=>absurd h (Nat.not_lt_zero i),fun i h=>absurd h (Nat.not_lt_zero i)⟩,rfl⟩
 ·exact⟨h.fine _ (kW e).1,(kW e).2⟩
theorem YU{s:List Pr}{id:Int}(h:DC s):0≤(PD s id).epoch∧(PD s id).epoch≤1099511627776∧0≤(PD s id).next∧(PD s id).next≤1099511627776∧(PD s id).last.length≤20:=by
 cases e:xK s id
 ·rw[(xR e).1]
  show (0:Int)≤0∧(0:Int)≤1099511627776∧(0:Int)≤0∧(0:Int)≤1099511627776∧(0:Nat)≤20
  decide
 ·have:=h.fine _ (kW e).1
  have h1:=this.epoch
  have h2:=this.next
  have h3:=this.len
  unfold inP at h1 h2
  omega
def okN(n:Int):Prop:=0≤n∧n<1099511627776
instance (n:Int):Decidable (okN n):=by unfold okN;infer_instance
def nO(s:List Pr)(id e q:Int):Int×Int :=
 if ¬(okN id∧okN e∧okN q) then(0,1) else if e<(PD s id).epoch then(0,18) else if(PD s id).epoch<e then(0,25) else if(PD s id).next<q then(0,19)
 else if xK s id=false∧50≤s.length then(0,6) else if q=(PD s id).next then(0,0)
 else if 0≤(PD s id).last.length-((PD s id).next-q) then((PD s id).last.getD (((PD s id).last.length:Int)-((PD s id).next-q)).toNat 0,5) else(-1,5)
theorem Gi0{α:Type}(p:α→Bool)(l:List α):(jO p l = -1∧∀x∈l,p x=false)∨∃i:Nat,jO p l=i∧∃hi:i<l.length,p l[i]=true∧∀x∈l.take i,p x=false:=by
 unfold jO
 split
 ·rename_i i hi
  obtain⟨h1,h2,h3⟩:=List.findIdx?_eq_some_iff_getElem.1 hi
  refine .inr ⟨i,rfl,h1,h2,fun x hx=>?_⟩
  obtain⟨j,hj,rfl⟩:=List.getElem_of_mem hx
  have:=h3 j (by simp at hj;omega)
  simp at this ⊢
  exact this
 ·rename_i h
  exact .inl ⟨rfl,List.findIdx?_eq_none_iff.1 h⟩
theorem TB0{s:List Pr}{id:Int}{i:Nat}(hi:i<s.length)(h:Rh0 id s[i]=true)(hno:∀x∈s.take i,Rh0 id x=false):s.find? (Rh0 id)=some s[i]:=by
 rw[List.find?_eq_some_iff_getElem]
 refine⟨h,i,hi,rfl,fun j hj=>?_⟩
 have:=hno s[j] (List.mem_take_iff_getElem.2 ⟨j,by omega,rfl⟩)
 simp [this]
def fD:SV:=⟨.slice none 0 0,rfl⟩
section
variable {B:Base} {w:World}
theorem rs0{b:Nat}{id:Int}(hc:O1 b Q0 #[.int .i64 id] B)(x:PrD):Gives Tryz.prog B (dA (.func (.func pG) #[] #[ptr b]) #[Enc.val x]) (.bool (decide (x.id=id))):=by
 refine Gives.intro fun B' w K base h k=>?_
 replace hc:=base hc
 refine YH ?_
 refine UB.up (p0:=x.v) (t1:=ptr b) (UB.call ?_)
 unfold UB.pt
 refine h.box fun b2 w1 h=>?_
 have h:Rel B' w1 [O1 b2 U2 x.cs.toArray]:=h
 simp -zeta only[U0 iF,Nat.add_zero,h.ld 0 rfl Y2 (o:=0) rfl,O1.ld (h.L6 hc) Y2 (o:=0) rfl,F7]
 exact k _ _ h
theorem Sp0{v:Value}{L:PrL}(r:O4 v (o9 L) B)(q:IG L B)(hl:L.length≤4611686018427387904)(id:Int) :
  ∃sv:SV,O4 sv.1 (PD (prs L) id).last B∧Gives Tryz.prog B (Z0 jJ #[v,.int .i64 id]) (.tuple #[((PD (prs L) id).raw sv).v,.bool (xK (prs L) id)]):=by
 have hal:(o9 L).length=L.length:=List.length_map ..
 have hpl:(prs L).length=L.length:=List.length_map ..
 rcases Gi0 (fun x:PrD=>decide (x.id=id)) (o9 L) with⟨hi,hno⟩ | ⟨i,hi,hil,hat,hno⟩
 ·have hh:xK (prs L) id=false:=by
   unfold xK
   have:(prs L).find? (Rh0 id)=none:=List.find?_eq_none.2 fun p hp=>by
    obtain⟨x,hx,rfl⟩:=List.mem_map.1 hp
    have:=hno (x.1.raw x.2) (List.mem_map_of_mem hx)
    simpa [Rh0] using this
   rw[this];rfl
  refine⟨fD,?_,?_⟩
  ·rw[(xR hh).1];exact⟨none,0,rfl,Nat.le_refl _,.inl rfl⟩
  ·rw[(xR hh).1,hh]
   refine Gives.intro fun B' w K base h k=>?_
   replace r:=base r
   refine uJ.up ?_
   unfold uJ.pt
   refine h.box fun b w1 h=>?_
   have h:Rel B' w1 [O1 b Q0 #[.int .i64 id]]:=h
   refine h.alloc zF fun o w2 h=>?_
   simp -zeta only[TI]
   refine h.ask (fun B2 own base2=>XB (base2 r) (by omega) (fun x=>decide (x.id=id)) fun B3 base3 x _=>rs0 (base3 (own (i:=0) rfl)) x) fun w3 h=>?_
   rw[hi]
   have h:Rel B' w3 [O1 b Q0 #[.int .i64 id],O1 o U2 #[.int .i64 0,.int .i64 0,.int .i64 0,.slice none 0 0]]:=h
   simp -zeta only[G6,K3,h.ld 0 rfl Y2 (o:=0) rfl,dZ]
   refine⟨fun _=>?_,fun hh=>absurd (by decide) hh⟩
   refine h.YG 1 (ds:=(⟨id,0,0,fD⟩:PrD).cs.toArray) rfl X7 rfl rfl (fun v hv=>Enc.one (⟨id,0,0,fD⟩:PrD) v hv) fun w4 h=>?_
   rw[qJ h 1 rfl X7 rfl]
   exact k _ _ h
 ·have hil':i<L.length:=by omega
  have hel:(o9 L)[i]=L[i].1.raw L[i].2:=by simp [o9]
  have hgp:(prs L).find? (Rh0 id)=some L[i].1:=by
   have:=TB0 (s:=prs L) (id:=id) (i:=i) (by omega) (by
    have e:(prs L)[i]'(by omega)=L[i].1:=by simp
    rw[e]
    rw[hel] at hat
    exact hat) fun x hx=>by
     have:x∈(L.take i).map (·.1):=by rw[List.map_take];exact hx
     obtain⟨y,hy,rfl⟩:=List.mem_map.1 this
     have hm:y.1.raw y.2∈(o9 L).take i:=by
      unfold o9
      rw[←List.map_take]
      exact List.mem_map_of_mem hy
     exact hno _ hm
   rw[this]
   simp
  have hg:PD (prs L) id=L[i].1:=by unfold PD;rw[hgp]
  have hh:xK (prs L) id=true:=by unfold xK;rw[hgp];rfl
  refine⟨L[i].2,by rw[hg];exact q L[i] (List.getElem_mem hil'),?_⟩
  rw[hg,hh]
  refine Gives.intro fun B' w K base h k=>?_
  replace r:=base r
  refine uJ.up ?_
  unfold uJ.pt
  refine h.box fun b w1 h=>?_
  have h:Rel B' w1 [O1 b Q0 #[.int .i64 id]]:=h
  refine h.alloc zF fun o w2 h=>?_
  simp -zeta only[TI]
  refine h.ask (fun B2 own base2=>XB (base2 r) (by omega) (fun x=>decide (x.id=id)) fun B3 base3 x _=>rs0 (base3 (own (i:=0) rfl)) x) fun w3 h=>?_
  rw[hi]
  have h:Rel B' w3 [O1 b Q0 #[.int .i64 id],O1 o U2 #[.int .i64 0,.int .i64 0,.int .i64 0,.slice none 0 0]]:=h
  obtain⟨g,oo,hx,hc⟩:=O4.idx r I6 (P:=Tryz.prog) (i:=i) (by omega)
  rw[hel] at hc
  have hc:K6 g oo (L[i].1.raw L[i].2).cs B':=hc
  simp -zeta only[G6,K3,hx,K6.r9 (h.L6 hc) X7 rfl]
  refine⟨fun hh=>absurd hh (by omega),fun _=>?_⟩
  refine h.YG 1 (ds:=(L[i].1.raw L[i].2).cs.toArray) rfl X7 rfl rfl (fun v hv=>Enc.one (L[i].1.raw L[i].2) v hv) fun w4 h=>?_
  rw[qJ h 1 rfl X7 rfl]
  exact k _ _ h
theorem Dw0{v:Value}{L:PrL}(r:O4 v (o9 L) B)(q:IG L B)(hR:DC (prs L))(en:xD):Gives Tryz.prog B (Z0 xM #[v,en.v]) (.tuple #[.int .i64 (nO (prs L) en.producer en.epoch en.seq).1,.int .i64 (nO (prs L) en.producer en.epoch en.seq).2]):=by
 refine Gives.intro fun B' w K base h k=>?_
 replace r:=base r
 replace q:=base q
 have hal:(o9 L).length=L.length:=List.length_map ..
 have hpl:(prs L).length=L.length:=List.length_map ..
 have hlen:=hR.len
 refine BP.up ?_
 unfold BP.pt
 refine h.box fun b w1 h=>?_
 have h:Rel B' w1 [O1 b U1 en.cs.toArray]:=h
 have fin:∀(x:Int×Int) w' τ,nO (prs L) en.producer en.epoch en.seq=x→Rel B' w' τ→K (.tuple #[.int .i64 x.1,.int .i64 x.2]) w':=fun x w' τ e h=>by rw[e] at k;exact k _ _ h
 clear k
 simp -zeta only[U0 jM,U0 zT,U0 DT,Nat.add_zero,Nat.zero_add,h.ld 0 rfl Y2 (o:=1) rfl,h.ld 0 rfl Y2 (o:=2) rfl,h.ld 0 rfl Y2 (o:=3) rfl]
 refine h.NV (α:=Int) [en.producer,en.epoch,en.seq] N8 fun u w2 h=>?_
 have h:Rel B' w2 [O1 b U1 en.cs.toArray,Y3 Q0 u ([en.producer,en.epoch,en.seq]:List Int)]:=h
 have hu:=Y3.read (h.here (i:=1) rfl)
 simp -zeta only[O4.len hu N8]
 clear hu
 refine F6 (fun x w'=>∃i:Nat,i≤3∧x=(.int .i64 i,())∧(∀j (hj:j<3),j<i→okN ([en.producer,en.epoch,en.seq]:List Int)[j])∧Rel B' w' [O1 b U1 en.cs.toArray,Y3 Q0 u ([en.producer,en.epoch,en.seq]:List Int)]) (fun x _=>3-(match x.1 with | .int _ n=>n.toNat | _=>0))
  ⟨0,Nat.zero_le _,rfl,fun j _ hj=>absurd hj (Nat.not_lt_zero j),h⟩ ?_
 clear h
 rintro x w3 ⟨i,hi,rfl,hin,h⟩ next hnext
 simp -zeta only[List.length_cons,List.length_nil,G6,K3]
 refine⟨fun hlt=>?_,fun hge=>?_⟩
 ·have hil:i<3:=by omega
  have hu:=Y3.read (h.here (i:=1) rfl)
  have hu:O4 u ([en.producer,en.epoch,en.seq]:List Int) ⟨w3,fun _=>True⟩:=hu
  have hbad:¬okN (([en.producer,en.epoch,en.seq]:List Int)[i])→¬(okN en.producer∧okN en.epoch∧okN en.seq):=fun hb hh=>by
   have:i=0∨i=1∨i=2:=by omega
   rcases this with rfl | rfl | rfl
   ·exact hb hh.1
   ·exact hb hh.2.1
   ·exact hb hh.2.2
  obtain⟨g,o,hx,hc⟩:=O4.idx hu N8 (P:=Tryz.prog) (i:=i) hil
  have hc:(K6 g o [.int .i64 ([en.producer,en.epoch,en.seq]:List Int)[i]]).here w3:=hc
  rw[hx,K6.ld0 hc Y2 rfl]
  refine h.ask (fun B2 own base2=>eq0 _) fun w4 h=>?_
  rw[V7,G5,K3]
  refine⟨fun c1=>?_,fun c1=>fin (0,1) _ _ (by unfold nO;rw[if_pos (hbad fun hh=>c1 ⟨hh.1,by have:=hh.2;omega⟩)]) h⟩
  simp -zeta only[F7,K3]
  refine⟨fun c2=>fin (0,1) _ _ (by unfold nO;rw[if_pos (hbad fun hh=>by have:=hh.2;omega)]) h,fun c2=>?_⟩
  rw[Z5,E5 (by omega) (by omega)]
  refine hnext _ _ ⟨i+1,hil,rfl,fun j hj hji=>?_,h⟩ (by simp only;omega)
  by_cases e:j=i
  ·subst e
   exact⟨c1.1,by have:=c1.2;omega⟩
  ·exact hin j hj (by omega)
 ·have h3:okN en.producer∧okN en.epoch∧okN en.seq:=⟨hin 0 (by decide) (by omega),hin 1 (by decide) (by omega),hin 2 (by decide) (by omega)⟩
  clear hnext hin hge
  have hq0:0≤en.seq∧en.seq<1099511627776:=h3.2.2
  unfold nO at fin
  rw[if_neg (fun hh=>hh h3)] at fin
  simp -zeta only[h.ld 0 rfl Y2 (o:=1) rfl]
  obtain⟨sv,hsv,hfind⟩:=Sp0 r q (by omega) en.producer
  refine hfind _ _ _ h fun w5 h=>?_
  simp -zeta only[M9,D9]
  have hsm:=YU hR (id:=en.producer)
  generalize PD (prs L) en.producer=p at *
  refine h.R8 (ds:=(p.raw sv).cs.toArray) zF rfl X7 rfl (fun v hv=>Enc.one (p.raw sv) v hv) fun o w7 h=>?_
  have h:Rel B' w7 [O1 b U1 en.cs.toArray,Y3 Q0 u ([en.producer,en.epoch,en.seq]:List Int),O1 o U2 (p.raw sv).cs.toArray]:=h
  simp -zeta only[U0 fI,U0 dL,U0 jF,Nat.zero_add]
  refine P6 fun J hJ=>?_
  replace hJ:¬en.epoch<p.epoch→¬p.epoch<en.epoch→¬p.next<en.seq→¬(xK (prs L) en.producer=false∧50≤(prs L).length)→¬en.seq=p.next→J () w7:=by
   intro c1 c2 c3 c4 c5
   refine hJ _ _ ?_
   clear hJ
   rw[if_neg c1,if_neg c2,if_neg c3,if_neg c4,if_neg c5] at fin
   have hw1:IntKind.i64.wrap (p.next-en.seq)=p.next-en.seq:=E5 (by omega) (by omega)
   have hw2:IntKind.i64.wrap ((p.last.length:Int)-(p.next-en.seq))=(p.last.length:Int)-(p.next-en.seq):=E5 (by omega) (by omega)
   simp -zeta only[h.ld 2 rfl wF (o:=3) rfl,h.ld 2 rfl Y2 (o:=2) rfl,h.ld 0 rfl Y2 (o:=3) rfl,O4.len hsv N8,TB,hw1,hw2,FC,K3]
   refine⟨fun c6=>?_,fun c6=>fin (-1,5) _ _ (by rw[if_neg c6]) h⟩
   obtain⟨m,hm⟩:∃m:Nat,(p.last.length:Int)-(p.next-en.seq)=m:=⟨((p.last.length:Int)-(p.next-en.seq)).toNat,by omega⟩
   rw[if_pos c6,hm] at fin
   rw[hm]
   have hml:m<p.last.length:=by omega
   obtain⟨a,q1,q2⟩:=O4.cZ hsv h N8 hml Y2 (x := .int .i64 p.last[m]) rfl
   rw[q1,q2]
   refine fin (p.last[m],5) _ _ ?_ h
   rw[Int.toNat_natCast,List.getD_eq_getElem?_getD,List.getElem?_eq_getElem hml]
   rfl
  simp -zeta only[h.ld 2 rfl Y2 (o:=1) rfl,h.ld 2 rfl Y2 (o:=2) rfl,h.ld 0 rfl Y2 (o:=2) rfl,h.ld 0 rfl Y2 (o:=3) rfl,G6,x9,F7,K3]
  refine⟨fun c1=>fin (0,18) _ _ (by rw[if_pos c1]) h,fun c1=>⟨fun c2=>fin (0,25) _ _ (by rw[if_neg c1,if_pos c2]) h,fun c2=>⟨fun c3=>fin (0,19) _ _ (by rw[if_neg c1,if_neg c2,if_pos c3]) h,fun c3=>?_⟩⟩⟩
  rw[V7,G5,R5]
  refine⟨fun c4=>?_,fun c4=>?_⟩
  ·have c4':¬(xK (prs L) en.producer=false∧50≤(prs L).length):=fun hh=>by rw[c4] at hh;cases hh.1
   exact⟨fun c5=>fin (0,0) _ _ (by rw[if_neg c1,if_neg c2,if_neg c3,if_neg c4',if_pos c5]) h,fun c5=>hJ c1 c2 c3 c4' c5⟩
  ·simp -zeta only[O4.len r I6,FC,K3]
   refine⟨fun c5=>fin (0,6) _ _ (by rw[if_neg c1,if_neg c2,if_neg c3,if_pos ⟨c4,by omega⟩]) h,fun c5=>?_⟩
   have c4':¬(xK (prs L) en.producer=false∧50≤(prs L).length):=fun hh=>c5 (by omega)
   exact⟨fun c6=>fin (0,0) _ _ (by rw[if_neg c1,if_neg c2,if_neg c3,if_neg c4',if_pos c6]) h,fun c6=>hJ c1 c2 c3 c4' c6⟩
end
end Go.Proofs.YtngbebnhegcokaaGreatDoor

namespace Go.Proofs.YtngbebnhegcokaaGreatDoor
open Go.RowKit
section
variable {α:Type} [Enc α] {P:Program} {K:Value→World→Prop} {w:World} {T E:TypeId} {by_:Nat} {c:Nat→Nat} {t u:Nat}
theorem nv0{m n:Nat}(x:α)(hT:sliceB P T E (Enc.sz α) by_=true)(hx:((P.info? E).bind (·.zero)).map (·.cells)=some (Enc.cells x).toArray)(hmn:m≤n)(hn:n * by_≤140737488355328)(hn1:n≤140737488355328)
  (k:∀c' g w',Step nobody c w c' w'→YB c' t w' E (.slice (some ⟨g,0,none⟩) m n) (List.replicate m x)→K (.slice (some ⟨g,0,none⟩) m n) w'):upK P (uM T (.int .i64 m) (.int .i64 n)) w K:=by
 obtain⟨hu,i,z,hinfo,hz,hs,hby,hzs⟩:=t_ hT
 have hzc:z.cells=(Enc.cells x).toArray:=by simpa [hinfo,hz] using hx
 have hw:IntKind.wrap .i64 (n:Int)=n:=IntWalk.i64_in _ (by omega)
 have hwm:IntKind.wrap .i64 (m:Int)=m:=IntWalk.i64_in _ (by omega)
 have h1:¬((n:Int)<0):=by omega
 have h1m:¬((m:Int)<0):=by omega
 have hmn':¬((n:Int)<(m:Int)):=by omega
 have hm:by_ * n≤140737488355328:=by rw[Nat.mul_comm];exact hn
 have hmm:by_ * m≤140737488355328:=Nat.le_trans (Nat.mul_le_mul_left _ hmn) hm
 have h2:¬((281474976710656:Int)<(by_:Int) * (n:Int)):=by
  have:((by_ * n:Nat):Int)≤140737488355328:=by omega
  rw[Int.natCast_mul] at this
  omega
 have h2m:¬((281474976710656:Int)<(by_:Int) * (m:Int)):=by
  have:((by_ * m:Nat):Int)≤140737488355328:=by omega
  rw[Int.natCast_mul] at this
  omega
 have h3:¬(140737488355328<n * by_):=by omega
 have hcells:∀z0:Array Value,(n=0→z0=#[])→(n≠0→z0=z.cells)→((Array.range (n * Enc.sz α)).map (z0[· % z0.size]!)).toList=flat (List.replicate n x):=by
  intro z0 _ hz1
  by_cases hn0:n=0
  ·subst hn0;simp [flat]
  ·rw[hz1 hn0]
   apply List.ext_getElem?
   intro j
   by_cases hj:j<n * Enc.sz α
   ·have hp:0<Enc.sz α:=Enc.pos
    have hq:j / Enc.sz α<n:=Nat.div_lt_of_lt_mul (by rw[Nat.mul_comm];exact hj)
    have hr:j % Enc.sz α<Enc.sz α:=Nat.mod_lt _ hp
    have:=flat_get (l:=List.replicate n x) (i:=j / Enc.sz α) (by simpa using hq) (f:=j % Enc.sz α) (v:=(Enc.cells x)[j % Enc.sz α]'(by rw[Enc.len];exact hr)) (by simp)
    rw[Nat.mul_comm (j / Enc.sz α),Nat.div_add_mod] at this
    rw[this]
    simp [hj,hzs,hzc,Enc.len]
    rw[List.getElem?_eq_getElem (by rw[Enc.len];exact hr)]
    rfl
   ·rw[List.getElem?_eq_none (by simp;omega),List.getElem?_eq_none (by rw[N7];simp;omega)]
 have hrun:∃cur:Array Value,cur.toList=flat (List.replicate n x)∧(Instr.makeSlice T (.int .i64 m) (.int .i64 n)).run P w = .ok (.slice (some ⟨w.heap.size,0,none⟩) m n) (w.alloc (.cells cur E)):=by
  by_cases hn0:n=0
  ·subst hn0
   obtain rfl:m=0:=by omega
   refine⟨_,hcells #[] (fun _=>rfl) (fun h=>absurd rfl h),?_⟩
   simp [Instr.makeSlice,run_underlying hu,asInt,asIntOf,typeInfo,hinfo,hby,show IntKind.wrap .i64 0=0 from rfl,askRoom,roomBytes,sizeOf,hs,newRow]
  ·refine⟨_,hcells z.cells (fun h=>absurd h hn0) (fun _=>rfl),?_⟩
   simp [Instr.makeSlice,run_underlying hu,asInt,asIntOf,typeInfo,hinfo,hby,hw,hwm,h1,h1m,h2,h2m,h3,hmn',hmn,askRoom,roomBytes,sizeOf,hs,newRow,hn0,zeroValue,hz,Nat.ne_of_gt (Enc.pos (α:=α))]
   intro h
   rcases Nat.mul_eq_zero.1 h with h | h
   ·exact absurd h hn0
   ·exact absurd h (Nat.ne_of_gt Enc.pos)
 obtain⟨cur,hc,hrun⟩:=hrun
 have hb:=Blk.alloc (n:=t) c w E cur
 have hcs:cur.size=n * Enc.sz α:=by rw[←Array.length_toList,hc,N7];simp
 refine vC (X9 hrun) (k (WF c w.heap.size t) _ _ (Step.alloc nobody c w t _) (YB.mk_ hb (by simp) hmn (by unfold maxLen;omega) hcs ?_))
 rw[hc,oF,List.take_replicate,Nat.min_eq_left hmn]
end
section
variable {α:Type} [Enc α] {P:Program} {K:Value→World→Prop} {B:Base} {w:World} {σ:List Dat} {T E:TypeId} {by_:Nat} {l:List α} {v:Value}
theorem Rel.Ry0(h:Rel B w σ){n:Nat}(x:α)(hT:sliceB P T E (Enc.sz α) by_=true)(hx:((P.info? E).bind (·.zero)).map (·.cells)=some (Enc.cells x).toArray)(hn:n * by_≤140737488355328)(hn1:n≤140737488355328)
  (k:∀g w',Rel B w' (σ++[Y3 E (.slice (some ⟨g,0,none⟩) n n) (List.replicate n x)])→K (.slice (some ⟨g,0,none⟩) n n) w'):upK P (uM T (.int .i64 n) (.int .i64 n)) w K:=by
 obtain⟨c,h⟩:=h
 exact nv0 (c:=c) (t:=σ.length+1) x hT hx (Nat.le_refl _) hn hn1 fun c' g w' st hr=>k g w' ⟨c',h.push st hr.Y3⟩
end
section
variable {α:Type} [Enc α] {P:Program} {K:Value→World→Prop} {w:World} {T E:TypeId} {by_:Nat} {c:Nat→Nat} {t u:Nat}
theorem th0(x:α)(n:Nat):(Builtin.zeroCells (Enc.cells x).toArray n).toList=flat (List.replicate n x):=by
 unfold Builtin.zeroCells
 apply List.ext_getElem?
 intro j
 have hl:(Enc.cells x).toArray.size=Enc.sz α:=by simp [Enc.len]
 by_cases hj:j<n * Enc.sz α
 ·have hp:0<Enc.sz α:=Enc.pos
  have hq:j / Enc.sz α<n:=Nat.div_lt_of_lt_mul (by rw[Nat.mul_comm];exact hj)
  have hr:j % Enc.sz α<Enc.sz α:=Nat.mod_lt _ hp
  have:=flat_get (l:=List.replicate n x) (i:=j / Enc.sz α) (by simpa using hq) (f:=j % Enc.sz α) (v:=(Enc.cells x)[j % Enc.sz α]'(by rw[Enc.len];exact hr)) (by simp)
  rw[Nat.mul_comm (j / Enc.sz α),Nat.div_add_mod] at this
  rw[this]
  simp [hj,Enc.len]
  try (rw[List.getElem?_eq_getElem (by rw[Enc.len];exact hr)];rfl)
 ·rw[List.getElem?_eq_none (by simp [Enc.len];omega),List.getElem?_eq_none (by rw[N7];simp;omega)]
theorem fk0{v:Value}{l:List α}{Tn:TypeId}(hT:sliceB P T E (Enc.sz α) by_=true)(hTn:P.underlying Tn=some (.int .i64)){a:Option Addr}{cap:Nat}(hv:v = .slice a l.length cap)(h1:ZM c u w v l)(x:α)
  (hx:((P.info? E).bind (·.zero)).map (·.cells)=some (Enc.cells x).toArray) {m:Nat} (h0:0<m) (hcap:cap<l.length+m)
  (hbytes:(l.length+m) * by_≤140737488355328) (h63:l.length+m≤140737488355328) {U:TypeId} {bs:Array Bool}
  (k:∀c' g cp w',l.length+m≤cp→Step nobody c w c' w'→YB c' t w' E (.slice (some ⟨g,0,none⟩) (l.length+m) cp) (l++List.replicate m x)→K (.slice (some ⟨g,0,none⟩) (l.length+m) cp) w'):upK P (M5 .append #[T,Tn] U bs #[v,.int .i64 m]) w K:=by
 obtain⟨hu,i,z,hinfo,hz,hs,hby,hzs⟩:=t_ hT
 have hzc:z.cells=(Enc.cells x).toArray:=by simpa [hinfo,hz] using hx
 subst hv
 have hn:¬(l.length+m≤cap):=by omega
 have hm0:m≠0:=by omega
 have h63':¬(9223372036854775807<((l.length:Int)+(m:Int))):=by omega
 have h48:Builtin.nextslicecap (l.length+m) cap * by_≤281474976710656:=growslice_fits (by omega) hbytes
 have h48':¬(281474976710656<Builtin.nextslicecap (l.length+m) cap * by_):=by omega
 have hge:=grownCap_ge w (l.length+m) cap E
 have hmx:=grownCap_le_maxLen w (l.length+m) cap E (by unfold maxLen;omega)
 have hw:IntKind.i64.wrap (m:Int)=m:=IntWalk.i64_in _ (by omega)
 have hneg:¬((m:Int)<0):=by omega
 have hmb:m * by_≤140737488355328:=Nat.le_trans (Nat.mul_le_mul_right _ (by omega)) hbytes
 have h48i:¬(281474976710656<(m:Int) * (by_:Int)):=by
  rw[←Int.natCast_mul]
  omega
 have hrun:(Builtin.append_ #[T,Tn] U #[.slice a l.length cap,.int .i64 m]).run P w =
   .ok (.slice (some ⟨w.heap.size,0,none⟩) (l.length+m) (grownCap w (l.length+m) cap E))
    (w.drew.alloc (.cells ((flat l).toArray++Builtin.zeroCells z.cells m++Builtin.zeroCells z.cells (grownCap w (l.length+m) cap E-(l.length+m))) E)):=by
  have f1:=(h1.tick).first (P:=P)
  rw[Jt0] at f1
  simp [Builtin.append_,run_underlying hu,run_underlying hTn,sizeOf,typeInfo,zeroValue,hinfo,hz,hs,asInt,asIntOf,hw,hm0,hneg,hn,h63',hby,h48',h48i,f1,grownCap,Question.forced,newRow]
  intro hz0
  exact absurd hz0 (Nat.mul_ne_zero hm0 (Nat.ne_of_gt Enc.pos))
 refine vC (X9 hrun) (k (WF c w.heap.size t) _ _ _ hge ?_ ?_)
 ·exact(Step.tick nobody c w).trans (Step.alloc nobody c w.drew t _)
 ·have hl:(l++List.replicate m x).length=l.length+m:=by simp
  refine⟨⟨by rw[N7],.inr ⟨w.heap.size,_,_,by rw[hl],Nat.zero_le _,heap_alloc_new w.drew _,by rw[hl];exact hge,hmx,?_,?_⟩⟩,fun g hg=>?_⟩
  ·simp only[Array.size_append,List.size_toArray,size_zeroCells,hzs,N7,←Nat.add_mul]
   congr 1
   omega
  ·simp only[Array.toList_append,List.append_assoc]
   rw[hzc,th0,←List.append_assoc,←dF]
   rw[←N7]
   exact List.take_left
  ·simp [Value.ownBlock] at hg
   subst hg
   simp [WF]
end
section
variable {α:Type} [Enc α] {P:Program} {K:Value→World→Prop} {Kp:Value→Prop} {B:Base} {w:World} {σ:List Dat} {T E:TypeId} {by_:Nat} {l:List α} {v:Value}
theorem ju0{U S E:TypeId}{bs:Array Bool}{x:Option Addr}{n c:Nat}(h:P.underlying S=some (.slice E)) :
  Y0 P (M5 .cap #[S] U bs #[.slice x n c]) w Kp=Kp (.int .i64 c):=bQ (X9 (by
 simp [Builtin.cap_,run_underlying h,goInt]))
theorem Rel.sm0(h:Rel B w σ){Tn:TypeId}(hT:sliceB P T E (Enc.sz α) by_=true)(hTn:P.underlying Tn=some (.int .i64)){a:Option Addr}{cap:Nat}(hv:v = .slice a l.length cap)(r:Rd B σ [] v l)(x:α)
  (hx:((P.info? E).bind (·.zero)).map (·.cells)=some (Enc.cells x).toArray) {m:Nat} (h0:0<m) (hcap:cap<l.length+m)
  (hbytes:(l.length+m) * by_≤140737488355328) (h63:l.length+m≤140737488355328) {U:TypeId} {bs:Array Bool}
  (k:∀g cp w',l.length+m≤cp→Rel B w' (σ++[Y3 E (.slice (some ⟨g,0,none⟩) (l.length+m) cp) (l++List.replicate m x)])→K (.slice (some ⟨g,0,none⟩) (l.length+m) cp) w'):upK P (M5 .append #[T,Tn] U bs #[v,.int .i64 m]) w K:=by
 obtain⟨c,h⟩:=h
 obtain⟨u1,r1⟩:=h.rds r
 exact fk0 (c:=c) (t:=σ.length+1) hT hTn hv r1 x hx h0 hcap hbytes h63 fun c' g cp w' hc st hr=>k g cp w' hc ⟨c',h.push st hr.Y3⟩
end
end Go.Proofs.YtngbebnhegcokaaGreatDoor

namespace Go.Proofs.YtngbebnhegcokaaGreatDoor
open Go.RowKit
set_option maxRecDepth 100000
theorem O4.cells{α:Type}[Enc α]{B:Base}{l:List α}{g n cap:Nat}(h:O4 (.slice (some ⟨g,0,none⟩) n cap) l B){i:Nat}(hi:i<l.length):K6 g (i * Enc.sz α) (Enc.cells l[i]) B:=by
 obtain⟨a,cap',e,hc,h⟩:=h
 rcases h with rfl | ⟨g',o',ha,h1,h2,h3⟩
 ·simp at hi
 ·subst ha
  injection e with e1 e2 e3
  injection e1 with e1
  injection e1 with e1 e4 e5
  subst e1 e4
  refine⟨h1,h2,fun j u hj=>?_⟩
  have:=h3 _ _ (flat_get hi hj)
  rw[Nat.zero_add] at this
  exact this
def Ws0(p:Pr×SV):Dat:=Y3 Q0 p.2.1 p.1.last
section
variable {B:Base} {w:World}
theorem Nr0{v:Value}{L:PrL}(r:O4 v (o9 L) B)(q:IG L B)(hl:L.length≤1000000)(hq:∀p∈L,p.1.last.length≤1000000) :
  Makes Tryz.prog B (Z0 gD #[v]) fun u τ=>∃(g:Nat) (L':PrL),prs L'=prs L∧u = .slice (some ⟨g,0,none⟩) L'.length L'.length∧τ=[Y3 U2 u (o9 L'),IG L']:=by
 refine Makes.intro fun B' w K base h k=>?_
 replace r:=base r
 replace q:=base q
 have hal:∀L:PrL,(o9 L).length=L.length:=fun L=>List.length_map ..
 refine tO.up ?_
 unfold tO.pt
 simp -zeta only[O4.len r I6]
 rw[hal]
 refine h.Ry0 (⟨0,0,0,fD⟩:PrD) I6 (by kernel_rfl) (by omega) (by omega) fun g w1 h=>?_
 refine h.iZ 0 (l2:=o9 L) (n:=L.length) (lo:=0) rfl I6 (Rd.base r) (Nat.zero_le _) (.inl (by rw[Nat.zero_mul])) fun w2 h=>?_
 have e0:(List.replicate L.length (⟨0,0,0,fD⟩:PrD)).take 0++(o9 L).take ((List.replicate L.length (⟨0,0,0,fD⟩:PrD)).length-0)++(List.replicate L.length (⟨0,0,0,fD⟩:PrD)).drop (0+((o9 L).take ((List.replicate L.length (⟨0,0,0,fD⟩:PrD)).length-0)).length)=o9 L:=by
  have e1:(o9 L).take ((List.replicate L.length (⟨0,0,0,fD⟩:PrD)).length-0)=o9 L:=List.take_of_length_le (by rw[hal];simp)
  rw[e1,List.take_zero,List.nil_append,List.drop_of_length_le (by rw[hal];simp),List.append_nil]
 have h:Rel B' w2 [Y3 U2 (.slice (some ⟨g,0,none⟩) L.length L.length) ((List.replicate L.length (⟨0,0,0,fD⟩:PrD)).take 0++(o9 L).take ((List.replicate L.length (⟨0,0,0,fD⟩:PrD)).length-0)++(List.replicate L.length (⟨0,0,0,fD⟩:PrD)).drop (0+((o9 L).take ((List.replicate L.length (⟨0,0,0,fD⟩:PrD)).length-0)).length))]:=h
 rw[e0] at h
 have hr:=Y3.read (h.here (i:=0) rfl)
 simp -zeta only[O4.len hr I6]
 rw[hal]
 clear hr e0
 refine F6 (fun x w'=>∃(i:Nat) (L':PrL),i≤L.length∧L'.length=i∧prs L'=(prs L).take i∧x=(.int .i64 i,())∧Rel B' w' (Y3 U2 (.slice (some ⟨g,0,none⟩) L.length L.length) (o9 (L'++L.drop i)) :: L'.map Ws0)) (fun x _=>L.length-(match x.1 with | .int _ n=>n.toNat | _=>0))
  ⟨0,[],Nat.zero_le _,rfl,rfl,rfl,h⟩ ?_
 clear h
 rintro x w3 ⟨i,L',hi,hl',hp,rfl,h⟩ next hnext
 simp -zeta only[G6,K3]
 have hlen:(L'++L.drop i).length=L.length:=by rw[List.length_append,List.length_drop];omega
 refine⟨fun hlt=>?_,fun hge=>?_⟩
 ·have hil:i<L.length:=by omega
  have hr:=Y3.read (h.here (i:=0) rfl)
  have hel:(o9 (L'++L.drop i))[i]'(by rw[hal,hlen];exact hil)=L[i].1.raw L[i].2:=by
   simp [o9,List.getElem_append_right (show L'.length≤i by omega),hl']
  have hc:=O4.cells hr (i:=i) (by rw[hal,hlen];exact hil)
  rw[hel] at hc
  have hc:(K6 g (i * Enc.sz PrD) (L[i].1.raw L[i].2).cs).here w3:=hc
  have hrow:=q L[i] (List.getElem_mem hil)
  have hql:=hq L[i] (List.getElem_mem hil)
  simp -zeta only[aX (α:=PrD) (P:=Tryz.prog) (g:=g) (cap:=L.length) (n:=L.length) (i:=i) I6 hil,U0 jF,K6.ld hc wF (j:=3) rfl]
  refine h.make (fun B2 own base2=>sN (base2 hrow) (by omega) (by omega)) fun v' τ w4 hp2 h=>?_
  subst hp2
  have h1:v'.oneCell'=true:=h.oneCell (i:=(Y3 U2 (.slice (some ⟨g,0,none⟩) L.length L.length) (o9 (L'++L.drop i)) :: L'.map Ws0).length) kI
  refine h.Rl0 0 (j:=i) (f:=3) rfl (L[i].1.raw ⟨v',h1⟩) (by rw[hal,hlen];exact hil) rfl (by decide) (by rw[hel];rfl) wF h1 fun w5 h=>?_
  rw[Z5,E5 (by omega) (by omega)]
  refine hnext _ _ ⟨i+1,L'++[(L[i].1,⟨v',h1⟩)],by omega,by simp [hl'],?_,rfl,?_⟩ (by simp only;omega)
  ·have:(prs L).take (i+1)=(prs L).take i++[L[i].1]:=by
    rw[List.take_succ_eq_append_getElem (by simpa using hil)]
    simp
   rw[this,←hp]
   simp
  ·have e:(o9 (L'++L.drop i)).set i (L[i].1.raw ⟨v',h1⟩)=o9 (L'++[(L[i].1,⟨v',h1⟩)]++L.drop (i+1)):=by
    have hd:L.drop i=L[i] :: L.drop (i+1):=List.drop_eq_getElem_cons hil
    have hl2:(o9 L').length=i:=by rw[hal,hl']
    unfold o9 at hl2 ⊢
    rw[hd,List.map_append,List.set_append_right _ _ (by omega),hl2,Nat.sub_self,List.map_cons,List.set_cons_zero]
    simp
   have h:Rel B' w5 (Y3 U2 (.slice (some ⟨g,0,none⟩) L.length L.length) ((o9 (L'++L.drop i)).set i (L[i].1.raw ⟨v',h1⟩)) :: L'.map Ws0++[Y3 Q0 v' L[i].1.last]):=h
   rw[e] at h
   simpa [Ws0] using h
 ·have hie:i=L.length:=by omega
  subst hie
  rw[List.drop_length,List.append_nil] at h
  rw[List.take_of_length_le (by simp)] at hp
  have h:=Rel.gather (σ:=[Y3 U2 (.slice (some ⟨g,0,none⟩) L.length L.length) (o9 L')]) (g:=fun p:Pr×SV=>O4 p.2.1 p.1.last) h fun x _ B hx=>Y3.read hx
  exact k _ _ _ ⟨g,L',hp,by rw[hl'],rfl⟩ h
end
end Go.Proofs.YtngbebnhegcokaaGreatDoor

namespace Go.Proofs.YtngbebnhegcokaaGreatDoor
open Go.RowKit
set_option maxRecDepth 100000
section
variable {B:Base} {w:World}
theorem yy0{l:List PrD}{x:PrD}{v2:Value}{g r:Nat}(rd:O4 (.slice (some ⟨g,0,none⟩) l.length l.length) l B)(rd2:O4 v2 [x] B)(hr:r≤l.length)(hl:l.length≤1000000) :
  Makes Tryz.prog B (Z0 xA #[.slice (some ⟨g,0,none⟩) l.length l.length,.int .i64 r,v2]) fun u τ=>τ=[Y3 U2 u (l.take r++x :: l.drop r)]:=by
 refine Makes.intro fun B' w K base h k=>?_
 replace rd:=base rd
 replace rd2:=base rd2
 refine j_.up ?_
 unfold j_.pt
 have hw1:IntKind.i64.wrap ((l.length:Int)+((1:Nat):Int))=((l.length+1:Nat):Int):=by rw[E5 (by omega) (by omega)];omega
 rw[O4.Me0 rd I6 (lo:=r) (hi:=l.length) Bnd.some Bnd.none hr (Nat.le_refl _)]
 simp -zeta only[O4.len rd2 I6,O4.len rd I6,List.length_cons,List.length_nil,Nat.zero_add,F7,K3]
 refine⟨fun e=>absurd e (by omega),fun _=>⟨fun e=>?_,fun e=>?_⟩⟩
 ·have e:r=l.length:=by omega
  subst e
  refine h.grow (l:=l) (l2:=[x]) I6 rfl (Rd.base rd) (Rd.base rd2) (by simp) (by simp;omega) (by simp;omega) fun u w1 h=>?_
  refine k _ _ _ ?_ h
  rw[List.take_length,List.drop_length]
  rfl
 ·have hlt:r<l.length:=by omega
  simp -zeta only[Z5,hw1,ju0 ga0,x9,K3]
  refine⟨fun _=>?_,fun hh=>absurd (by omega) hh⟩
  have hw2:IntKind.i64.wrap (((l.length+1:Nat):Int)-(r:Int))=((l.length+1-r:Nat):Int):=by rw[E5 (by omega) (by omega)];omega
  have hw3:IntKind.i64.wrap ((r:Int)+((1:Nat):Int))=((r+1:Nat):Int):=by rw[E5 (by omega) (by omega)];omega
  rw[O4.Me0 rd I6 (lo:=0) (hi:=r) Bnd.none Bnd.some (Nat.zero_le _) hr]
  simp -zeta only[TB,hw2,hw3]
  have rd0:O4 (cutV (Enc.sz PrD) (.slice (some ⟨g,0,none⟩) l.length l.length) 0 r) (l.take r) B':=by
   have:=O4.rk0 rd (lo:=0) (hi:=r) (Nat.zero_le _) hr
   rw[List.drop_zero] at this
   exact this
  have hcv:cutV (Enc.sz PrD) (.slice (some ⟨g,0,none⟩) l.length l.length) 0 r = .slice (if l.length=0 then(some ⟨g,0,none⟩:Option Addr) else(some (⟨g,0,none⟩:Addr)).map (·.add (0 * Enc.sz PrD))) (l.take r).length l.length:=by
   have:(l.take r).length=r:=by rw[List.length_take];omega
   rw[this]
   rfl
  have htr:(l.take r).length=r:=by rw[List.length_take];omega
  refine h.sm0 (l:=l.take r) I6 IV hcv (Rd.base rd0) (⟨0,0,0,fD⟩:PrD) (by kernel_rfl) (m:=l.length+1-r) (by omega) (by omega) (by omega) (by omega) fun g2 cp w2 hcp h=>?_
  have hn:(l.take r).length+(l.length+1-r)=l.length+1:=by omega
  rw[hn] at h hcp ⊢
  generalize hl0:l.take r++List.replicate (l.length+1-r) (⟨0,0,0,fD⟩:PrD)=l0 at h
  have hl0n:l0.length=l.length+1:=by rw[←hl0,List.length_append,List.length_replicate];omega
  have hr2:=Y3.read (h.here (i:=0) rfl)
  rw[←hl0n] at hr2
  have cut2:∀(lo:Nat) (lov:Option Value),Bnd lov 0 lo→lo<l.length+1→∀{Kp:Value→Prop},M0 Tryz.prog (y9 J4 (.slice (some ⟨g2,0,none⟩) (l.length+1) cp) lov none none) Kp=Kp (.slice (some ⟨g2,lo * Enc.sz PrD,none⟩) (l.length+1-lo) (cp-lo)):=by
   intro lo lov hb hlo Kp
   rw[F5 fun w=>yN (α:=PrD) (lo:=lo) (hi:=l.length+1) I6 hb Bnd.none (by omega) hcp w]
   rw[if_neg (by omega)]
   simp [addr_add]
  rw[cut2 r _ Bnd.some (by omega)]
  refine h.iZ 0 (l:=l0) (l2:=[x]) (n:=l.length+1) (lo:=r) rfl I6 (Rd.base rd2) (by omega) (.inl rfl) fun w3 h=>?_
  rw[cut2 (r+1) _ Bnd.some (by omega),O4.Me0 rd I6 (lo:=r) (hi:=l.length) Bnd.some Bnd.none hr (Nat.le_refl _)]
  have rd3:O4 (cutV (Enc.sz PrD) (.slice (some ⟨g,0,none⟩) l.length l.length) r l.length) (l.drop r) B':=by
   have:=O4.rk0 rd (lo:=r) (hi:=l.length) hr (Nat.le_refl _)
   rw[List.take_length] at this
   exact this
  have e1:l0.take r++[x].take (l0.length-r)++l0.drop (r+([x].take (l0.length-r)).length)=l.take r++[x]++List.replicate (l.length-r) (⟨0,0,0,fD⟩:PrD):=by
   have hx:[x].take (l0.length-r)=[x]:=List.take_of_length_le (by simp;omega)
   rw[hx,←hl0,List.take_append_of_le_length (by omega),List.take_of_length_le (by omega),List.drop_append,List.drop_of_length_le (by simp;omega),List.nil_append,List.drop_replicate]
   congr 2
   simp
   omega
  have h:Rel B' w3 [Y3 U2 (.slice (some ⟨g2,0,none⟩) (l.length+1) cp) (l0.take r++[x].take (l0.length-r)++l0.drop (r+([x].take (l0.length-r)).length))]:=h
  rw[e1] at h
  have hl1:(l.take r++[x]++List.replicate (l.length-r) (⟨0,0,0,fD⟩:PrD)).length=l.length+1:=by simp;omega
  have h:=h.tick
  refine h.iZ 0 (l:=l.take r++[x]++List.replicate (l.length-r) (⟨0,0,0,fD⟩:PrD)) (l2:=l.drop r) (n:=l.length+1) (lo:=r+1) rfl I6 (Rd.base rd3) (by omega) (.inl rfl) fun w4 h=>?_
  generalize hY:l.take r++[x]++List.replicate (l.length-r) (⟨0,0,0,fD⟩:PrD)=Y at h hl1
  have hd:(l.drop r).take (Y.length-(r+1))=l.drop r:=List.take_of_length_le (by rw[hl1,List.length_drop];omega)
  have a1:Y.take (r+1)=l.take r++[x]:=by
   rw[←hY,List.take_append_of_le_length (by simp;omega),List.take_of_length_le (by simp;omega)]
  have a2:Y.drop (r+1+(l.drop r).length)=[]:=List.drop_of_length_le (by rw[hl1,List.length_drop];omega)
  have h:Rel B' w4 [Y3 U2 (.slice (some ⟨g2,0,none⟩) (l.length+1) cp) (Y.take (r+1)++(l.drop r).take (Y.length-(r+1))++Y.drop (r+1+((l.drop r).take (Y.length-(r+1))).length))]:=h
  rw[hd,a1,a2,List.append_nil,List.append_assoc] at h
  exact k _ _ _ rfl h
theorem Mt0(x:PrD)(id:Int)(h1 : -4611686018427387904≤x.id∧x.id≤4611686018427387903)(h2 : -4611686018427387904≤id∧id≤4611686018427387903):Gives Tryz.prog B (dA (.func (.func qG) #[] #[]) #[Enc.val x,.int .i64 id]) (.int .i64 (x.id-id)):=by
 refine Gives.intro fun B' w K base h k=>?_
 refine YH ?_
 refine VB.up (x0:=x.v) (id1 := .int .i64 id) (VB.call ?_)
 unfold VB.pt
 refine h.box fun b2 w1 h=>?_
 have h:Rel B' w1 [O1 b2 U2 x.cs.toArray]:=h
 simp -zeta only[U0 iF,Nat.add_zero,h.ld 0 rfl Y2 (o:=0) rfl,TB]
 rw[E5 (by omega) (by omega)]
 exact k _ _ h
theorem bH0{v:Value}{L:PrL}{id:Int}{r:Nat}(rd:O4 v (o9 L) B)(hl:L.length≤1000000)(hb:∀p∈L,0≤p.1.id∧p.1.id≤1099511627776)(hid:0≤id∧id≤1099511627776)(hr:r≤L.length)
  (h1:∀i (h:i<L.length),i<r→L[i].1.id<id) (h2:∀i (h:i<L.length),r≤i→id≤L[i].1.id) {f:Bool} (hf:f=true↔∃h:r<L.length,L[r].1.id=id) :
  Gives Tryz.prog B (Z0 H9 #[v,.int .i64 id,.func (.func qG) #[] #[]]) (.tuple #[.int .i64 r,.bool f]):=by
 refine Gives.intro fun B' w K base h k=>?_
 replace rd:=base rd
 have hal:(o9 L).length=L.length:=List.length_map ..
 have hel:∀i (h:i<L.length),(o9 L)[i]'(by omega)=L[i].1.raw L[i].2:=fun i h=>by simp [o9]
 refine I8.up ?_
 unfold I8.pt
 simp -zeta only[O4.len rd I6]
 rw[hal]
 refine P6 fun J hJ=>?_
 replace hJ:∀w',Rel B' w' []→J (.int .i64 r,()) w':=by
  intro w1 h
  refine hJ _ _ ?_
  clear hJ
  dsimp only
  simp -zeta only[G6,K3]
  refine⟨fun hlt=>?_,fun hge=>?_⟩
  ·have hrl:r<L.length:=by omega
   obtain⟨g,o,hx,hc⟩:=O4.idx rd I6 (P:=Tryz.prog) (i:=r) (by omega)
   rw[hel r hrl] at hc
   have hc:K6 g o (L[r].1.raw L[r].2).cs B':=hc
   simp -zeta only[hx,K6.r9 (h.L6 hc) X7 rfl]
   have hbr:=hb L[r] (List.getElem_mem hrl)
   refine h.ask (fun B2 own base2=>Mt0 (L[r].1.raw L[r].2) id (by show -4611686018427387904≤L[r].1.id∧L[r].1.id≤_;omega) (by omega)) fun w2 h=>?_
   rw[F7]
   have:decide (L[r].1.id-id=0)=f:=by
    rw[Bool.eq_iff_iff,decide_eq_true_iff,hf]
    exact⟨fun e=>⟨hrl,by omega⟩,fun⟨_,e⟩=>by omega⟩
   have e2:((L[r].1.raw L[r].2).id-id=0)=(L[r].1.id-id=0):=rfl
   rw[show decide ((L[r].1.raw L[r].2).id-id=0)=f from this]
   exact k _ _ h
  ·have:f=false:=by
    cases hfv:f
    ·rfl
    ·obtain⟨hlt,_⟩:=hf.1 hfv
     omega
   rw[this] at k
   exact k _ _ h
 refine F6 (fun x w'=>∃i j:Nat,i≤r∧r≤j∧j≤L.length∧x=(.int .i64 i,.int .i64 j,())∧Rel B' w' []) (fun x _=>(match x.2.1 with | .int _ n=>n.toNat | _=>0)-(match x.1 with | .int _ n=>n.toNat | _=>0))
  ⟨0,L.length,Nat.zero_le _,hr,Nat.le_refl _,rfl,h⟩ ?_
 clear h
 rintro x w1 ⟨i,j,hi,hj,hjn,rfl,h⟩ next hnext
 simp -zeta only[G6,K3]
 refine⟨fun hlt=>?_,fun hge=>?_⟩
 ·simp -zeta only[Z5]
  rw[E5 (by omega) (by omega),jU IV Gw0,IntWalk.u64_in _ ⟨by omega,by omega⟩,QW (by omega)]
  have e2:((i:Int)+j).fdiv (2 ^ min (Int.toNat 1) (IntKind.bits .u64))=(((i+j) / 2:Nat):Int):=by
   have:(2:Int) ^ min (Int.toNat 1) (IntKind.bits .u64)=2:=by decide
   rw[this,Int.fdiv_eq_ediv_of_nonneg _ (by omega)]
   omega
  rw[e2,jU Gw0 IV,E5 (by omega) (by omega)]
  have hml:(i+j) / 2<L.length:=by omega
  obtain⟨g,o,hx,hc⟩:=O4.idx rd I6 (P:=Tryz.prog) (i:=(i+j) / 2) (by omega)
  rw[hel _ hml] at hc
  have hc:K6 g o (L[(i+j) / 2].1.raw L[(i+j) / 2].2).cs B':=hc
  simp -zeta only[hx,K6.r9 (h.L6 hc) X7 rfl]
  have hbr:=hb L[(i+j) / 2] (List.getElem_mem hml)
  refine h.ask (fun B2 own base2=>Mt0 (L[(i+j) / 2].1.raw L[(i+j) / 2].2) id (by show -4611686018427387904≤L[(i+j) / 2].1.id∧L[(i+j) / 2].1.id≤_;omega) (by omega)) fun w2 h=>?_
  rw[G6,K3]
  refine⟨fun e=>?_,fun e=>?_⟩
  ·have e:L[(i+j) / 2].1.id-id<0:=e
   rw[Z5,E5 (by omega) (by omega)]
   refine hnext _ _ ⟨(i+j) / 2+1,j,?_,hj,hjn,rfl,h⟩ (by simp only;omega)
   refine Nat.lt_of_not_le fun hle=>?_
   have:=h2 _ hml hle
   omega
  ·have e:¬L[(i+j) / 2].1.id-id<0:=e
   refine hnext _ _ ⟨i,(i+j) / 2,hi,?_,by omega,rfl,h⟩ (by simp only;omega)
   refine Nat.le_of_not_lt fun hlt2=>?_
   have:=h1 _ hml hlt2
   omega
 ·have:i=r:=by omega
  subst this
  exact hJ _ h
end
end Go.Proofs.YtngbebnhegcokaaGreatDoor

namespace Go.Proofs.YtngbebnhegcokaaGreatDoor
open Go.RowKit
set_option maxRecDepth 100000
def eD(s:List Pr)(id:Int):Nat:=(s.takeWhile fun p=>decide (p.id<id)).length
theorem ox0(s:List Pr)(id:Int):eD s id≤s.length:=(List.takeWhile_prefix _).length_le
theorem Ge0(a:Pr)(s:List Pr)(id:Int):eD (a :: s) id=if a.id<id then eD s id+1 else 0:=by
 unfold eD
 by_cases h:a.id<id
 ·rw[List.takeWhile_cons_of_pos (by simpa using h),if_pos h];rfl
 ·rw[List.takeWhile_cons_of_neg (by simpa using h),if_neg h];rfl
theorem cnt_lt{s:List Pr}{id:Int}{i:Nat}(hi:i<eD s id)(h:i<s.length):s[i].id<id:=by
 induction s generalizing i with
 | nil=>cases h
 | cons a s ih =>
  rw[Ge0] at hi
  split at hi
  ·rename_i ha
   cases i with
   | zero=>exact ha
   | succ i=>exact ih (by omega) (by simpa using h)
  ·omega
theorem rx0{s:List Pr}{id:Int}(h:eD s id<s.length):¬s[eD s id].id<id:=by
 induction s with
 | nil=>cases h
 | cons a s ih =>
  by_cases ha:a.id<id
  ·have e:eD (a :: s) id=eD s id+1:=by rw[Ge0,if_pos ha]
   have h':eD s id<s.length:=by rw[e] at h;simpa using h
   have:=ih h'
   simp only[e,List.getElem_cons_succ]
   exact this
  ·have e:eD (a :: s) id=0:=by rw[Ge0,if_neg ha]
   simp only[e,List.getElem_cons_zero]
   exact ha
theorem ik0{s:List Pr}(hs:∀i (h:i<s.length),0<i→s[i-1].id<s[i].id){i j:Nat}(hij:i<j)(hj:j<s.length):s[i].id<s[j].id:=by
 induction j with
 | zero=>omega
 | succ j ih =>
  have h1:=hs (j+1) hj (by omega)
  have h1:s[j].id<s[j+1].id:=h1
  by_cases e:i=j
  ·subst e;exact h1
  ·exact Int.lt_trans (ih (by omega) (by omega)) h1
theorem tp0{s:List Pr}(hs:∀i (h:i<s.length),0<i→s[i-1].id<s[i].id){id:Int}{i:Nat}(hi:eD s id≤i)(h:i<s.length):id≤s[i].id:=by
 have hlt:eD s id<s.length:=by omega
 have h0:¬s[eD s id].id<id:=rx0 hlt
 by_cases e:i=eD s id
 ·subst e;omega
 ·have:=ik0 hs (i:=eD s id) (j:=i) (by omega) h
  omega
def JQ(s:List Pr)(p:Pr):List Pr:=if xK s p.id=true then s.set (eD s p.id) p else s.take (eD s p.id)++p :: s.drop (eD s p.id)
theorem Tk0{s:List Pr}(hs:∀i (h:i<s.length),0<i→s[i-1].id<s[i].id){id:Int}:xK s id=true↔∃h:eD s id<s.length,s[eD s id].id=id:=by
 constructor
 ·intro h
  obtain⟨h1,h2⟩:=kW h
  obtain⟨j,hj,e⟩:=List.getElem_of_mem h1
  have hej:s[j].id=id:=by rw[e];exact h2
  have hle:eD s id≤j:=Nat.le_of_not_lt fun hlt=>by have:=cnt_lt hlt hj;omega
  have hlt:eD s id<s.length:=by omega
  refine⟨hlt,?_⟩
  have h3:=tp0 hs (Nat.le_refl _) hlt
  by_cases ej:eD s id=j
  ·simp only[ej];exact hej
  ·have:=ik0 hs (i:=eD s id) (j:=j) (by omega) hj
   omega
 ·rintro⟨h,e⟩
  unfold xK
  rw[List.find?_isSome]
  exact⟨_,List.getElem_mem h,decide_eq_true e⟩
def GJ(u:Value)(s:List Pr):Dat:=⟨fun B=>∃L:PrL,prs L=s∧O4 u (o9 L) B∧IG L B,fun hl ⟨L,h1,h2,h3⟩=>⟨L,h1,Dat.mono _ hl h2,Dat.mono _ hl h3⟩⟩
def rT(u:Value)(s:List Pr)(τ:List Dat):Prop:=∀(B:Base) (w:World) (σ:List Dat),Rel B w (σ++τ)→Rel B w (σ++[GJ u s])
theorem uU{u:Value}{s:List Pr}{τ:List Dat}(h:∀B,(yU τ) B→GJ u s B):rT u s τ:=fun B w σ hr=>by
 have h1:=(Rel.kR hr).imp (i:=σ.length) (e:=GJ u s) kI h
 rw[List.set_append_right _ _ (Nat.le_refl _),Nat.sub_self,List.set_cons_zero] at h1
 exact h1
theorem Makes.imp{P:Program}{B:Base}{s:Sem Next}{post post':Value→List Dat→Prop}(h:Makes P B s post)(hi:∀v τ,post v τ→post' v τ):Makes P B s post':=fun w σ K hr k=>h w σ K hr fun v τ w' hp h2=>k v τ w' (hi v τ hp) h2
section
variable {B:Base} {w:World}
theorem UA0{v:Value}{L:PrL}(r:O4 v (o9 L) B)(q:IG L B)(hR:DC (prs L)){p:Pr}{sv:SV}(hid:inP p.id) :
  Makes Tryz.prog B (Z0 yM #[v,(p.raw sv).v]) fun u τ=>∃Lc L':PrL,prs L'=JQ (prs L) p∧(∀x∈L',x∈Lc∨x=(p,sv))∧τ=[Y3 U2 u (o9 L'),IG Lc]:=by
 refine Makes.intro fun B' w K base h k=>?_
 replace r:=base r
 replace q:=base q
 have hpl:∀L:PrL,(prs L).length=L.length:=fun L=>List.length_map ..
 have hal:∀L:PrL,(o9 L).length=L.length:=fun L=>List.length_map ..
 have hlen:=hR.len
 rw[hpl] at hlen
 refine FP.up ?_
 unfold FP.pt
 refine h.box fun b w1 h=>?_
 have h:Rel B' w1 [O1 b U2 (p.raw sv).cs.toArray]:=h
 refine h.make (fun B2 own base2=>Nr0 (base2 r) (base2 q) (by omega) fun x hx=>by have:=(hR.fine x.1 (List.mem_map_of_mem hx)).len;omega) fun u τ w2 hp h=>?_
 obtain⟨g,Lc,hpc,rfl,rfl⟩:=hp
 have hlc:Lc.length=L.length:=by rw[←hpl Lc,hpc,hpl]
 have h:Rel B' w2 [O1 b U2 (p.raw sv).cs.toArray,Y3 U2 (.slice (some ⟨g,0,none⟩) Lc.length Lc.length) (o9 Lc),IG Lc]:=h
 simp -zeta only[U0 iF,Nat.add_zero,h.ld 0 rfl Y2 (o:=0) rfl]
 have hget:∀i (h:i<Lc.length),Lc[i].1=(prs L)[i]'(by rw[hpl];omega):=fun i h=>by
  have:(prs Lc)[i]'(by rw[hpl];exact h)=Lc[i].1:=by simp
  rw[←this]
  simp only[hpc]
 have hcl:=ox0 (prs L) p.id
 rw[hpl] at hcl
 refine h.ask (fun B2 own base2=>bH0 (L:=Lc) (id:=p.id) (r:=eD (prs L) p.id) (f:=xK (prs L) p.id) (Y3.read (own (i:=1) rfl)) (by omega)
  (fun x hx=>by
   have hm:x.1∈prs L:=by rw[←hpc];exact List.mem_map_of_mem hx
   exact(hR.fine _ hm).id) hid (by omega) (fun i hi hlt=>by rw[hget i hi];exact cnt_lt hlt _) (fun i hi hge=>by rw[hget i hi];exact tp0 hR.asc hge _) (by
    rw[Tk0 hR.asc]
    constructor
    ·rintro⟨h1,h2⟩
     have h1':eD (prs L) p.id<Lc.length:=by rw[hpl] at h1;omega
     exact⟨h1',by rw[hget _ h1'];exact h2⟩
    ·rintro⟨h1,h2⟩
     exact⟨by rw[hpl];omega,by rw[←hget _ h1];exact h2⟩)) fun w3 h=>?_
 simp -zeta only[M9,D9]
 rw[R5]
 generalize hc:eD (prs L) p.id=c at hcl ⊢
 refine⟨fun e=>?_,fun e=>?_⟩
 ·have hcl2:c<Lc.length:=by
   obtain⟨h1,_⟩:=(Tk0 hR.asc).1 e
   rw[hc,hpl] at h1
   omega
  simp -zeta only[h.r9 0 rfl X7 rfl,aX (α:=PrD) (P:=Tryz.prog) (g:=g) (cap:=Lc.length) (n:=Lc.length) (i:=c) I6 hcl2]
  refine h.Nl0 1 (j:=c) rfl (p.raw sv) (by rw[hal];exact hcl2) X7 rfl rfl fun w4 h=>?_
  have h:=h.pick [1,2] (by decide)
  refine k _ _ _ ⟨Lc,Lc.set c (p,sv),?_,fun x hx=>List.mem_or_eq_of_mem_set hx,rfl⟩ ?_
  ·unfold JQ
   rw[if_pos e,hc,←hpc]
   exact List.map_set
  ·have e2:o9 (Lc.set c (p,sv))=(o9 Lc).set c (p.raw sv):=List.map_set
   rw[e2]
   exact h
 ·simp -zeta only[h.r9 0 rfl X7 rfl]
  refine h.XH (α:=PrD) (p.raw sv) I6 (by decide) fun v2 w4 h=>?_
  have h:Rel B' w4 [O1 b U2 (p.raw sv).cs.toArray,Y3 U2 (.slice (some ⟨g,0,none⟩) Lc.length Lc.length) (o9 Lc),IG Lc,Y3 U2 v2 [p.raw sv]]:=h
  rw[←hal Lc] at h ⊢
  refine h.make (fun B2 own base2=>yy0 (l:=o9 Lc) (x:=p.raw sv) (r:=c) (Y3.read (own (i:=1) rfl)) (Y3.read (own (i:=3) rfl)) (by rw[hal];omega) (by rw[hal];omega)) fun u τ w5 hp h=>?_
  subst hp
  have h:=h.pick [4,2] (by decide)
  refine k _ _ _ ⟨Lc,Lc.take c++(p,sv) :: Lc.drop c,?_,fun x hx=>?_,rfl⟩ ?_
  ·unfold JQ
   rw[if_neg (by rw[e];decide),hc,←hpc]
   simp
  ·rcases List.mem_append.1 hx with hx | hx
   ·exact .inl (List.mem_of_mem_take hx)
   ·rcases List.mem_cons.1 hx with hx | hx
    ·exact .inr hx
    ·exact .inl (List.mem_of_mem_drop hx)
  ·have e2:o9 (Lc.take c++(p,sv) :: Lc.drop c)=(o9 Lc).take c++p.raw sv :: (o9 Lc).drop c:=by simp [o9]
   rw[e2]
   exact h
def FJ(s:List Pr)(id:Int):List Pr×Int×Int :=
 if ¬okN id∨(PD s id).epoch=1099511627776 then([],0,1) else if xK s id=false∧50≤s.length then([],0,6) else(JQ s ⟨id,(PD s id).epoch+1,0,[]⟩,(PD s id).epoch+1,0)
theorem Wf0(τ:List Dat):rT (.slice none 0 0) [] τ:=uU fun B _=>⟨[],rfl,⟨none,0,rfl,Nat.le_refl _,.inl rfl⟩,fun x hx=>by cases hx⟩
theorem fB0{v:Value}{L:PrL}(r:O4 v (o9 L) B)(q:IG L B)(hR:DC (prs L))(id:Int) :
  Makes Tryz.prog B (Z0 QO #[v,.int .i64 id]) fun u τ=>∃tv,u = .tuple #[tv,.int .i64 (FJ (prs L) id).2.1,.int .i64 (FJ (prs L) id).2.2]∧rT tv (FJ (prs L) id).1 τ:=by
 refine Makes.intro fun B' w K base h k=>?_
 replace r:=base r
 replace q:=base q
 have hpl:∀L:PrL,(prs L).length=L.length:=fun L=>List.length_map ..
 have hal:∀L:PrL,(o9 L).length=L.length:=fun L=>List.length_map ..
 have hlen:=hR.len
 rw[hpl] at hlen
 refine rO.up ?_
 unfold rO.pt
 have fin:∀(x:List Pr×Int×Int) tv τ w',FJ (prs L) id=x→rT tv x.1 τ→Rel B' w' τ→K (.tuple #[tv,.int .i64 x.2.1,.int .i64 x.2.2]) w':=fun x tv τ w' e hn h=>k _ τ w' ⟨tv,by rw[e],by rw[e];exact hn⟩ h
 clear k
 unfold FJ at fin
 obtain⟨sv,hsv,hfind⟩:=Sp0 r q (by omega) id
 refine hfind _ _ _ h fun w1 h=>?_
 simp -zeta only[M9,D9]
 have hsm:=YU hR (id:=id)
 generalize PD (prs L) id=p at *
 refine h.R8 (ds:=(p.raw sv).cs.toArray) zF rfl X7 rfl (fun v hv=>Enc.one (p.raw sv) v hv) fun o w3 h=>?_
 have h:Rel B' w3 [O1 o U2 (p.raw sv).cs.toArray]:=h
 refine P6 fun J hJ=>?_
 replace hJ:okN id→¬p.epoch=1099511627776→¬(xK (prs L) id=false∧50≤(prs L).length)→∀w',Rel B' w' [O1 o U2 (p.raw sv).cs.toArray]→J () w':=by
  intro c1 c2 c3 w4 h
  refine hJ _ _ ?_
  clear hJ
  rw[if_neg (fun hh=>hh.elim (fun a=>a c1) c2),if_neg c3] at fin
  simp -zeta only[U0 fI,Nat.zero_add,h.ld 0 rfl Y2 (o:=1) rfl,Z5]
  rw[E5 (by omega) (by omega),vX]
  refine h.YG 0 (ds:=(⟨id,p.epoch+1,0,fD⟩:PrD).cs.toArray) rfl X7 rfl rfl (fun v hv=>Enc.one (⟨id,p.epoch+1,0,fD⟩:PrD) v hv) fun w5 h=>?_
  have h:=h.tick
  have h:Rel B' (tick w5) [O1 o U2 (⟨id,p.epoch+1,0,fD⟩:PrD).cs.toArray]:=h
  simp -zeta only[h.r9 0 rfl X7 rfl,h.ld 0 rfl Y2 (o:=1) rfl]
  refine h.make (fun B2 own base2=>UA0 (p:=⟨id,p.epoch+1,0,[]⟩) (sv:=fD) (base2 r) (base2 q) hR ⟨c1.1,by have:=c1.2;show id≤_;omega⟩) fun u τ w6 hp h=>?_
  obtain⟨Lc,L',hp,hm,rfl⟩:=hp
  refine⟨h.is 0 rfl Y2 (o:=1) rfl,?_⟩
  refine fin (JQ (prs L) ⟨id,p.epoch+1,0,[]⟩,p.epoch+1,0) u [Y3 U2 u (o9 L'),IG Lc] _ rfl ?_ (h.pick [1,2] (by decide))
  refine uU fun B3 hB3=>⟨L',hp,Y3.read (Dat.star.left hB3),fun x hx=>?_⟩
  rcases hm x hx with hx | rfl
  ·exact(Dat.star.left (Dat.star.right hB3):IG Lc B3) x hx
  ·exact⟨none,0,rfl,Nat.le_refl _,.inl rfl⟩
 refine h.ask (fun B2 own base2=>eq0 id) fun w4 h=>?_
 rw[V7,G5,K3]
 refine⟨fun c1=>?_,fun c1=>fin ([],0,1) _ _ _ (by rw[if_pos (.inl fun hh=>c1 ⟨hh.1,by have:=hh.2;omega⟩)]) (Wf0 []) h.nil⟩
 simp -zeta only[F7,K3]
 refine⟨fun c2=>fin ([],0,1) _ _ _ (by rw[if_pos (.inl fun hh=>by have:=hh.2;omega)]) (Wf0 []) h.nil,fun c2=>?_⟩
 have c1:okN id:=⟨c1.1,by have:=c1.2;omega⟩
 simp -zeta only[U0 fI,Nat.zero_add,h.ld 0 rfl Y2 (o:=1) rfl,F7,K3]
 refine⟨fun c3=>fin ([],0,1) _ _ _ (by rw[if_pos (.inr c3)]) (Wf0 []) h.nil,fun c3=>?_⟩
 rw[V7,G5,R5]
 refine⟨fun c4=>hJ c1 c3 (fun hh=>by rw[c4] at hh;cases hh.1) _ h,fun c4=>?_⟩
 simp -zeta only[O4.len r I6,FC,K3]
 rw[hal]
 exact⟨fun c5=>fin ([],0,6) _ _ _ (by rw[if_neg (fun hh=>hh.elim (fun a=>a c1) c3),if_pos ⟨c4,by rw[hpl];omega⟩]) (Wf0 []) h.nil,fun c5=>hJ c1 c3 (fun hh=>c5 (by have:=hh.2;rw[hpl] at this;omega)) _ h⟩
end
end Go.Proofs.YtngbebnhegcokaaGreatDoor

namespace Go.Proofs.YtngbebnhegcokaaGreatDoor
open Go.RowKit
set_option maxRecDepth 100000
def Yh0(p:Pr)(pos:Int):Pr:=⟨p.id,p.epoch,p.next+1,(p.last++[pos]).drop ((p.last++[pos]).length-20)⟩
def AY(s:List Pr)(id e q pos:Int):List Pr :=
 if(nO s id e q).2≠0 then s else if ¬inP pos then s else if 0<(PD s id).last.length∧pos≤(PD s id).last.getD ((PD s id).last.length-1) 0 then s else JQ s (Yh0 (PD s id) pos)
theorem Es0(s:List Pr)(id:Int):(PD s id).id=id:=by
 cases e:xK s id
 ·rw[(xR e).1]
 ·exact(kW e).2
theorem look_ok{s:List Pr}{id e q:Int}(h:(nO s id e q).2=0):(okN id∧okN e∧okN q)∧e=(PD s id).epoch∧q=(PD s id).next∧¬(xK s id=false∧50≤s.length):=by
 unfold nO at h
 by_cases c0:okN id∧okN e∧okN q
 ·rw[if_neg (fun hh=>hh c0)] at h
  by_cases c1:e<(PD s id).epoch
  ·rw[if_pos c1] at h;cases h
  rw[if_neg c1] at h
  by_cases c2:(PD s id).epoch<e
  ·rw[if_pos c2] at h;cases h
  rw[if_neg c2] at h
  by_cases c3:(PD s id).next<q
  ·rw[if_pos c3] at h;cases h
  rw[if_neg c3] at h
  by_cases c4:xK s id=false∧50≤s.length
  ·rw[if_pos c4] at h;cases h
  rw[if_neg c4] at h
  by_cases c5:q=(PD s id).next
  ·exact⟨c0,by omega,c5,c4⟩
  rw[if_neg c5] at h
  split at h<;>cases h
 ·rw[if_pos c0] at h;cases h
section
variable {B:Base} {w:World}
theorem rG0{v:Value}{L:PrL}(r:O4 v (o9 L) B)(q:IG L B)(hR:DC (prs L))(en:xD)(pos:Int) :
  Makes Tryz.prog B (Z0 IR #[v,en.v,.int .i64 pos]) fun u τ=>rT u (AY (prs L) en.producer en.epoch en.seq pos) τ:=by
 refine Makes.intro fun B' w K base h k=>?_
 replace r:=base r
 replace q:=base q
 have hpl:∀L:PrL,(prs L).length=L.length:=fun L=>List.length_map ..
 have hal:∀L:PrL,(o9 L).length=L.length:=fun L=>List.length_map ..
 have hlen:=hR.len
 rw[hpl] at hlen
 refine bR.up ?_
 unfold bR.pt
 have fin:∀s u τ w',AY (prs L) en.producer en.epoch en.seq pos=s→rT u s τ→Rel B' w' τ→K u w':=fun s u τ w' e hn h=>k _ τ w' (by rw[e];exact hn) h
 clear k
 unfold AY at fin
 refine h.box fun b w1 h=>?_
 have h:Rel B' w1 [O1 b U1 en.cs.toArray]:=h
 simp -zeta only[U0 jM,Nat.zero_add,h.ld 0 rfl Y2 (o:=1) rfl]
 obtain⟨sv,hsv,hfind⟩:=Sp0 r q (by omega) en.producer
 refine hfind _ _ _ h fun w2 h=>?_
 simp -zeta only[M9,D9]
 have hsm:=YU hR (id:=en.producer)
 have hid:=Es0 (prs L) en.producer
 have hlk:(nO (prs L) en.producer en.epoch en.seq).2=0→okN en.producer:=fun hh=>(look_ok hh).1.1
 generalize PD (prs L) en.producer=p at *
 refine h.R8 (ds:=(p.raw sv).cs.toArray) zF rfl X7 rfl (fun v hv=>Enc.one (p.raw sv) v hv) fun o w3 h=>?_
 have h:Rel B' w3 [O1 b U1 en.cs.toArray,O1 o U2 (p.raw sv).cs.toArray]:=h
 have cl:∀w',(if(nO (prs L) en.producer en.epoch en.seq).2≠0 then prs L else if ¬inP pos then prs L else if 0<p.last.length∧pos≤p.last.getD (p.last.length-1) 0 then prs L else JQ (prs L) (Yh0 p pos))=prs L →
   Rel B' w' [O1 b U1 en.cs.toArray,O1 o U2 (p.raw sv).cs.toArray]→upK Tryz.prog (Z0 gD #[v]) w' fun t w=>K t w:=by
  intro w' e h
  refine h.make (fun B2 own base2=>Nr0 (base2 r) (base2 q) (by omega) fun x hx=>by have:=(hR.fine x.1 (List.mem_map_of_mem hx)).len;omega) fun u τ w5 hp h=>?_
  obtain⟨g,Lc,hpc,rfl,rfl⟩:=hp
  refine fin (prs L) _ [Y3 U2 (.slice (some ⟨g,0,none⟩) Lc.length Lc.length) (o9 Lc),IG Lc] _ e ?_ (h.pick [2,3] (by decide))
  exact uU fun B3 hB3=>⟨Lc,hpc,Y3.read (Dat.star.left hB3),Dat.star.left (Dat.star.right hB3)⟩
 refine P6 fun J hJ=>?_
 replace hJ:(nO (prs L) en.producer en.epoch en.seq).2=0→inP pos→¬(0<p.last.length∧pos≤p.last.getD (p.last.length-1) 0)→∀w',Rel B' w' [O1 b U1 en.cs.toArray,O1 o U2 (p.raw sv).cs.toArray]→J () w':=by
  intro c1 c2 c3 w5 h
  refine hJ _ _ ?_
  clear hJ cl
  rw[if_neg (fun hh=>hh c1),if_neg (fun hh=>hh c2),if_neg c3] at fin
  have hin:=hlk c1
  simp -zeta only[U0 dL,U0 jF,Nat.zero_add,h.ld 1 rfl Y2 (o:=2) rfl,Z5]
  rw[E5 (by omega) (by omega)]
  refine h.st 1 rfl Y2 (show 2<4 by omega) rfl fun w6 h=>?_
  simp -zeta only[h.ld 1 rfl wF (o:=3) rfl]
  refine h.make (fun B2 own base2=>sN (base2 hsv) (by omega) (by omega)) fun v' τ w7 hp h=>?_
  subst hp
  refine h.WS (α:=Int) 2 rfl pos N8 (by decide) (by omega) (by omega) fun v2 w9 h=>?_
  have h1:v2.oneCell'=true:=h.oneCell (i:=2) rfl
  refine h.st 1 rfl wF (show 3<4 by omega) h1 fun w10 h=>?_
  have hr2:O4 v2 (p.last++[pos]) ⟨w10,fun _=>True⟩:=Y3.read (h.here (i:=2) rfl)
  have hl2:(p.last++[pos]).length=p.last.length+1:=by simp
  have hw:IntKind.i64.wrap (((p.last++[pos]).length:Int)-20)=((p.last++[pos]).length:Int)-20:=E5 (by omega) (by omega)
  have hmx:max (((p.last++[pos]).length:Int)-20) 0=(((p.last++[pos]).length-20:Nat):Int):=by omega
  simp -zeta only[h.ld 1 rfl wF (o:=3) rfl,O4.len hr2 N8,TB,hw,II,hmx]
  rw[O4.Me0 hr2 N8 (lo:=(p.last++[pos]).length-20) (hi:=(p.last++[pos]).length) Bnd.some Bnd.none (by omega) (Nat.le_refl _)]
  have hc1:(cutV (Enc.sz Int) v2 ((p.last++[pos]).length-20) (p.last++[pos]).length).oneCell'=true:=O4.oneCell (O4.rk0 hr2 (by omega) (Nat.le_refl _))
  refine h.st 1 rfl wF (show 3<4 by omega) hc1 fun w11 h=>?_
  have h:Rel B' w11 [O1 b U1 en.cs.toArray,O1 o U2 ((Yh0 p pos).raw ⟨_,hc1⟩).cs.toArray,Y3 Q0 v2 (p.last++[pos])]:=h
  rw[h.r9 1 rfl X7 rfl]
  refine h.make (fun B2 own base2=>UA0 (p:=Yh0 p pos) (sv:=⟨_,hc1⟩) (base2 r) (base2 q) hR (by show inP p.id;rw[hid];exact⟨hin.1,by have:=hin.2;omega⟩)) fun u τ w12 hp h=>?_
  obtain⟨Lc,L',hp,hm,rfl⟩:=hp
  refine fin (JQ (prs L) (Yh0 p pos)) u [Y3 Q0 v2 (p.last++[pos]),Y3 U2 u (o9 L'),IG Lc] _ rfl ?_ (h.pick [2,3,4] (by decide))
  refine uU fun B3 hB3=>⟨L',hp,Y3.read (Dat.star.left (Dat.star.right hB3)),fun x hx=>?_⟩
  rcases hm x hx with hx | rfl
  ·exact(Dat.star.left (Dat.star.right (Dat.star.right hB3)):IG Lc B3) x hx
  ·have:=O4.rk0 (Y3.read (Dat.star.left hB3)) (lo:=(p.last++[pos]).length-20) (hi:=(p.last++[pos]).length) (by omega) (Nat.le_refl _)
   rw[List.take_length] at this
   exact this
 rw[h.r9 0 rfl M8 rfl]
 refine h.ask (fun B2 own base2=>Dw0 (base2 r) (base2 q) hR en) fun w4 h=>?_
 simp -zeta only[M9,D9,Q7,G5,K3]
 refine⟨fun c1=>?_,fun c1=>cl _ (by rw[if_pos c1]) h⟩
 have c1:(nO (prs L) en.producer en.epoch en.seq).2=0:=c1
 refine h.ask (fun B2 own base2=>eq0 pos) fun w5 h=>?_
 rw[V7,G5,K3]
 refine⟨fun c2=>?_,fun c2=>cl _ (by rw[if_neg (fun hh=>hh c1),if_pos c2]) h⟩
 simp -zeta only[U0 jF,Nat.zero_add,h.ld 1 rfl wF (o:=3) rfl,O4.len hsv N8,x9,K3]
 refine⟨fun c3=>?_,fun c3=>hJ c1 c2 (fun hh=>c3 (by omega)) _ h⟩
 have hw:IntKind.i64.wrap ((p.last.length:Int)-1)=((p.last.length-1:Nat):Int):=by rw[E5 (by omega) (by omega)];omega
 have hml:p.last.length-1<p.last.length:=by omega
 obtain⟨a,q1,q2⟩:=O4.cZ hsv h N8 hml Y2 (x := .int .i64 p.last[p.last.length-1]) rfl
 have hgd:p.last.getD (p.last.length-1) 0=p.last[p.last.length-1]:=by rw[List.getD_eq_getElem?_getD,List.getElem?_eq_getElem hml];rfl
 simp -zeta only[TB,hw,q1,q2,WC,K3]
 exact⟨fun c4=>cl _ (by rw[if_neg (fun hh=>hh c1),if_neg (fun hh=>hh c2),if_pos ⟨by omega,by rw[hgd];exact c4⟩]) h,fun c4=>hJ c1 c2 (fun hh=>c4 (by rw[←hgd];exact hh.2)) _ h⟩
end
end Go.Proofs.YtngbebnhegcokaaGreatDoor

namespace Go.Proofs.YtngbebnhegcokaaGreatDoor
open Go.RowKit
set_option maxRecDepth 100000
abbrev Asc(s:List Pr):Prop:=s.Pairwise fun a b=>a.id<b.id
theorem gk0{s:List Pr}:(∀i (h:i<s.length),0<i→s[i-1].id<s[i].id)↔Asc s:=by
 constructor
 ·intro h
  show s.Pairwise fun a b=>a.id<b.id
  rw[List.pairwise_iff_getElem]
  intro i j hi hj hij
  exact ik0 h hij hj
 ·intro h i hi h0
  have h:s.Pairwise fun a b=>a.id<b.id:=h
  rw[List.pairwise_iff_getElem] at h
  exact h (i-1) i (by omega) hi (by omega)
theorem DC.pw{s:List Pr}(h:DC s):Asc s:=gk0.1 h.asc
theorem lh0{s:List Pr}(h:Asc s)(p:Pr):∃c d,JQ s p=s.take c++p :: s.drop d∧(∀x∈s.take c,x.id<p.id)∧(∀x∈s.drop d,p.id<x.id)∧c≤s.length∧d≤s.length∧((d=c∧xK s p.id=false)∨(d=c+1∧xK s p.id=true∧∃hc:c<s.length,s[c].id=p.id)):=by
 have ha:=gk0.2 h
 have hlt:∀x∈s.take (eD s p.id),x.id<p.id:=fun x hx=>by
  obtain⟨i,hi,rfl⟩:=List.mem_take_iff_getElem.1 hx
  exact cnt_lt (by omega) (by omega)
 have hle:=ox0 s p.id
 cases e:xK s p.id
 ·refine⟨eD s p.id,eD s p.id,by unfold JQ;rw[if_neg (by rw[e];decide)],hlt,fun x hx=>?_,hle,hle,.inl ⟨rfl,rfl⟩⟩
  obtain⟨i,hi,rfl⟩:=List.mem_drop_iff_getElem.1 hx
  have h1:=tp0 ha (id:=p.id) (i:=eD s p.id+i) (by omega) (by omega)
  have h2:=(xR e).2 _ (List.getElem_mem (show eD s p.id+i<s.length by omega))
  omega
 ·obtain⟨hc,hid⟩:=(Tk0 ha).1 e
  refine⟨eD s p.id,eD s p.id+1,by unfold JQ;rw[if_pos e,List.set_eq_take_append_cons_drop,if_pos hc],hlt,fun x hx=>?_,hle,by omega,.inr ⟨rfl,rfl,hc,hid⟩⟩
  obtain⟨i,hi,rfl⟩:=List.mem_drop_iff_getElem.1 hx
  have:=ik0 ha (i:=eD s p.id) (j:=eD s p.id+1+i) (by omega) (by omega)
  omega
theorem qw0{s:List Pr}(h:Asc s)(p:Pr):Asc (JQ s p):=by
 obtain⟨c,d,e,h1,h2,_,_,hcd⟩:=lh0 h p
 rw[e]
 unfold Asc
 rw[List.pairwise_append,List.pairwise_cons]
 refine⟨h.sublist (List.take_sublist _ _),⟨h2,h.sublist (List.drop_sublist _ _)⟩,fun x hx y hy=>?_⟩
 rcases List.mem_cons.1 hy with rfl | hy
 ·exact h1 x hx
 ·exact Int.lt_trans (h1 x hx) (h2 y hy)
theorem rw0{s:List Pr}(h:Asc s)(p x:Pr):x∈JQ s p↔x=p∨(x∈s∧x.id≠p.id):=by
 obtain⟨c,d,e,h1,h2,hc,hd,hcd⟩:=lh0 h p
 rw[e,List.mem_append,List.mem_cons]
 constructor
 ·rintro(hx | rfl | hx)
  ·exact .inr ⟨List.mem_of_mem_take hx,by have:=h1 x hx;omega⟩
  ·exact .inl rfl
  ·exact .inr ⟨List.mem_of_mem_drop hx,by have:=h2 x hx;omega⟩
 ·rintro(rfl | ⟨hx,hne⟩)
  ·exact .inr (.inl rfl)
  ·have hs:s=s.take c++s.drop c:=(List.take_append_drop c s).symm
   rw[hs] at hx
   rcases List.mem_append.1 hx with hx | hx
   ·exact .inl hx
   ·rcases hcd with⟨rfl,_⟩ | ⟨rfl,_,hlt,hid⟩
    ·exact .inr (.inr hx)
    ·rw[List.drop_eq_getElem_cons hlt] at hx
     rcases List.mem_cons.1 hx with rfl | hx
     ·exact absurd hid hne
     ·exact .inr (.inr hx)
theorem TA0{s:List Pr}(h:Asc s)(p:Pr):(JQ s p).length=if xK s p.id=true then s.length else s.length+1:=by
 obtain⟨c,d,e,h1,h2,hc,hd,hcd⟩:=lh0 h p
 rw[e,List.length_append,List.length_cons,List.length_take,List.length_drop]
 rcases hcd with⟨rfl,hh⟩ | ⟨rfl,hh,hlt,_⟩
 ·rw[if_neg (by rw[hh];decide)];omega
 ·rw[if_pos hh];omega
theorem mh0{s:List Pr}(h:DC s){p:Pr}(hp:KR p)(hl:xK s p.id=true∨s.length<50):DC (JQ s p):=by
 refine⟨fun x hx=>?_,gk0.2 (qw0 h.pw p),?_⟩
 ·rcases(rw0 h.pw p x).1 hx with rfl | ⟨hx,_⟩
  ·exact hp
  ·exact h.fine x hx
 ·rw[TA0 h.pw p]
  have:=h.len
  split
  ·exact this
  ·rename_i hh
   rcases hl with hl | hl
   ·exact absurd hl hh
   ·omega
theorem Gv0{p:Pr}(hp:KR p)(hn:p.next<1099511627776){pos:Int}(hpos:inP pos)(hb:¬(0<p.last.length∧pos≤p.last.getD (p.last.length-1) 0)):KR (Yh0 p pos):=by
 have hnext:=hp.next
 have hlen:=hp.len
 have hl2:(p.last++[pos]).length=p.last.length+1:=by simp
 have hget:∀i (h:i<(p.last++[pos]).length),(p.last++[pos])[i]=if h':i<p.last.length then p.last[i] else pos:=fun i h=>by
  by_cases h':i<p.last.length
  ·rw[dif_pos h',List.getElem_append_left h']
  ·rw[dif_neg h',List.getElem_append_right (by omega)]
   simp
 have each:∀i (h:i<(p.last++[pos]).length),inP (p.last++[pos])[i]:=fun i h=>by
  rw[hget i h]
  split
  ·rename_i h';exact hp.each i h'
  ·exact hpos
 have asc:∀i (h:i<(p.last++[pos]).length),0<i→(p.last++[pos])[i-1]<(p.last++[pos])[i]:=fun i h h0=>by
  rw[hget i h,hget (i-1) (by omega)]
  by_cases h':i<p.last.length
  ·rw[dif_pos h',dif_pos (by omega)];exact hp.asc i h' h0
  ·rw[dif_neg h',dif_pos (by omega)]
   have hi:i-1=p.last.length-1:=by omega
   have hgd:p.last.getD (p.last.length-1) 0=p.last[p.last.length-1]'(by omega):=by rw[List.getD_eq_getElem?_getD,List.getElem?_eq_getElem (by omega)];rfl
   rw[hgd] at hb
   simp only[hi]
   omega
 unfold inP at hnext
 have hdl:(Yh0 p pos).last.length=(p.last++[pos]).length-((p.last++[pos]).length-20):=List.length_drop ..
 refine⟨hp.id,hp.epoch,⟨by show 0≤p.next+1;omega,by show p.next+1≤_;omega⟩,?_,fun i h=>?_,fun i h h0=>?_⟩
 ·rw[hdl]
  show _=min (p.next+1) 20
  omega
 ·have:(Yh0 p pos).last[i]=(p.last++[pos])[(p.last++[pos]).length-20+i]'(by rw[hdl] at h;omega):=List.getElem_drop ..
  rw[this]
  exact each _ _
 ·have e1:(Yh0 p pos).last[i]=(p.last++[pos])[(p.last++[pos]).length-20+i]'(by rw[hdl] at h;omega):=List.getElem_drop ..
  have e2:(Yh0 p pos).last[i-1]=(p.last++[pos])[(p.last++[pos]).length-20+(i-1)]'(by rw[hdl] at h;omega):=List.getElem_drop ..
  rw[e1,e2]
  have:=asc ((p.last++[pos]).length-20+i) (by rw[hdl] at h;omega) (by omega)
  have e3:(p.last++[pos]).length-20+i-1=(p.last++[pos]).length-20+(i-1):=by omega
  simp only[e3] at this
  exact this
end Go.Proofs.YtngbebnhegcokaaGreatDoor

namespace Go.Proofs.YtngbebnhegcokaaGreatDoor
open Go.RowKit
set_option maxRecDepth 100000
theorem Iv0{s:List Pr}(h:DC s)(id e q pos:Int):DC (AY s id e q pos):=by
 unfold AY
 by_cases c0:(nO s id e q).2≠0
 ·rw[if_pos c0];exact h
 rw[if_neg c0]
 have c0:(nO s id e q).2=0:=by simpa using c0
 obtain⟨⟨h1,_,h3⟩,he,hq,hfull⟩:=look_ok c0
 by_cases c1:¬inP pos
 ·rw[if_pos c1];exact h
 rw[if_neg c1]
 by_cases c2:0<(PD s id).last.length∧pos≤(PD s id).last.getD ((PD s id).last.length-1) 0
 ·rw[if_pos c2];exact h
 rw[if_neg c2]
 have hid:=Es0 s id
 have hfine:=(Ru0 h (id:=id) ⟨h1.1,by have:=h1.2;omega⟩).1
 refine mh0 h (Gv0 hfine (by rw[←hq];exact h3.2) (Decidable.of_not_not c1) c2) ?_
 show xK s (PD s id).id=true∨_
 rw[hid]
 cases e:xK s id
 ·right
  exact Nat.lt_of_not_le fun hh=>hfull ⟨e,hh⟩
 ·exact .inl rfl
theorem Vx0{s:List Pr}{id:Int}(h:(FJ s id).2.2=0):okN id∧¬(PD s id).epoch=1099511627776∧¬(xK s id=false∧50≤s.length)∧FJ s id=(JQ s ⟨id,(PD s id).epoch+1,0,[]⟩,(PD s id).epoch+1,0):=by
 unfold FJ at h ⊢
 by_cases c1:¬okN id∨(PD s id).epoch=1099511627776
 ·rw[if_pos c1] at h;cases h
 rw[if_neg c1] at h ⊢
 by_cases c2:xK s id=false∧50≤s.length
 ·rw[if_pos c2] at h;cases h
 rw[if_neg c2]
 exact⟨Decidable.of_not_not fun hh=>c1 (.inl hh),fun hh=>c1 (.inr hh),c2,rfl⟩
theorem on0{s:List Pr}(h:DC s){id:Int}(he:(FJ s id).2.2=0):DC (FJ s id).1:=by
 obtain⟨h1,h2,h3,e⟩:=Vx0 he
 rw[e]
 have hsm:=YU h (id:=id)
 refine mh0 h ⟨⟨h1.1,by have:=h1.2;show id≤_;omega⟩,⟨by show 0≤(PD s id).epoch+1;omega,by show (PD s id).epoch+1≤_;omega⟩,(show inP 0 by decide),rfl,fun i h=>absurd h (Nat.not_lt_zero i),fun i h=>absurd h (Nat.not_lt_zero i)⟩ ?_
 show xK s id=true∨_
 cases e:xK s id
 ·right
  exact Nat.lt_of_not_le fun hh=>h3 ⟨e,hh⟩
 ·exact .inl rfl
theorem Nv0:DC []:=⟨fun p hp=>(by cases hp),fun i h=>absurd h (Nat.not_lt_zero i),Nat.zero_le _⟩
end Go.Proofs.YtngbebnhegcokaaGreatDoor

namespace Go.Proofs.YtngbebnhegcokaaGreatDoor
open Go.RowKit
set_option maxRecDepth 100000
abbrev OD:=T9
def LA0(n:Int):OD:=⟨0,n,⟨#[]⟩⟩
def Uo0(s:ByteArray):OD:=⟨1,0,s⟩
def Vc0(b:Bool):OD:=⟨2,if b then 1 else 0,⟨#[]⟩⟩
def xS(v:OD):Bool:=if v.kind=0 then decide (v=LA0 v.n) else if v.kind=1 then decide (v=Uo0 v.s)&&decide ((v.s.size:Int)≤200) else decide (v=Vc0 false)||decide (v=Vc0 true)
def wU(l:List OD):Bool:=decide ((l.length:Int)≤12)&&l.all xS
section
variable {B:Base} {w:World}
theorem kG0(n:Int):Gives Tryz.prog B (Z0 FV #[.int .i64 n]) (LA0 n).v:=by
 refine Gives.intro fun B' w K base h k=>?_
 refine lX.up ?_
 unfold lX.pt
 refine h.alloc JK fun o w1 h=>?_
 rw[YO]
 refine h.YG 0 (ds:=(LA0 n).cs.toArray) rfl Z7 rfl rfl (fun v hv=>Enc.one (LA0 n) v hv) fun w2 h=>?_
 rw[qJ h 0 rfl Z7 rfl]
 exact k _ _ h
theorem GD0(s:ByteArray):Gives Tryz.prog B (Z0 FU #[.string s]) (Uo0 s).v:=by
 refine Gives.intro fun B' w K base h k=>?_
 refine sV.up ?_
 unfold sV.pt
 refine h.alloc JK fun o w1 h=>?_
 rw[na0]
 refine h.YG 0 (ds:=(Uo0 s).cs.toArray) rfl Z7 rfl rfl (fun v hv=>Enc.one (Uo0 s) v hv) fun w2 h=>?_
 rw[qJ h 0 rfl Z7 rfl]
 exact k _ _ h
theorem Lt0(b:Bool):Gives Tryz.prog B (Z0 NQ #[.bool b]) (Vc0 b).v:=by
 refine Gives.intro fun B' w K base h k=>?_
 refine rV.up ?_
 unfold rV.pt
 refine h.alloc JK fun o w1 h=>?_
 rw[R5]
 refine⟨fun e=>?_,fun e=>?_⟩<;>subst e
 ·rw[YO]
  refine h.YG 0 (ds:=(Vc0 true).cs.toArray) rfl Z7 rfl rfl (fun v hv=>Enc.one (Vc0 true) v hv) fun w2 h=>?_
  rw[qJ h 0 rfl Z7 rfl]
  exact k _ _ h
 ·rw[Be0]
  refine h.YG 0 (ds:=(Vc0 false).cs.toArray) rfl Z7 rfl rfl (fun v hv=>Enc.one (Vc0 false) v hv) fun w2 h=>?_
  rw[qJ h 0 rfl Z7 rfl]
  exact k _ _ h
theorem RA0(v:OD):Gives Tryz.prog B (Z0 nT #[v.v]) (.bool (xS v)):=by
 refine Gives.intro fun B' w K base h k=>?_
 refine fT.up ?_
 unfold fT.pt
 refine h.box fun o w1 h=>?_
 have h:Rel B' w1 [O1 o R3 v.cs.toArray]:=h
 have ht:=h.tick
 unfold xS at k
 simp -zeta only[U0 vP,U0 KT,U0 mM,Nat.add_zero,Nat.zero_add,h.ld 0 rfl Y2 (o:=0) rfl,F7,K3,ht.r9 0 rfl Z7 rfl,ht.ld 0 rfl Y2 (o:=1) rfl,ht.ld 0 rfl U6 (o:=2) rfl]
 refine⟨fun c0=>?_,fun c0=>?_⟩
 ·rw[if_pos c0] at k
  refine ht.ask (fun B2 own base2=>kG0 v.n) fun w2 h=>?_
  refine⟨h.bV 0 rfl Z7 rfl,?_⟩
  rw[show (Value.agg v.cs.toArray)=v.v from rfl,QQ]
  exact k _ _ h
 rw[if_neg c0] at k
 refine⟨fun c1=>?_,fun c1=>?_⟩
 ·rw[if_pos c1] at k
  refine ht.ask (fun B2 own base2=>GD0 v.s) fun w2 h=>?_
  refine⟨h.bV 0 rfl Z7 rfl,?_⟩
  rw[show (Value.agg v.cs.toArray)=v.v from rfl,QQ,K3]
  refine⟨fun c2=>?_,fun c2=>?_⟩
  ·rw[decide_eq_true c2,Bool.true_and] at k
   simp -zeta only[h.ld 0 rfl U6 (o:=2) rfl,LC K8,WC]
   exact k _ _ h
  ·rw[decide_eq_false c2,Bool.false_and] at k
   exact k _ _ h
 rw[if_neg c1] at k
 refine ht.ask (fun B2 own base2=>Lt0 false) fun w2 h=>?_
 refine⟨h.bV 0 rfl Z7 rfl,?_⟩
 rw[show (Value.agg v.cs.toArray)=v.v from rfl,QQ,K3]
 refine⟨fun c2=>?_,fun c2=>?_⟩
 ·rw[decide_eq_true c2,Bool.true_or] at k
  exact k _ _ h
 ·rw[decide_eq_false c2,Bool.false_or] at k
  rw[h.r9 0 rfl Z7 rfl]
  refine h.ask (fun B2 own base2=>Lt0 true) fun w3 h=>?_
  refine⟨h.bV 0 rfl Z7 rfl,?_⟩
  rw[show (Value.agg v.cs.toArray)=v.v from rfl,QQ]
  exact k _ _ h
theorem GE0(v:OD):Gives Tryz.prog B (dA (.func (.func qP) #[] #[]) #[Enc.val v]) (.bool (!xS v)):=by
 refine Gives.intro fun B' w K base h k=>?_
 refine YH ?_
 refine OG.up (v0:=v.v) (OG.call ?_)
 unfold OG.pt
 refine h.box fun o w1 h=>?_
 have h:Rel B' w1 [O1 o R3 v.cs.toArray]:=h
 rw[h.r9 0 rfl Z7 rfl]
 refine h.ask (fun B2 own base2=>RA0 v) fun w2 h=>?_
 rw[V7]
 exact k _ _ h
theorem Qc0{u:Value}{l:List OD}(r:O4 u l B):Gives Tryz.prog B (Z0 gF #[u]) (.bool (wU l)):=by
 refine Gives.intro fun B' w K base h k=>?_
 replace r:=base r
 refine yO.up ?_
 unfold yO.pt
 unfold wU at k
 simp -zeta only[O4.len r Q8,WC,K3]
 refine⟨fun c=>?_,fun c=>?_⟩
 ·rw[decide_eq_true c,Bool.true_and] at k
  refine h.ask (v := .bool (l.all xS)) (fun B2 own base2=>?_) fun w1 h=>k _ _ h
  refine Gives.intro fun B3 w K base3 h k=>?_
  refine mX.up ?_
  unfold mX.pt
  refine h.ask (fun B4 own base4=>OI (base4 (base3 (base2 r))) (by omega) (fun v=>!xS v) fun B5 base5 x _=>GE0 x) fun w1 h=>?_
  rw[V7]
  have e:(!l.any fun v=>!xS v)=l.all xS:=by
   rw[List.not_any_eq_all_not]
   simp
  rw[e]
  exact k _ _ h
 ·rw[decide_eq_false c,Bool.false_and] at k
  exact k _ _ h
theorem Yq0{u:Value}{l:List OD}(r:O4 u l B)(_:l.length≤4611686018427387904):Gives Tryz.prog B (Z0 gF #[u]) (.bool (wU l)):=Qc0 r
end
end Go.Proofs.YtngbebnhegcokaaGreatDoor

namespace Go.Proofs.YtngbebnhegcokaaGreatDoor
open Go.RowKit
set_option maxRecDepth 100000
abbrev zw0:=LK
abbrev KnD:=uI
abbrev EnD:=xD
structure Kn where
 source:ByteArray
 schema:Int
 cols:List zw0
abbrev KnL:=List (Kn×SV)
abbrev Kn.raw(k:Kn)(v:SV):KnD:=⟨k.source,k.schema,v⟩
def DL(L:KnL):List KnD:=L.map fun k=>k.1.raw k.2
def yZ(L:KnL):Dat:=Dat.all L fun k=>O4 k.2.1 k.1.cols
def JA(u:Value)(s:List Kn):Dat:=⟨fun B=>∃L:KnL,L.map (·.1)=s∧O4 u (DL L) B∧yZ L B,fun hl ⟨L,h1,h2,h3⟩=>⟨L,h1,Dat.mono _ hl h2,Dat.mono _ hl h3⟩⟩
def nq0(src:ByteArray)(schema:Int)(k:Kn):Bool:=decide (k.source=src)&&decide (k.schema=schema)
def zZ(r:List OD)(cs:List zw0):Bool:=decide (r.map (·.kind)=cs.map (·.type_))
def VX(s:List Kn)(src:ByteArray)(schema:Int)(r:List OD):Int:=match s.find? (nq0 src schema) with
 | none=>17
 | some k=>if zZ r k.cols=true∧wU r=true then 0 else 16
section
variable {B:Base} {w:World}
theorem VB0{b:Nat}{en:EnD}(hc:O1 b U1 en.cs.toArray B)(x:KnD):Gives Tryz.prog B (dA (.func (.func yC) #[] #[.pointer (some ⟨b,0,none⟩)]) #[Enc.val x]) (.bool (decide (x.source=en.source)&&decide (x.schema=en.schema))):=by
 refine Gives.intro fun B' w K base h k=>?_
 replace hc:=base hc
 refine YH ?_
 refine F_.up (k0:=x.v) (t1 := .pointer (some ⟨b,0,none⟩)) (F_.call ?_)
 unfold F_.pt
 refine h.box fun o w1 h=>?_
 have h:Rel B' w1 [O1 o A8 x.cs.toArray]:=h
 simp -zeta only[U0 Jh0,U0 Lh0,U0 sJ,U0 kM,Nat.add_zero,Nat.zero_add,h.ld 0 rfl U6 (o:=0) rfl,h.ld 0 rfl Y2 (o:=1) rfl,O1.ld (h.L6 hc) U6 (o:=4) rfl,O1.ld (h.L6 hc) Y2 (o:=5) rfl,VW,K3]
 refine⟨fun c=>?_,fun c=>?_⟩
 ·rw[decide_eq_true c,Bool.true_and] at k
  rw[F7]
  exact k _ _ h
 ·rw[decide_eq_false c,Bool.false_and] at k
  exact k _ _ h
theorem WB0(v:OD)(c:zw0):Gives Tryz.prog B (dA (.func (.func zC) #[] #[]) #[Enc.val v,Enc.val c]) (.bool (decide (v.kind=c.type_))):=by
 refine Gives.intro fun B' w K base h k=>?_
 refine YH ?_
 refine G_.up (v0:=v.v) (c1:=c.v) (G_.call ?_)
 unfold G_.pt
 refine h.box fun o w1 h=>?_
 refine h.box fun o2 w2 h=>?_
 have h:Rel B' w2 [O1 o R3 v.cs.toArray,O1 o2 iB c.cs.toArray]:=h
 simp -zeta only[U0 vP,U0 ln0,Nat.add_zero,Nat.zero_add,h.ld 0 rfl Y2 (o:=0) rfl,h.ld 1 rfl Y2 (o:=1) rfl,F7]
 exact k _ _ h
theorem Bk0{u v:Value}{l:List OD}{m:List zw0}(r:O4 u l B)(q:O4 v m B)(hl:l.length≤4611686018427387904):Gives Tryz.prog B (Z0 E9 #[u,v,.func (.func zC) #[] #[]]) (.bool (zZ l m)):=by
 refine Gives.intro fun B' w K base h k=>?_
 replace r:=base r
 replace q:=base q
 refine F8.up ?_
 unfold F8.pt
 have no:∀w' τ,Rel B' w' τ→l.map (·.kind)≠m.map (·.type_)→K (.bool false) w':=fun w' τ h hn=>by
  rw[show zZ l m=false from decide_eq_false hn] at k
  exact k _ _ h
 simp -zeta only[O4.len r Q8,O4.len q wO,Q7,G5,K3]
 refine⟨fun he=>?_,fun hne=>no _ _ h fun hh=>hne (by have:=congrArg List.length hh;rw[List.length_map,List.length_map] at this;rw[this])⟩
 refine F6 (fun x w'=>∃i:Nat,i≤l.length∧x=(.int .i64 i,())∧(∀j (h1:j<l.length) (h2:j<m.length),j<i→l[j].kind=m[j].type_)∧Rel B' w' []) (fun x _=>l.length-(match x.1 with | .int _ n=>n.toNat | _=>0))
  ⟨0,Nat.zero_le _,rfl,fun j _ _ hj=>absurd hj (Nat.not_lt_zero j),h⟩ ?_
 clear h
 rintro x w1 ⟨i,hi,rfl,hin,h⟩ next hnext
 simp -zeta only[G6,K3]
 refine⟨fun hlt=>?_,fun hge=>?_⟩
 ·have hil:i<l.length:=by omega
  have him:i<m.length:=by omega
  obtain⟨g,o,hx,hc⟩:=O4.idx r Q8 (P:=Tryz.prog) hil
  obtain⟨g2,o2,hx2,hc2⟩:=O4.idx q wO (P:=Tryz.prog) him
  have hc:K6 g o l[i].cs B':=hc
  have hc2:K6 g2 o2 m[i].cs B':=hc2
  rw[hx,K6.r9 (h.L6 hc) Z7 rfl]
  refine h.R8 (ds:=l[i].cs.toArray) JK rfl Z7 rfl (fun v hv=>Enc.one l[i] v hv) fun a w3 h=>?_
  rw[hx2,K6.r9 (h.L6 hc2) kY rfl]
  refine h.R8 (ds:=m[i].cs.toArray) vw0 rfl kY rfl (fun v hv=>Enc.one m[i] v hv) fun a2 w5 h=>?_
  have h:Rel B' w5 [O1 a R3 l[i].cs.toArray,O1 a2 iB m[i].cs.toArray]:=h
  rw[h.r9 0 rfl Z7 rfl,h.r9 1 rfl kY rfl]
  refine h.ask (fun B2 own base2=>WB0 l[i] m[i]) fun w6 h=>?_
  rw[V7,G5,K3]
  refine⟨fun c=>?_,fun c=>no _ _ h fun hh=>c ?_⟩
  ·rw[Z5,E5 (by omega) (by omega)]
   refine hnext _ _ ⟨i+1,hil,rfl,fun j h1 h2 hj=>?_,h.nil⟩ (by simp only;omega)
   by_cases e:j=i
   ·subst e;exact c
   ·exact hin j h1 h2 (by omega)
  ·have h1:(l.map (·.kind))[i]'(by rw[List.length_map];exact hil)=(m.map (·.type_))[i]'(by rw[List.length_map];exact him):=by simp only[hh]
   simpa using h1
 ·have:l.map (·.kind)=m.map (·.type_):=List.ext_getElem (by rw[List.length_map,List.length_map];omega) fun j h1 h2=>by
   rw[List.length_map] at h1 h2
   simp only[List.getElem_map]
   exact hin j h1 h2 (by omega)
  rw[show zZ l m=true from decide_eq_true this] at k
  exact k _ _ h
end
end Go.Proofs.YtngbebnhegcokaaGreatDoor

namespace Go.Proofs.YtngbebnhegcokaaGreatDoor
open Go.RowKit
set_option maxRecDepth 100000
theorem Af0:KeyTy Tryz.prog Q0 Int:=KeyTy.int IV
abbrev CfD:=JE
structure IS where
 cfg:CfD
 known:List Kn
 now:Int
 top:Int
 next:Int
 refused:Int
 prods:List Pr
 cnt:Int→Int
structure iK (cnt:Int→Int) (l:List (Ent Int Int)) (c:Nat):Prop where
 wf:WfE l c
 get:∀t,SF t l=if cnt t=0 then none else some (cnt t)
theorem iK.getD{cnt:Int→Int}{l:List (Ent Int Int)}{c:Nat}(h:iK cnt l c)(t:Int):(SF t l).getD 0=cnt t:=by
 rw[h.get]
 split
 ·rename_i h;exact h.symm
 ·rfl
structure uF (c:CfD):Prop where
 late:0≤c.late∧c.late≤10000
 delay:0≤c.delay∧c.delay≤c.late
 ahead:0≤c.ahead∧c.ahead≤10000
 rate:1≤c.rate∧c.rate≤20
structure RN (s:IS):Prop where
 cfg:uF s.cfg
 prods:DC s.prods
 now:0≤s.now∧s.now≤1099511627776
 top : -1≤s.top∧s.top≤1099511627776
 next:0≤s.next∧s.next≤1000000000
 refused:0≤s.refused∧s.refused≤1000000000
 cnt:∀t,0≤s.cnt t∧s.cnt t≤s.cfg.rate
def O9(s:IS):Int:=max (-1) (s.top-s.cfg.late-1)
def ob0(s:IS)(t:Int):IS:={ s with top:=max s.top t,cnt:=fun x=>if x≤O9 { s with top:=max s.top t } then 0 else s.cnt x }
def YE(t:Int):Prop:=0≤t∧t≤1099511627776
instance (t:Int):Decidable (YE t):=by unfold YE;infer_instance
def BX(s:IS)(e:EnD)(r:List OD):Int×Int :=
 if(nO s.prods e.producer e.epoch e.seq).2≠0 then nO s.prods e.producer e.epoch e.seq else if ¬YE e.time then(0,3) else if VX s.known e.source e.schema r≠0 then(0,VX s.known e.source e.schema r)
 else if e.time≤O9 s then(0,20) else if s.now+s.cfg.ahead<e.time then(0,21) else if s.cfg.rate≤s.cnt e.time then(0,22) else(s.next,0)
abbrev ics(s:IS)(kv pv:SV)(m:Nat):Array Value:=#[.int .i64 s.cfg.parts,.int .i64 s.cfg.delay,.int .i64 s.cfg.late,.int .i64 s.cfg.ahead,.int .i64 s.cfg.rate,.int .i64 s.cfg.span,kv.1,.int .i64 s.now,.int .i64 s.top,.int .i64 s.next,.int .i64 s.refused,pv.1,oO m]
abbrev IX:=(SV×SV)×(Nat×List (Ent Int Int)×Nat)
abbrev gq0(p:Nat)(s:IS)(x:IX):List Dat:=[O1 p O3 (ics s x.1.1 x.1.2 x.2.1),W9 x.2.1 x.2.2.1 x.2.2.2,JA x.1.1.1 s.known,GJ x.1.2.1 s.prods]
def intD(p:Nat)(s:IS):Dat:=Dat.ex fun x:IX=>(Dat.pure (iK s.cnt x.2.2.1 x.2.2.2)).and (yU (gq0 p s x))
section
variable {B:Base} {w:World} {p:Nat} {s:IS}
theorem intD.open_(h:Rel B w [intD p s]):∃kv pv m l c,iK s.cnt l c∧Rel B w [O1 p O3 (ics s kv pv m),W9 m l c,JA kv.1 s.known,GJ pv.1 s.prods]:=by
 obtain⟨x,h⟩:=h.ex (i:=0) rfl
 obtain⟨h1,h⟩:=h.VS (i:=0) rfl
 have h:=Rel.kX (σ:=[]) (L:=gq0 p s x) h
 exact⟨_,_,_,_,_,h1,h⟩
theorem intD.close{kv pv:SV}{m c:Nat}{l:List (Ent Int Int)}(hc:iK s.cnt l c)(h:Rel B w [O1 p O3 (ics s kv pv m),W9 m l c,JA kv.1 s.known,GJ pv.1 s.prods]):Rel B w [intD p s]:=by
 have h:=Rel.kR (σ:=[]) h
 exact h.imp (i:=0) (e:=intD p s) rfl fun B hB=>⟨((kv,pv),(m,l,c)),hc,hB⟩
theorem intD.jP(h:intD p s B):∃kv pv m l c,iK s.cnt l c∧O1 p O3 (ics s kv pv m) B∧W9 m l c B∧JA kv.1 s.known B∧GJ pv.1 s.prods B:=by
 obtain⟨x,h1,h3⟩:=h
 exact⟨_,_,_,_,_,h1,Dat.star.left h3,Dat.star.left (Dat.star.right h3),Dat.star.left (Dat.star.right (Dat.star.right h3)),Dat.star.left (Dat.star.right (Dat.star.right (Dat.star.right h3)))⟩
abbrev lb0(p:Nat):Value := .pointer (some ⟨p,0,none⟩)
theorem ZW{kv pv:SV}{m:Nat}(hc:O1 p O3 (ics s kv pv m) B)(hg:uF s.cfg)(ht : -1≤s.top∧s.top≤1099511627776):Gives Tryz.prog B (Z0 AA #[lb0 p]) (.int .i64 (O9 s)):=by
 refine Gives.intro fun B' w K base h k=>?_
 replace hc:=base hc
 refine BG.up ?_
 unfold BG.pt
 have h:=h.tick
 have h1:=hg.late
 simp -zeta only[J5,U0 wG,U0 bO,U0 ZR,Nat.zero_add,O1.ld (h.L6 hc) Y2 (o:=8) rfl,O1.ld (h.L6 hc) Y2 (o:=2) rfl,TB,II]
 rw[E5 (n:=s.top-s.cfg.late) (by omega) (by omega),E5 (by omega) (by omega)]
 exact k _ _ h
theorem av0(hI:intD p s B)(hg:RN s):Gives Tryz.prog B (Z0 AA #[lb0 p]) (.int .i64 (O9 s)):=by
 obtain⟨kv,pv,m,l,c,_,hc,_⟩:=intD.jP hI
 exact ZW hc hg.cfg hg.top
theorem xZ(t:Int):Gives Tryz.prog B (Z0 gG #[.int .i64 t]) (.bool (decide (YE t))):=by
 refine Gives.intro fun B' w K base h k=>?_
 refine yP.up ?_
 unfold yP.pt
 refine h.ask (v := .bool (decide (YE t))) (fun B2 own base2=>?_) fun w1 h=>k _ _ h
 refine Gives.intro fun B3 w K base3 h k=>?_
 refine lI.up ?_
 unfold lI.pt
 simp -zeta only[FC,WC,K3]
 refine⟨fun c=>?_,fun c=>?_⟩
 ·have e:decide (YE t)=decide (t≤1099511627776):=decide_eq_decide.2 ⟨fun hh=>hh.2,fun hh=>⟨c,hh⟩⟩
  rw[e] at k
  exact k _ _ h
 ·rw[decide_eq_false (fun hh:YE t=>c hh.1)] at k
  exact k _ _ h
theorem ZB0{kv pv:SV}{m:Nat}(hc:O1 p O3 (ics s kv pv m) B)(hkn:JA kv.1 s.known B){en:EnD}{r:List OD}(hr:O4 en.row.1 r B)(hrl:r.length≤4611686018427387904)(hkl:s.known.length≤4611686018427387904) :
  Gives Tryz.prog B (Z0 nK #[lb0 p,en.v]) (.int .i64 (VX s.known en.source en.schema r)):=by
 refine Gives.intro fun B' w K base h k=>?_
 replace hc:=base hc
 replace hr:=base hr
 obtain⟨L,hL,rk,rc⟩:=base hkn
 have hal:(DL L).length=L.length:=List.length_map ..
 have hll:L.length≤4611686018427387904:=by rw[←hL,List.length_map] at hkl;exact hkl
 refine SI.up ?_
 unfold SI.pt
 refine h.box fun o w1 h=>?_
 have h:Rel B' w1 [O1 o U1 en.cs.toArray]:=h
 simp -zeta only[J5,U0 cO,Nat.zero_add,O1.ld (h.L6 hc) mI (o:=6) rfl,TI]
 refine h.ask (fun B2 own base2=>fK (base2 rk) (by omega) (fun x=>decide (x.source=en.source)&&decide (x.schema=en.schema)) fun B3 base3 x _=>VB0 (base3 (own (i:=0) rfl)) x) fun w2 h=>?_
 have h:=h
 have ht:=h.tick
 unfold VX at k
 rcases Gi0 (fun x:KnD=>decide (x.source=en.source)&&decide (x.schema=en.schema)) (DL L) with⟨hi,hno⟩ | ⟨i,hi,hil,hat,hno⟩
 ·rw[hi,G6,decide_eq_true (by decide),lC]
  have hf:s.known.find? (nq0 en.source en.schema)=none:=by
   rw[List.find?_eq_none,←hL]
   intro x hx
   obtain⟨y,hy,rfl⟩:=List.mem_map.1 hx
   have:=hno (y.1.raw y.2) (List.mem_map_of_mem hy)
   simpa [nq0] using this
  rw[hf] at k
  exact k _ _ h
 ·rw[hi,G6,decide_eq_false (by omega),d_]
  have hil':i<L.length:=by omega
  have hel:(DL L)[i]=L[i].1.raw L[i].2:=by simp [DL]
  have hf:s.known.find? (nq0 en.source en.schema)=some L[i].1:=by
   rw[←hL,List.find?_eq_some_iff_getElem]
   rw[hel] at hat
   refine⟨hat,i,by rw[List.length_map];exact hil',by simp,fun j hj=>?_⟩
   have:=hno ((DL L)[j]'(by omega)) (List.mem_take_iff_getElem.2 ⟨j,by omega,rfl⟩)
   have hel2:(DL L)[j]'(by omega)=(L[j]'(by omega)).1.raw (L[j]'(by omega)).2:=by simp [DL]
   rw[hel2] at this
   have this:nq0 en.source en.schema (L[j]'(by omega)).1=false:=this
   simp [this]
  rw[hf] at k
  obtain⟨g,oo,hx,hcc⟩:=O4.idx rk ND (P:=Tryz.prog) (i:=i) hil
  rw[hel] at hcc
  have hcc:K6 g oo (L[i].1.raw L[i].2).cs B':=hcc
  have hcol:O4 L[i].2.1 L[i].1.cols B':=rc L[i] (List.getElem_mem hil')
  simp -zeta only[U0 aF,Nat.zero_add,ht.ld 0 rfl H7 (o:=7) rfl,O1.ld (ht.L6 hc) mI (o:=6) rfl,hx,U0 MX,K6.ld (ht.L6 hcc) lV (j:=2) rfl]
  refine ht.ask (fun B2 own base2=>Bk0 (base2 hr) (base2 hcol) hrl) fun w3 h=>?_
  simp only at k
  rw[V7,G5,R5]
  refine⟨fun c1=>?_,fun c1=>?_⟩
  ·simp -zeta only[h.ld 0 rfl H7 (o:=7) rfl]
   refine h.ask (fun B2 own base2=>Yq0 (base2 hr) hrl) fun w4 h=>?_
   rw[V7,G5,R5]
   refine⟨fun c2=>?_,fun c2=>?_⟩
   ·rw[if_pos ⟨c1,c2⟩] at k;exact k _ _ h
   ·rw[if_neg (fun hh=>by rw[c2] at hh;cases hh.2)] at k;exact k _ _ h
  ·rw[if_neg (fun hh=>by rw[c1] at hh;cases hh.1)] at k;exact k _ _ h
theorem LF0(hI:intD p s B)(hg:RN s){en:EnD}{r:List OD}(hr:O4 en.row.1 r B)(hrl:r.length≤4611686018427387904)(hkl:s.known.length≤4611686018427387904) :
  Gives Tryz.prog B (Z0 JL #[lb0 p,en.v]) (.tuple #[.int .i64 (BX s en r).1,.int .i64 (BX s en r).2]):=by
 refine Gives.intro fun B' w K base h k=>?_
 obtain⟨kv,pv,m,l,c,hk,hc,hm,hkn,L,hL,rt,qt⟩:=intD.jP (base hI)
 replace hr:=base hr
 refine RJ.up ?_
 unfold RJ.pt
 have fin:∀(x:Int×Int) w' τ,BX s en r=x→Rel B' w' τ→K (.tuple #[.int .i64 x.1,.int .i64 x.2]) w':=fun x w' τ e h=>by rw[e] at k;exact k _ _ h
 clear k
 unfold BX at fin
 have hR:DC (prs L):=by rw[hL];exact hg.prods
 refine h.box fun o w1 h=>?_
 have h:Rel B' w1 [O1 o U1 en.cs.toArray]:=h
 have h:=h.tick
 simp -zeta only[J5,U0 xG,Nat.zero_add,O1.ld (h.L6 hc) g_ (o:=11) rfl,h.r9 0 rfl M8 rfl]
 refine h.ask (fun B2 own base2=>Dw0 (base2 rt) (base2 qt) hR en) fun w2 h=>?_
 rw[hL]
 simp -zeta only[M9,D9,Q7,G5,K3]
 refine⟨fun c0=>?_,fun c0=>fin _ _ _ (by rw[if_pos c0]) h⟩
 simp -zeta only[U0 UG,Nat.zero_add,h.ld 0 rfl Y2 (o:=6) rfl]
 refine h.ask (fun B2 own base2=>xZ en.time) fun w3 h=>?_
 rw[V7,G5,K3]
 refine⟨fun c1=>?_,fun c1=>fin (0,3) _ _ (by rw[if_neg (fun hh=>hh c0),if_pos c1]) h⟩
 rw[h.r9 0 rfl M8 rfl]
 refine h.ask (fun B2 own base2=>ZB0 (base2 hc) (base2 hkn) (base2 hr) hrl hkl) fun w4 h=>?_
 rw[Q7,G5,K3]
 refine⟨fun c2=>?_,fun c2=>fin (0,VX s.known en.source en.schema r) _ _ (by rw[if_neg (fun hh=>hh c0),if_neg (fun hh=>hh c1),if_pos c2]) h⟩
 have h:=h.tick
 simp -zeta only[h.ld 0 rfl Y2 (o:=6) rfl]
 refine h.ask (fun B2 own base2=>ZW (base2 hc) hg.cfg hg.top) fun w5 h=>?_
 refine⟨h.is 0 rfl Y2 (o:=6) rfl,?_⟩
 rw[WC,K3]
 refine⟨fun c3=>fin (0,20) _ _ (by rw[if_neg (fun hh=>hh c0),if_neg (fun hh=>hh c1),if_neg (fun hh=>hh c2),if_pos c3]) h,fun c3=>?_⟩
 have h:=h.tick
 have hn:=hg.now
 have ha:=hg.cfg.ahead
 have hw:IntKind.i64.wrap (s.now+s.cfg.ahead)=s.now+s.cfg.ahead:=E5 (by omega) (by omega)
 simp -zeta only[h.ld 0 rfl Y2 (o:=6) rfl,J5,U0 vG,U0 bO,U0 aS,Nat.zero_add,O1.ld (h.L6 hc) Y2 (o:=7) rfl,O1.ld (h.L6 hc) Y2 (o:=3) rfl,Z5,hw,x9,K3]
 refine⟨fun c4=>fin (0,21) _ _ (by rw[if_neg (fun hh=>hh c0),if_neg (fun hh=>hh c1),if_neg (fun hh=>hh c2),if_neg c3,if_pos c4]) h,fun c4=>?_⟩
 have h:=h.tick
 simp -zeta only[h.ld 0 rfl Y2 (o:=6) rfl,U0 XD,U0 NJ,U0 bS,Nat.zero_add,O1.ld (h.L6 hc) o_ (o:=12) rfl,O1.ld (h.L6 hc) Y2 (o:=4) rfl,O1.ld (h.L6 hc) Y2 (o:=9) rfl]
 rw[W9.look (h.L6 hm) xC Af0 0 Lj0 en.time,hk.getD,show (Enc.val (s.cnt en.time):Value) = .int .i64 (s.cnt en.time) from rfl,FC,K3]
 refine⟨fun c5=>fin (0,22) _ _ (by rw[if_neg (fun hh=>hh c0),if_neg (fun hh=>hh c1),if_neg (fun hh=>hh c2),if_neg c3,if_neg c4,if_pos c5]) h,fun c5=>?_⟩
 exact fin (s.next,0) _ _ (by rw[if_neg (fun hh=>hh c0),if_neg (fun hh=>hh c1),if_neg (fun hh=>hh c2),if_neg c3,if_neg c4,if_neg c5]) h
theorem ru0{m c:Nat}{l:List (Ent Int Int)}(hw:WfE l c){fv:Value}(q:Int→Bool)(hf:∀B':Base,(∀{d:Dat},d B→d B')→∀e∈l,Gives Tryz.prog B' (dA fv #[Enc.val e.1,Enc.val e.2.1]) (.bool (q e.1))) :
  Does Tryz.prog B (W9 m l c) (Z0 xB #[oO m,fv]) fun v e' τ=>v = .tuple #[]∧e'=W9 m (l.filter fun e=>!q e.1) c∧τ=[]:=by
 refine Does.intro fun B' w K base h k=>?_
 refine rA.up ?_
 unfold rA.pt
 refine h.range 0 rfl xC fun it w1 h=>?_
 have e0:(l.filter fun e=>!((#[]:Array Nat).contains e.2.2&&q e.1))=l:=List.filter_eq_self.2 fun e _=>by simp
 refine F6 (fun _ w'=>∃seen:Array Nat,Rel B' w' [W9 m (l.filter fun e=>!(seen.contains e.2.2&&q e.1)) c,nW it m c seen c]) (fun _ w'=>dJ l (iN w' it)) ⟨#[],by rw[e0];exact h⟩ ?_
 clear h
 rintro x w2 ⟨seen,h⟩ next hnext
 have hms:=xN h (j:=1) rfl
 have hwf:=hw.filter fun e=>!(seen.contains e.2.2&&q e.1)
 refine h.next 0 1 it rfl rfl hwf.below (fun w3 hall h=>?_) (fun e w3 he hns h=>?_)
 ·rw[show (U5 (.tuple #[.bool false]) 0)=(U5 (.tuple #[.bool false]) 0) from rfl,F5 (v := .bool false) (fun w=>rfl),d_]
  have e1:(l.filter fun e=>!(seen.contains e.2.2&&q e.1))=l.filter fun e=>!q e.1:=by
   refine List.filter_congr fun e he=>?_
   cases hb:!(seen.contains e.2.2&&q e.1) with
   | true =>
    have:=hall e (List.mem_filter.2 ⟨he,hb⟩)
    rw[this] at hb
    simpa using hb.symm
   | false =>
    simp at hb
    rw[hb.2];rfl
  rw[e1] at h
  exact k _ _ [] _ ⟨rfl,rfl,rfl⟩ (h.take 1)
 ·have hel:e∈l:=(List.mem_filter.1 he).1
  rw[UU,lC]
  refine h.entry 0 1 it rfl rfl he hwf.stamps fun w4 h=>?_
  rw[M9,D9]
  refine h.ask (fun B2 own base2=>hf B2 (fun hd=>base2 (base hd)) e hel) fun w6 h=>?_
  have step:∀x∈l,x≠e→(seen.push e.2.2).contains x.2.2=seen.contains x.2.2:=fun x hx hne=>by
   rw[contains_push,decide_eq_false fun hh=>hne (hw.UV hx hel hh),Bool.or_false]
  have hself:(seen.push e.2.2).contains e.2.2=true:=by simp [contains_push]
  rw[R5]
  refine⟨fun hp=>?_,fun hp=>?_⟩
  ·refine h.delete 0 rfl xC Af0 e.1 fun w7 h=>?_
   have e2:Ap0 e.1 (l.filter fun e=>!(seen.contains e.2.2&&q e.1))=l.filter fun x=>!((seen.push e.2.2).contains x.2.2&&q x.1):=by
    rw[Wr0 hwf.keys,List.filter_filter]
    refine List.filter_congr fun x hx=>?_
    by_cases hxe:x=e
    ·subst hxe;rw[hself,hp];simp
    ·rw[step x hx hxe,decide_eq_true (p:=x.1≠e.1) (fun hh=>hxe (hw.yi0 hx hel hh)),Bool.true_and]
   rw[e2] at h
   refine hnext _ _ ⟨_,h⟩ ?_
   show dJ l (iN w7 it)<dJ l (iN w2 it)
   rw[hms,xN h (j:=1) rfl]
   exact eQ hel hns
  ·have e2:(l.filter fun e=>!(seen.contains e.2.2&&q e.1))=l.filter fun x=>!((seen.push e.2.2).contains x.2.2&&q x.1):=by
    refine List.filter_congr fun x hx=>?_
    by_cases hxe:x=e
    ·subst hxe;rw[hself,hp];simp
    ·rw[step x hx hxe]
   rw[e2] at h
   refine hnext _ _ ⟨_,h⟩ ?_
   show dJ l (iN w6 it)<dJ l (iN w2 it)
   rw[hms,xN h (j:=1) rfl]
   exact eQ hel hns
theorem Ez0{b:Nat}{c t n:Int}(hc:O1 b Q0 #[.int .i64 c] B):Gives Tryz.prog B (dA (.func (.func bC) #[] #[.pointer (some ⟨b,0,none⟩)]) #[.int .i64 t,.int .i64 n]) (.bool (decide (t≤c))):=by
 refine Gives.intro fun B' w K base h k=>?_
 replace hc:=base hc
 refine YH ?_
 refine r_.up (time0 := .int .i64 t) (t1 := .int .i64 n) (t2 := .pointer (some ⟨b,0,none⟩)) (r_.call ?_)
 unfold r_.pt
 simp -zeta only[O1.ld (h.L6 hc) Y2 (o:=0) rfl,WC]
 exact k _ _ h
theorem iK.raise{cnt:Int→Int}{l:List (Ent Int Int)}{c:Nat}(h:iK cnt l c)(z:Int):iK (fun x=>if x≤z then 0 else cnt x) (l.filter fun e=>!decide (e.1≤z)) c:=by
 refine⟨h.wf.filter _,fun t=>?_⟩
 rw[df0 h.wf (fun x=>!decide (x≤z)) t,h.get]
 by_cases ht:t≤z
 ·simp [ht]
 ·simp [ht]
theorem ct0{kv pv:SV}{m c:Nat}{l:List (Ent Int Int)}{K:Value→World→Prop}{D1 D2:Dat}(hc:iK s.cnt l c)(hg:uF s.cfg)(ht0 : -1≤s.top∧s.top≤1099511627776){t:Int}(ht:YE t)
  (h:Rel B w [O1 p O3 (ics s kv pv m),W9 m l c,D1,D2])
  (k:∀w' l',iK (ob0 s t).cnt l' c→Rel B w' [O1 p O3 (ics (ob0 s t) kv pv m),W9 m l' c,D1,D2]→K (.tuple #[]) w'):upK Tryz.prog (Z0 KF #[lb0 p,.int .i64 t]) w K:=by
 obtain⟨ht1,ht2⟩:=ht
 refine vH.up ?_
 unfold vH.pt
 simp -zeta only[J5,U0 wG,Nat.zero_add,h.ld 0 rfl Y2 (o:=8) rfl,II]
 refine h.st 0 rfl Y2 (show 8<13 by omega) rfl fun w1 h=>?_
 have h:Rel B w1 [O1 p O3 (ics { s with top:=max s.top t } kv pv m),W9 m l c,D1,D2]:=h
 refine h.ask (fun B2 own base2=>ZW (s:={ s with top:=max s.top t }) (own (i:=0) rfl) hg (by show -1≤max s.top t∧max s.top t≤1099511627776;omega)) fun w2 h=>?_
 refine h.alloc Lj0 fun b w3 h=>?_
 refine h.st 4 rfl Y2 (show 0<1 by omega) rfl fun w4 h=>?_
 have h:Rel B w4 [O1 p O3 (ics { s with top:=max s.top t } kv pv m),W9 m l c,D1,D2,O1 b Q0 #[.int .i64 (O9 { s with top:=max s.top t })]]:=h
 simp -zeta only[U0 XD,Nat.zero_add,h.ld 0 rfl o_ (o:=12) rfl,TI]
 refine h.act 1 rfl (fun B2 own base2=>ru0 hc.wf (fun x=>decide (x≤O9 { s with top:=max s.top t })) fun B3 base3 e _=>Ez0 (base3 (own (j:=4) (by decide) rfl))) fun v e' τ w5 hp h=>?_
 obtain⟨rfl,rfl,rfl⟩:=hp
 exact k _ _ (hc.raise _) ((h.take 4))
end
end Go.Proofs.YtngbebnhegcokaaGreatDoor

namespace Go.Proofs.YtngbebnhegcokaaGreatDoor
open Go.RowKit
set_option maxRecDepth 100000
def ES(s:IS)(e:EnD)(r:List OD):(Int×Int)×IS :=
 let x:=BX s e r
 if x.2≠0 then(x,if x.2≠5 then { s with refused:=s.refused+1 } else s)
 else(x,ob0 { s with prods:=AY s.prods e.producer e.epoch e.seq x.1,next:=s.next+1,cnt:=fun t=>if t=e.time then s.cnt e.time+1 else s.cnt t } e.time)
def GD(s:IS)(e:EnD)(r:List OD):(Int×Int)×IS :=
 if e.kind=0 then ES s e r
 else if e.kind=1 then(((FJ s.prods e.producer).2.1,(FJ s.prods e.producer).2.2),if(FJ s.prods e.producer).2.2=0 then { s with prods:=(FJ s.prods e.producer).1 } else s)
 else if e.kind=2∨e.kind=3 then
  if ¬YE e.time then((0,3),s) else if e.kind=3 then((0,0),{ s with now:=max s.now e.time }) else if s.now+s.cfg.ahead<e.time then((0,21),s) else((0,0),ob0 s e.time)
 else((0,1),s)
theorem Vd0{s:IS}{e:EnD}{r:List OD}(h:(BX s e r).2=0):(nO s.prods e.producer e.epoch e.seq).2=0∧YE e.time∧VX s.known e.source e.schema r=0∧O9 s<e.time∧e.time≤s.now+s.cfg.ahead∧s.cnt e.time<s.cfg.rate∧(BX s e r).1=s.next:=by
 unfold BX at h ⊢
 by_cases c0:(nO s.prods e.producer e.epoch e.seq).2≠0
 ·rw[if_pos c0] at h;exact absurd h c0
 rw[if_neg c0] at h ⊢
 by_cases c1:¬YE e.time
 ·rw[if_pos c1] at h;cases h
 rw[if_neg c1] at h ⊢
 by_cases c2:VX s.known e.source e.schema r≠0
 ·rw[if_pos c2] at h;exact absurd h c2
 rw[if_neg c2] at h ⊢
 by_cases c3:e.time≤O9 s
 ·rw[if_pos c3] at h;cases h
 rw[if_neg c3] at h ⊢
 by_cases c4:s.now+s.cfg.ahead<e.time
 ·rw[if_pos c4] at h;cases h
 rw[if_neg c4] at h ⊢
 by_cases c5:s.cfg.rate≤s.cnt e.time
 ·rw[if_pos c5] at h;cases h
 rw[if_neg c5]
 exact⟨Decidable.of_not_not c0,Decidable.of_not_not c1,Decidable.of_not_not c2,by omega,by omega,by omega,rfl⟩
theorem mg0{s:IS}{t:Int}(h:RN s)(ht:YE t):RN (ob0 s t):=by
 obtain⟨h1,h2⟩:=ht
 have h3:=h.top
 refine⟨h.cfg,h.prods,h.now,⟨by show -1≤max s.top t;omega,by show max s.top t≤_;omega⟩,h.next,h.refused,fun x=>?_⟩
 show 0≤(if _ then(0:Int) else _)∧(if _ then(0:Int) else _)≤_
 have:=h.cfg.rate
 split
 ·exact⟨Int.le_refl 0,by show (0:Int)≤s.cfg.rate;omega⟩
 ·exact h.cnt x
theorem lY{s:IS}(h:RN s)(e:EnD)(r:List OD)(h1:s.next<1000000000)(h2:s.refused<1000000000) :
  RN (GD s e r).2∧(GD s e r).2.cfg=s.cfg∧(GD s e r).2.known=s.known∧(GD s e r).2.next≤s.next+1∧(GD s e r).2.refused≤s.refused+1:=by
 unfold GD
 have hn:=h.next
 have hf:=h.refused
 have keep:RN s∧s.cfg=s.cfg∧s.known=s.known∧s.next≤s.next+1∧s.refused≤s.refused+1:=⟨h,rfl,rfl,by omega,by omega⟩
 by_cases c0:e.kind=0
 ·rw[if_pos c0]
  unfold ES
  simp only
  by_cases c:(BX s e r).2≠0
  ·rw[if_pos c]
   simp only
   split
   ·exact⟨⟨h.cfg,h.prods,h.now,h.top,h.next,⟨by show 0≤s.refused+1;omega,by show s.refused+1≤_;omega⟩,h.cnt⟩,rfl,rfl,by show s.next≤_;omega,Int.le_refl _⟩
   ·exact keep
  ·rw[if_neg c]
   obtain⟨p1,p2,p3,p4,p5,p6,p7⟩:=Vd0 (Decidable.of_not_not c)
   refine⟨mg0 ⟨h.cfg,Iv0 h.prods _ _ _ _,h.now,h.top,⟨by show 0≤s.next+1;omega,by show s.next+1≤_;omega⟩,h.refused,fun t=>?_⟩ p2,rfl,rfl,Int.le_refl _,by show s.refused≤_;omega⟩
   show 0≤(if t=e.time then s.cnt e.time+1 else s.cnt t)∧(if t=e.time then s.cnt e.time+1 else s.cnt t)≤s.cfg.rate
   have:=h.cnt e.time
   split
   ·omega
   ·exact h.cnt t
 rw[if_neg c0]
 by_cases c1:e.kind=1
 ·rw[if_pos c1]
  simp only
  split
  ·rename_i hz
   exact⟨⟨h.cfg,on0 h.prods hz,h.now,h.top,h.next,h.refused,h.cnt⟩,rfl,rfl,by show s.next≤_;omega,by show s.refused≤_;omega⟩
  ·exact keep
 rw[if_neg c1]
 split
 ·split
  ·exact keep
  ·rename_i ht
   have ht:=Decidable.of_not_not ht
   have h3:=h.now
   split
   ·exact⟨⟨h.cfg,h.prods,⟨by show 0≤max s.now e.time;omega,by show max s.now e.time≤_;have:=ht.2;omega⟩,h.top,h.next,h.refused,h.cnt⟩,rfl,rfl,by show s.next≤_;omega,by show s.refused≤_;omega⟩
   ·split
    ·exact keep
    ·exact⟨mg0 h ht,rfl,rfl,by show s.next≤_;omega,by show s.refused≤_;omega⟩
 ·exact keep
section
variable {B:Base} {w:World} {p:Nat} {s:IS} {σ:List Dat}
theorem intD.nS(h:Rel B w (σ++[intD p s])):∃kv pv m l c,iK s.cnt l c∧Rel B w (σ++[O1 p O3 (ics s kv pv m),W9 m l c,JA kv.1 s.known,GJ pv.1 s.prods]):=by
 obtain⟨x,h⟩:=h.ex (i:=σ.length) kI
 rw[List.set_append_right _ _ (Nat.le_refl _),Nat.sub_self,List.set_cons_zero] at h
 obtain⟨h1,h⟩:=h.VS (i:=σ.length) kI
 rw[List.set_append_right _ _ (Nat.le_refl _),Nat.sub_self,List.set_cons_zero] at h
 have h:=Rel.kX (L:=gq0 p s x) h
 exact⟨_,_,_,_,_,h1,h⟩
theorem intD.RL{kv pv:SV}{m c:Nat}{l:List (Ent Int Int)}(hc:iK s.cnt l c)(h:Rel B w (σ++[O1 p O3 (ics s kv pv m),W9 m l c,JA kv.1 s.known,GJ pv.1 s.prods])):Rel B w (σ++[intD p s]):=by
 have h:=Rel.kR h
 have h:=h.imp (i:=σ.length) (e:=intD p s) kI fun B hB=>⟨((kv,pv),(m,l,c)),hc,hB⟩
 rw[List.set_append_right _ _ (Nat.le_refl _),Nat.sub_self,List.set_cons_zero] at h
 exact h
theorem iK.fH0{cnt:Int→Int}{l:List (Ent Int Int)}{c:Nat}(h:iK cnt l c)(h0:∀t,0≤cnt t)(t:Int):iK (fun x=>if x=t then cnt t+1 else cnt x) (WL t (cnt t+1) l c).1 (WL t (cnt t+1) l c).2:=by
 refine⟨h.wf.set _ _,fun x=>?_⟩
 rw[xU h.wf.keys]
 by_cases hx:x=t
 ·subst hx
  have:=h0 x
  rw[if_pos rfl,if_pos rfl,if_neg (by omega)]
 ·rw[if_neg hx,if_neg hx,h.get]
def fE0(p:Nat)(x:(Int×Int)×IS):Value→Dat→List Dat→Prop:=fun v e' τ=>v = .tuple #[.int .i64 x.1.1,.int .i64 x.1.2]∧e'=intD p x.2∧τ=[]
theorem GJ.oneCell{u:Value}{t:List Pr}(h:GJ u t B):u.oneCell'=true:=by
 obtain⟨L,_,r,_⟩:=h
 exact O4.oneCell r
set_option maxHeartbeats 1000000 in
theorem Ow0(hg:RN s)(h1:s.next<1000000000)(h2:s.refused<1000000000){en:EnD}{r:List OD}(hr:O4 en.row.1 r B)(hrl:r.length≤4611686018427387904)(hkl:s.known.length≤4611686018427387904) :
  Does Tryz.prog B (intD p s) (Z0 yI #[lb0 p,en.v]) (fE0 p (ES s en r)):=by
 refine Does.intro fun B' w K base h k=>?_
 replace hr:=base hr
 refine CG.up ?_
 unfold CG.pt
 have fin:∀(x:(Int×Int)×IS) w' τ,ES s en r=x→Rel B' w' ([intD p x.2]++τ)→K (.tuple #[.int .i64 x.1.1,.int .i64 x.1.2]) w':=fun x w' τ e h=>k _ _ [] w' ⟨by rw[e],by rw[e],rfl⟩ h.drop
 clear k
 unfold ES at fin
 simp only at fin
 refine h.box fun o w1 h=>?_
 have h:Rel B' w1 [intD p s,O1 o U1 en.cs.toArray]:=h
 rw[h.r9 1 rfl M8 rfl]
 refine h.ask (fun B2 own base2=>LF0 (own (i:=0) rfl) hg (base2 hr) hrl hkl) fun w2 h=>?_
 simp -zeta only[M9,D9,Q7,G5,K3]
 have hn:=hg.next
 have hf:=hg.refused
 refine⟨fun c=>?_,fun c=>?_⟩
 ·rw[if_neg (fun hh=>hh c)] at fin
  obtain⟨p1,p2,p3,p4,p5,p6,p7⟩:=Vd0 c
  have h:=h.tick
  have h:=h.pick [1,0] (by decide)
  have h:Rel B' (tick w2) ([O1 o U1 en.cs.toArray]++[intD p s]):=h
  obtain⟨kv,pv,m,l,cc,hk,h⟩:=intD.nS h
  have h:Rel B' (tick w2) [O1 o U1 en.cs.toArray,O1 p O3 (ics s kv pv m),W9 m l cc,JA kv.1 s.known,GJ pv.1 s.prods]:=h
  simp -zeta only[J5,U0 xG,Nat.zero_add,h.ld 1 rfl g_ (o:=11) rfl,h.r9 0 rfl M8 rfl]
  refine h.make (post:=fun u τ=>rT u (AY s.prods en.producer en.epoch en.seq (BX s en r).1) τ) (fun B2 own base2=>?_) fun u τ w5 hp h=>?_
  ·obtain⟨L,hL,rt,qt⟩:GJ pv.1 s.prods B2:=own (i:=4) rfl
   have:=rG0 rt qt (by rw[hL];exact hg.prods) en (BX s en r).1
   rw[hL] at this
   exact this
  have h:=hp _ _ _ h
  generalize BX s en r=x at *
  have h:Rel B' w5 [O1 o U1 en.cs.toArray,O1 p O3 (ics s kv pv m),W9 m l cc,JA kv.1 s.known,GJ pv.1 s.prods,GJ u (AY s.prods en.producer en.epoch en.seq x.1)]:=h
  have hu:u.oneCell'=true:=GJ.oneCell (h.here (i:=5) rfl)
  refine h.st 1 rfl g_ (show 11<13 by omega) hu fun w6 h=>?_
  have h:=h.pick [0,1,2,3,5] (by decide)
  have h:Rel B' w6 [O1 o U1 en.cs.toArray,O1 p O3 (ics { s with prods:=AY s.prods en.producer en.epoch en.seq x.1 } kv ⟨u,hu⟩ m),W9 m l cc,JA kv.1 s.known,GJ u (AY s.prods en.producer en.epoch en.seq x.1)]:=h
  simp -zeta only[U0 NJ,Nat.zero_add,h.ld 1 rfl Y2 (o:=9) rfl,Z5]
  rw[E5 (n:=s.next+1) (by omega) (by omega)]
  refine h.st 1 rfl Y2 (show 9<13 by omega) rfl fun w7 h=>?_
  have h:Rel B' w7 [O1 o U1 en.cs.toArray,O1 p O3 (ics { s with prods:=AY s.prods en.producer en.epoch en.seq x.1,next:=s.next+1 } kv ⟨u,hu⟩ m),W9 m l cc,JA kv.1 s.known,GJ u (AY s.prods en.producer en.epoch en.seq x.1)]:=h
  have h:=h.tick
  simp -zeta only[U0 XD,U0 UG,Nat.zero_add,h.ld 1 rfl o_ (o:=12) rfl,h.ld 0 rfl Y2 (o:=6) rfl]
  have hcn:=hg.cnt en.time
  have hrt:=hg.cfg.rate
  rw[h.lookup 2 rfl xC Af0 0 Lj0 en.time,hk.getD,show (Enc.val (s.cnt en.time):Value) = .int .i64 (s.cnt en.time) from rfl,Z5,E5 (by omega) (by omega)]
  refine h.Of0 2 rfl xC Af0 en.time (s.cnt en.time+1) fun w8 h=>?_
  have h:Rel B' w8 [O1 o U1 en.cs.toArray,O1 p O3 (ics { s with prods:=AY s.prods en.producer en.epoch en.seq x.1,next:=s.next+1,cnt:=fun t=>if t=en.time then s.cnt en.time+1 else s.cnt t } kv ⟨u,hu⟩ m),W9 m (WL en.time (s.cnt en.time+1) l cc).1 (WL en.time (s.cnt en.time+1) l cc).2,JA kv.1 s.known,GJ u (AY s.prods en.producer en.epoch en.seq x.1)]:=h
  simp -zeta only[h.ld 0 rfl Y2 (o:=6) rfl]
  have h:=h.pick [1,2,3,4] (by decide)
  refine ct0 (s:={ s with prods:=AY s.prods en.producer en.epoch en.seq x.1,next:=s.next+1,cnt:=fun t=>if t=en.time then s.cnt en.time+1 else s.cnt t }) (hk.fH0 (fun t=>(hg.cnt t).1) en.time) hg.cfg hg.top p2 h fun w9 l' hk' h=>?_
  have h:=intD.RL (σ:=[]) hk' h
  rw[←c]
  exact fin _ _ [] rfl h
 ·rw[if_pos c] at fin
  refine P6 fun J hJ=>?_
  generalize BX s en r=x at *
  refine⟨fun c5=>?_,fun c5=>?_⟩
  ·rw[if_neg (fun hh=>hh c5)] at fin
   exact hJ _ _ (fin _ _ _ rfl h)
  ·rw[if_pos c5] at fin
   have h:=h.pick [1,0] (by decide)
   have h:Rel B' w2 ([O1 o U1 en.cs.toArray]++[intD p s]):=h
   obtain⟨kv,pv,m,l,cc,hk,h⟩:=intD.nS h
   have h:Rel B' w2 [O1 o U1 en.cs.toArray,O1 p O3 (ics s kv pv m),W9 m l cc,JA kv.1 s.known,GJ pv.1 s.prods]:=h
   simp -zeta only[J5,U0 dO,Nat.zero_add,h.ld 1 rfl Y2 (o:=10) rfl,Z5]
   rw[E5 (by omega) (by omega)]
   refine h.st 1 rfl Y2 (show 10<13 by omega) rfl fun w4 h=>?_
   have h:=h.pick [1,2,3,4] (by decide)
   have h:=intD.RL (s:={ s with refused:=s.refused+1 }) (σ:=[]) hk h
   exact hJ _ _ (fin _ _ [] rfl h)
set_option maxHeartbeats 1000000 in
theorem Br0(hg:RN s)(h1:s.next<1000000000)(h2:s.refused<1000000000){en:EnD}{r:List OD}(hr:O4 en.row.1 r B)(hrl:r.length≤4611686018427387904)(hkl:s.known.length≤4611686018427387904) :
  Does Tryz.prog B (intD p s) (Z0 JF #[lb0 p,en.v]) (fE0 p (GD s en r)):=by
 refine Does.intro fun B' w K base h k=>?_
 replace hr:=base hr
 refine tH.up ?_
 unfold tH.pt
 have fin:∀(x:(Int×Int)×IS) w' τ,GD s en r=x→Rel B' w' ([intD p x.2]++τ)→K (.tuple #[.int .i64 x.1.1,.int .i64 x.1.2]) w':=fun x w' τ e h=>k _ _ [] w' ⟨by rw[e],by rw[e],rfl⟩ h.drop
 clear k
 unfold GD at fin
 refine h.box fun o w1 h=>?_
 have h:Rel B' w1 [intD p s,O1 o U1 en.cs.toArray]:=h
 simp -zeta only[U0 yT,Nat.add_zero,h.ld 1 rfl Y2 (o:=0) rfl,F7,K3]
 refine⟨fun c0=>?_,fun c0=>?_⟩
 ·rw[if_pos c0] at fin
  rw[h.r9 1 rfl M8 rfl]
  refine h.act 0 rfl (fun B2 own base2=>Ow0 hg h1 h2 (base2 hr) hrl hkl) fun v e' τ w2 hp h=>?_
  obtain⟨rfl,rfl,rfl⟩:=hp
  simp -zeta only[M9,D9]
  exact fin _ _ _ rfl h
 rw[if_neg c0] at fin
 refine⟨fun c1=>?_,fun c1=>?_⟩
 ·rw[if_pos c1] at fin
  have h:=h.tick
  have h:=h.pick [1,0] (by decide)
  have h:Rel B' (tick w1) ([O1 o U1 en.cs.toArray]++[intD p s]):=h
  obtain⟨kv,pv,m,l,cc,hk,h⟩:=intD.nS h
  have h:Rel B' (tick w1) [O1 o U1 en.cs.toArray,O1 p O3 (ics s kv pv m),W9 m l cc,JA kv.1 s.known,GJ pv.1 s.prods]:=h
  simp -zeta only[J5,U0 xG,U0 jM,Nat.zero_add,h.ld 1 rfl g_ (o:=11) rfl,h.ld 0 rfl Y2 (o:=1) rfl]
  refine h.make (post:=fun u τ=>∃tv,u = .tuple #[tv,.int .i64 (FJ s.prods en.producer).2.1,.int .i64 (FJ s.prods en.producer).2.2]∧rT tv (FJ s.prods en.producer).1 τ) (fun B2 own base2=>?_) fun u τ w3 hp h=>?_
  ·obtain⟨L,hL,rt,qt⟩:GJ pv.1 s.prods B2:=own (i:=4) rfl
   have:=fB0 rt qt (by rw[hL];exact hg.prods) en.producer
   rw[hL] at this
   exact this
  obtain⟨tv,rfl,hp⟩:=hp
  have h:=hp _ _ _ h
  generalize FJ s.prods en.producer=f at *
  have h:Rel B' w3 [O1 o U1 en.cs.toArray,O1 p O3 (ics s kv pv m),W9 m l cc,JA kv.1 s.known,GJ pv.1 s.prods,GJ tv f.1]:=h
  simp -zeta only[UU,Dd0,Ed0]
  refine P6 fun J hJ=>?_
  simp -zeta only[F7,K3]
  refine⟨fun cz=>?_,fun cz=>?_⟩
  ·rw[if_pos cz] at fin
   have hu:tv.oneCell'=true:=GJ.oneCell (h.here (i:=5) rfl)
   refine h.st 1 rfl g_ (show 11<13 by omega) hu fun w5 h=>?_
   have h:=h.pick [1,2,3,5] (by decide)
   have h:=intD.RL (s:={ s with prods:=f.1 }) (pv:=⟨tv,hu⟩) (σ:=[]) hk h
   exact hJ _ _ (fin _ _ [] rfl h)
  ·rw[if_neg cz] at fin
   have h:=h.pick [1,2,3,4] (by decide)
   have h:=intD.RL (σ:=[]) hk h
   exact hJ _ _ (fin _ _ [] rfl h)
 rw[if_neg c1] at fin
 refine P6 fun J hJ=>?_
 replace hJ:(∀b:Bool,b=decide (en.kind=2∨en.kind=3)→J (.bool b,()) w1):=by
  intro b hb
  refine hJ _ _ ?_
  clear hJ
  rw[R5]
  refine⟨fun cb=>?_,fun cb=>?_⟩
  ·have hc:en.kind=2∨en.kind=3:=by rw[cb] at hb;exact of_decide_eq_true hb.symm
   rw[if_pos hc] at fin
   simp -zeta only[U0 UG,Nat.zero_add,h.ld 1 rfl Y2 (o:=6) rfl]
   refine h.ask (fun B2 own base2=>xZ en.time) fun w7 h=>?_
   rw[V7,G5,K3]
   refine⟨fun ct=>?_,fun ct=>?_⟩
   ·rw[if_neg (fun hh=>hh ct)] at fin
    simp -zeta only[h.ld 1 rfl Y2 (o:=0) rfl,F7,K3]
    have ht:=h.tick
    have ht:=ht.pick [1,0] (by decide)
    have ht:Rel B' (tick w7) ([O1 o U1 en.cs.toArray]++[intD p s]):=ht
    obtain⟨kv,pv,m,l,cc,hk,ht⟩:=intD.nS ht
    have ht:Rel B' (tick w7) [O1 o U1 en.cs.toArray,O1 p O3 (ics s kv pv m),W9 m l cc,JA kv.1 s.known,GJ pv.1 s.prods]:=ht
    have hnow:=hg.now
    have hah:=hg.cfg.ahead
    have hw:IntKind.i64.wrap (s.now+s.cfg.ahead)=s.now+s.cfg.ahead:=E5 (by omega) (by omega)
    refine⟨fun c3=>?_,fun c3=>?_⟩
    ·rw[if_pos c3] at fin
     simp -zeta only[J5,U0 vG,Nat.zero_add,ht.ld 1 rfl Y2 (o:=7) rfl,ht.ld 0 rfl Y2 (o:=6) rfl,II]
     refine ht.st 1 rfl Y2 (show 7<13 by omega) rfl fun w8 h=>?_
     have h:=h.pick [1,2,3,4] (by decide)
     have h:=intD.RL (s:={ s with now:=max s.now en.time }) (σ:=[]) hk h
     exact fin ((0,0),_) _ [] rfl h
    ·rw[if_neg c3] at fin
     simp -zeta only[J5,U0 vG,U0 bO,U0 aS,Nat.zero_add,ht.ld 1 rfl Y2 (o:=7) rfl,ht.ld 1 rfl Y2 (o:=3) rfl,ht.ld 0 rfl Y2 (o:=6) rfl,Z5,hw,x9,K3]
     refine⟨fun c4=>?_,fun c4=>?_⟩
     ·rw[if_pos c4] at fin
      have ht:=ht.pick [1,2,3,4] (by decide)
      have ht:=intD.RL (σ:=[]) hk ht
      exact fin ((0,21),_) _ [] rfl ht
     ·rw[if_neg c4] at fin
      have ht:=ht.pick [1,2,3,4] (by decide)
      refine ct0 hk hg.cfg hg.top ct ht fun w9 l' hk' h=>?_
      have h:=intD.RL (σ:=[]) hk' h
      exact fin ((0,0),_) _ [] rfl h
   ·rw[if_pos ct] at fin
    exact fin ((0,3),_) _ _ rfl h
  ·have hc:¬(en.kind=2∨en.kind=3):=by rw[cb] at hb;exact of_decide_eq_false hb.symm
   rw[if_neg hc] at fin
   exact fin ((0,1),_) _ _ rfl h
 refine⟨fun c2=>hJ _ (by rw[decide_eq_true (show en.kind=2∨en.kind=3 from .inl c2),decide_eq_true c2]),fun c2=>?_⟩
 exact hJ _ (decide_eq_decide.2 ⟨fun hh => .inr hh,fun hh=>hh.elim (fun hh=>absurd hh c2) id⟩)
end
end Go.Proofs.YtngbebnhegcokaaGreatDoor

namespace Go.Proofs.YtngbebnhegcokaaGreatDoor
open Go.RowKit
set_option maxRecDepth 100000
theorem uF.iff{c:CfD}:uF c↔(0≤c.late∧c.late≤10000)∧(0≤c.delay∧c.delay≤c.late)∧(0≤c.ahead∧c.ahead≤10000)∧(1≤c.rate∧c.rate≤20):=⟨fun h=>⟨h.late,h.delay,h.ahead,h.rate⟩,fun h=>⟨h.1,h.2.1,h.2.2.1,h.2.2.2⟩⟩
instance (c:CfD):Decidable (uF c):=decidable_of_iff _ uF.iff.symm
def qG0(d:Dat)(τ:List Dat):Prop:=∀(B:Base) (w:World) (σ:List Dat),Rel B w (σ++τ)→Rel B w (σ++[d])
theorem KF0{d:Dat}{τ:List Dat}(h:∀B,(yU τ) B→d B):qG0 d τ:=fun B w σ hr=>by
 have h1:=(Rel.kR hr).imp (i:=σ.length) (e:=d) kI h
 rw[List.set_append_right _ _ (Nat.le_refl _),Nat.sub_self,List.set_cons_zero] at h1
 exact h1
def YP(c:CfD)(ks:List Kn):IS:=⟨c,ks,0,-1,0,0,[],fun _=>0⟩
theorem QE0:iK (fun _=>0) ([]:List (Ent Int Int)) 0:=⟨WfE.nil,fun t=>rfl⟩
theorem ao0{c:CfD}(h:uF c)(ks:List Kn):RN (YP c ks):=⟨h,Nv0,by simp [YP],by simp [YP],by simp [YP],by simp [YP],fun t=>⟨Int.le_refl 0,by have:=h.rate;show (0:Int)≤c.rate;omega⟩⟩
theorem LG0{K:Value→Prop}{c:CfD}{m:Nat}:M0 Tryz.prog (H6 O3 #[(0,.agg c.cs.toArray),(3,.int .i64 (-1)),(7,oO m)]) K=K (.agg (ics (YP c []) fD fD m)):=F5 fun w=>by kernel_rfl
section
variable {B:Base} {w:World} {p:Nat} {s:IS}
theorem ZO(n a b:Int):Gives Tryz.prog B (Z0 SA #[.int .i64 n,.int .i64 a,.int .i64 b]) (.bool (decide (a≤n∧n≤b))):=by
 refine Gives.intro fun B' w K base h k=>?_
 refine lI.up ?_
 unfold lI.pt
 simp -zeta only[FC,WC,K3]
 refine⟨fun c=>?_,fun c=>?_⟩
 ·have e:decide (a≤n∧n≤b)=decide (n≤b):=decide_eq_decide.2 ⟨fun hh=>hh.2,fun hh=>⟨c,hh⟩⟩
  rw[e] at k
  exact k _ _ h
 ·rw[decide_eq_false (fun hh:a≤n∧n≤b=>c hh.1)] at k
  exact k _ _ h
theorem lx0(c:CfD):Gives Tryz.prog B (Z0 CR #[.agg c.cs.toArray]) (.bool (decide (uF c))):=by
 refine Gives.intro fun B' w K base h k=>?_
 refine SQ.up ?_
 unfold SQ.pt
 have no:∀w' τ,Rel B' w' τ→¬uF c→K (.bool false) w':=fun w' τ h hn=>by rw[decide_eq_false hn] at k;exact k _ _ h
 refine h.box fun o w1 h=>?_
 have h:Rel B' w1 [O1 o V4 c.cs.toArray]:=h
 simp -zeta only[U0 ZR,Nat.add_zero,Nat.zero_add,h.ld 0 rfl Y2 (o:=2) rfl]
 refine h.ask (fun B2 own base2=>ZO _ _ _) fun w2 h=>?_
 rw[K3]
 refine⟨fun c1=>?_,fun c1=>no _ _ h fun hh=>c1 hh.late⟩
 simp -zeta only[U0 Ye0,U0 ZR,Nat.add_zero,Nat.zero_add,h.ld 0 rfl Y2 (o:=1) rfl,h.ld 0 rfl Y2 (o:=2) rfl]
 refine h.ask (fun B2 own base2=>ZO _ _ _) fun w3 h=>?_
 rw[K3]
 refine⟨fun c2=>?_,fun c2=>no _ _ h fun hh=>c2 hh.delay⟩
 simp -zeta only[U0 aS,Nat.add_zero,Nat.zero_add,h.ld 0 rfl Y2 (o:=3) rfl]
 refine h.ask (fun B2 own base2=>ZO _ _ _) fun w4 h=>?_
 rw[K3]
 refine⟨fun c3=>?_,fun c3=>no _ _ h fun hh=>c3 hh.ahead⟩
 simp -zeta only[U0 bS,Nat.add_zero,Nat.zero_add,h.ld 0 rfl Y2 (o:=4) rfl]
 refine h.ask (fun B2 own base2=>ZO _ _ _) fun w5 h=>?_
 have e:decide (uF c)=decide (1≤c.rate∧c.rate≤20):=decide_eq_decide.2 ⟨fun hh=>hh.rate,fun hh=>⟨c1,c2,c3,hh⟩⟩
 rw[e] at k
 exact k _ _ h
structure iB0 (ks:List Kn):Prop where
 len:ks.length≤1000000
 cols:∀x∈ks,x.cols.length≤1000000
theorem BE0{kv pv:SV}{m:Nat}{v:Value}{ks:List Kn}(hk:JA v ks B)(hf:iB0 ks) :
  Does Tryz.prog B (O1 p O3 (ics s kv pv m)) (Z0 mK #[lb0 p,v]) fun x e' τ=>x = .tuple #[]∧∃u:SV,e'=O1 p O3 (ics s u pv m)∧qG0 (JA u.1 ks) τ:=by
 refine Does.intro fun B' w K base h k=>?_
 obtain⟨L,hL,rk,rc⟩:=base hk
 have hal:∀L:KnL,(DL L).length=L.length:=fun L=>List.length_map ..
 have hLl:L.length≤1000000:=by have:=hf.len;rw[←hL,List.length_map] at this;exact this
 refine RI.up ?_
 unfold RI.pt
 simp -zeta only[J5,U0 cO,Nat.zero_add]
 refine h.st 0 rfl mI (show 6<13 by omega) rfl fun w1 h=>?_
 have h:Rel B' w1 [O1 p O3 (ics s fD pv m)]:=h
 simp -zeta only[O4.len rk ND]
 rw[hal]
 have h:=h.VC KnD A8
 have h:Rel B' w1 [O1 p O3 (ics s fD pv m),Y3 A8 fD.1 (DL [])]:=h
 have h:=(KF0 (d:=yZ []) (τ:=[]) fun B _ x hx=>(by cases hx)) B' w1 [O1 p O3 (ics s fD pv m),Y3 A8 fD.1 (DL [])] (by simpa using h)
 refine F6 (fun x w'=>∃(i:Nat) (L':KnL) (u:SV),i≤L.length∧L'.length=i∧L'.map (·.1)=ks.take i∧x=(.int .i64 i,())∧Rel B' w' [O1 p O3 (ics s u pv m),Y3 A8 u.1 (DL L'),yZ L']) (fun x _=>L.length-(match x.1 with | .int _ n=>n.toNat | _=>0))
  ⟨0,[],fD,Nat.zero_le _,rfl,rfl,rfl,h⟩ ?_
 clear h
 rintro x w2 ⟨i,L',u,hi,hl',hp,rfl,h⟩ next hnext
 simp -zeta only[G6,K3]
 refine⟨fun hlt=>?_,fun hge=>?_⟩
 ·have hil:i<L.length:=by omega
  have hel:(DL L)[i]'(by rw[hal];exact hil)=L[i].1.raw L[i].2:=by simp [DL]
  obtain⟨g,o,hx,hc⟩:=O4.idx rk ND (P:=Tryz.prog) (i:=i) (by rw[hal];exact hil)
  rw[hel] at hc
  have hc:K6 g o (L[i].1.raw L[i].2).cs B':=hc
  have hcol:O4 L[i].2.1 L[i].1.cols B':=rc L[i] (List.getElem_mem hil)
  have hcl:L[i].1.cols.length≤1000000:=hf.cols _ (by rw[←hL];exact List.mem_map_of_mem (List.getElem_mem hil))
  rw[hx,K6.r9 (h.L6 hc) OQ rfl]
  refine h.R8 (ds:=(L[i].1.raw L[i].2).cs.toArray) cp0 rfl OQ rfl (fun v hv=>Enc.one (L[i].1.raw L[i].2) v hv) fun a w3 h=>?_
  have h:Rel B' w3 [O1 p O3 (ics s u pv m),Y3 A8 u.1 (DL L'),yZ L',O1 a A8 (L[i].1.raw L[i].2).cs.toArray]:=h
  simp -zeta only[U0 MX,Nat.zero_add,h.ld 3 rfl lV (o:=2) rfl]
  refine h.make (fun B2 own base2=>FO (base2 hcol) (by omega) (by omega)) fun v' τ w4 hp2 h=>?_
  subst hp2
  have h1:v'.oneCell'=true:=h.oneCell (i:=4) rfl
  obtain⟨sv,rfl⟩:∃sv:SV,sv.1=v':=⟨⟨v',h1⟩,rfl⟩
  refine h.st 3 rfl lV (show 2<3 by omega) h1 fun w5 h=>?_
  have h:Rel B' w5 [O1 p O3 (ics s u pv m),Y3 A8 u.1 (DL L'),yZ L',O1 a A8 (L[i].1.raw sv).cs.toArray,Y3 iB sv.1 L[i].1.cols]:=h
  have h:=h.tick
  simp -zeta only[J5,U0 cO,Nat.zero_add,h.ld 0 rfl mI (o:=6) rfl,h.r9 3 rfl OQ rfl]
  refine h.XH (L[i].1.raw sv) ND (by decide) fun u2 w6 h=>?_
  refine⟨h.is 0 rfl mI (o:=6) rfl,?_⟩
  have hl2:(DL L').length=i:=by rw[hal,hl']
  refine h.append 1 rfl ND (Rd.at (l:=[L[i].1.raw sv]) 5 rfl) (by rw[hl2,List.length_singleton];omega) (by rw[hl2,List.length_singleton];omega) fun u3 w7 h=>?_
  have h3:u3.oneCell'=true:=h.oneCell (i:=1) rfl
  refine h.st 0 rfl mI (show 6<13 by omega) h3 fun w8 h=>?_
  have h:=h.pick [0,1,2,4] (by decide)
  have h:Rel B' w8 ([O1 p O3 (ics s ⟨u3,h3⟩ pv m),Y3 A8 u3 (DL L'++[L[i].1.raw sv])]++[yZ L',Y3 iB sv.1 L[i].1.cols]):=h
  have h:=(KF0 (d:=yZ (L'++[(L[i].1,sv)])) (τ:=[yZ L',Y3 iB sv.1 L[i].1.cols]) fun B hB=>Dat.all_append (Dat.star.left hB) (fun x hx=>by
   rw[List.mem_singleton] at hx
   subst hx
   exact Y3.read (Dat.star.left (Dat.star.right hB)))) _ _ _ h
  rw[show DL L'++[L[i].1.raw sv]=DL (L'++[(L[i].1,sv)]) by simp [DL]] at h
  rw[Z5,E5 (by omega) (by omega)]
  refine hnext _ _ ⟨i+1,L'++[(L[i].1,sv)],⟨u3,h3⟩,hil,by simp [hl'],?_,rfl,h⟩ (by simp only;omega)
  rw[List.map_append,hp,←hL,List.take_succ_eq_append_getElem (by simpa using hil)]
  simp
 ·have hie:i=L.length:=by omega
  subst hie
  rw[List.take_of_length_le (by rw[←hL,List.length_map];exact Nat.le_refl _)] at hp
  exact k _ _ _ _ ⟨rfl,u,rfl,KF0 (τ:=[Y3 A8 u.1 (DL L'),yZ L']) fun B hB=>⟨L',hp,Y3.read (Dat.star.left hB),Dat.star.left (Dat.star.right hB)⟩⟩ h
theorem TD0(c:CfD){v:Value}{ks:List Kn}(hk:JA v ks B)(hf:iB0 ks) :
  Makes Tryz.prog B (Z0 KQ #[.agg c.cs.toArray,v]) fun u τ=>(uF c∧∃p,u=lb0 p∧τ=[intD p (YP c ks)])∨(¬uF c∧u = .pointer none∧τ=[]):=by
 refine Makes.intro fun B' w K base h k=>?_
 replace hk:=base hk
 refine aV.up ?_
 unfold aV.pt
 refine h.box fun o w1 h=>?_
 have h:Rel B' w1 [O1 o V4 c.cs.toArray]:=h
 rw[h.r9 0 rfl uD rfl]
 refine h.ask (fun B2 own base2=>lx0 c) fun w2 h=>?_
 rw[V7,G5,K3]
 refine⟨fun c1=>?_,fun c1=>k _ _ _ (.inr ⟨c1,rfl,rfl⟩) h.nil⟩
 rw[h.r9 0 rfl uD rfl]
 refine h.mkMap Int Int fun m w3 h=>?_
 rw[LG0]
 refine h.box fun p w4 h=>?_
 have h:Rel B' w4 [O1 o V4 c.cs.toArray,W9 m ([]:List (Ent Int Int)) 0,O1 p O3 (ics (YP c ks) fD fD m)]:=h
 refine h.act 2 rfl (fun B2 own base2=>BE0 (base2 hk) hf) fun x e' τ w5 hp h=>?_
 obtain⟨rfl,u,rfl,hp⟩:=hp
 have h:=hp _ _ [O1 o V4 c.cs.toArray,W9 m ([]:List (Ent Int Int)) 0,O1 p O3 (ics (YP c ks) u fD m)] h
 have h:=Wf0 [] _ _ _ (by rw[List.append_nil];exact h)
 have h:=h.pick [2,1,3,4] (by decide)
 have h:Rel B' w5 [O1 p O3 (ics (YP c ks) u fD m),W9 m ([]:List (Ent Int Int)) 0,JA u.1 (YP c ks).known,GJ fD.1 (YP c ks).prods]:=h
 exact k _ _ _ (.inl ⟨c1,p,rfl,rfl⟩) (intD.close QE0 h)
def cH0(q t:Int)(rv:SV):EnD:=⟨0,7,0,q,⟨#[115]⟩,1,t,rv⟩
def nH0(n:Int):List OD:=[⟨0,n,⟨#[]⟩⟩]
end
end Go.Proofs.YtngbebnhegcokaaGreatDoor

namespace Go.Proofs.YtngbebnhegcokaaGreatDoor
open Go.RowKit
set_option maxRecDepth 100000
section
variable {B:Base} {w:World} {p:Nat} {s:IS}
def st1(s:IS)(q t n:Int):IS:=(GD s (cH0 q t fD) (nH0 n)).2
end
end Go.Proofs.YtngbebnhegcokaaGreatDoor

namespace Go.Proofs.YtngbebnhegcokaaGreatDoor
open Go.RowKit
set_option maxRecDepth 100000
structure Oj0 (s:IS) (times:List Int):Prop where
 cnt:∀t,s.cnt t=if O9 s<t then(times.count t:Int) else 0
 top:∀t∈times,t≤s.top
 rate:∀t,(times.count t:Int)≤s.cfg.rate
theorem SB0{c:CfD}(h:uF c)(ks:List Kn):Oj0 (YP c ks) []:=⟨fun t=>by
 show (0:Int)=if O9 (YP c ks)<t then((0:Nat):Int) else 0
 split<;>rfl,fun t ht=>(by cases ht),fun t=>by have:=h.rate;show (0:Int)≤c.rate;omega⟩
theorem Ou0{s:IS}{times:List Int}(h:Oj0 s times)(t:Int):Oj0 (ob0 s t) times:=by
 refine⟨fun x=>?_,fun x hx=>?_,h.rate⟩
 ·show (if x≤O9 { s with top:=max s.top t } then 0 else s.cnt x)=if O9 { s with top:=max s.top t }<x then(times.count x:Int) else 0
  have hc:O9 s≤O9 { s with top:=max s.top t }:=by
   show max (-1) (s.top-s.cfg.late-1)≤max (-1) (max s.top t-s.cfg.late-1)
   omega
  by_cases hx:x≤O9 { s with top:=max s.top t }
  ·rw[if_pos hx,if_neg (by omega)]
  ·rw[if_neg hx,if_pos (by omega),h.cnt,if_pos (by omega)]
 ·have:=h.top x hx
  show x≤max s.top t
  omega
structure VG0 (s:IS) (e:EnD) (times:List Int) (x:(Int×Int)×IS):Prop where
 top:s.top≤x.2.top
 yes:e.kind=0→x.1.2=0→O9 s<e.time∧e.time≤x.2.now+s.cfg.ahead∧Oj0 x.2 (times++[e.time])
 no:¬(e.kind=0∧x.1.2=0)→Oj0 x.2 times
theorem vm0{s:IS}{times:List Int}(hi:Oj0 s times)(e:EnD)(r:List OD):VG0 s e times (GD s e r):=by
 unfold GD
 by_cases c0:e.kind=0
 ·rw[if_pos c0]
  unfold ES
  simp only
  by_cases c:(BX s e r).2≠0
  ·rw[if_pos c]
   split
   ·exact⟨Int.le_refl _,fun _ h2=>absurd h2 c,fun _=>⟨hi.cnt,hi.top,hi.rate⟩⟩
   ·exact⟨Int.le_refl _,fun _ h2=>absurd h2 c,fun _=>hi⟩
  ·rw[if_neg c]
   have c:=Decidable.of_not_not c
   obtain⟨_,_,_,p4,p5,p6,_⟩:=Vd0 c
   refine⟨?_,fun _ _=>⟨p4,p5,?_⟩,fun hn=>absurd ⟨c0,c⟩ hn⟩
   ·show s.top≤max s.top e.time
    omega
   ·have hcnt:∀t,((times++[e.time]).count t:Int)=(times.count t:Int)+if t=e.time then 1 else 0:=fun t=>by
     rw[List.count_append,List.count_singleton]
     by_cases ht:t=e.time
     ·subst ht;simp
     ·have:(e.time == t)=false:=by simpa using fun hh:e.time=t=>ht hh.symm
      rw[this,if_neg ht];simp
    have he:=hi.cnt e.time
    rw[if_pos p4] at he
    refine⟨fun x=>?_,fun x hx=>?_,fun t=>?_⟩
    ·show (if x≤O9 { s with top:=max s.top e.time } then 0 else if x=e.time then s.cnt e.time+1 else s.cnt x)=if O9 { s with top:=max s.top e.time }<x then((times++[e.time]).count x:Int) else 0
     have hc:O9 s≤O9 { s with top:=max s.top e.time }:=by
      show max (-1) (s.top-s.cfg.late-1)≤max (-1) (max s.top e.time-s.cfg.late-1)
      omega
     by_cases hx:x≤O9 { s with top:=max s.top e.time }
     ·rw[if_pos hx,if_neg (by omega)]
     ·have hlt:O9 { s with top:=max s.top e.time }<x:=by omega
      rw[if_neg hx,if_pos hlt,hcnt]
      by_cases hxe:x=e.time
      ·subst hxe;rw[if_pos rfl,if_pos rfl,he]
      ·rw[if_neg hxe,if_neg hxe,hi.cnt,if_pos (by omega),Int.add_zero]
    ·show x≤max s.top e.time
     rcases List.mem_append.1 hx with hx | hx
     ·have:=hi.top x hx;omega
     ·rw[List.mem_singleton] at hx;omega
    ·show _≤s.cfg.rate
     rw[hcnt]
     have:=hi.rate t
     split
     ·rename_i ht;subst ht;omega
     ·omega
 rw[if_neg c0]
 by_cases c1:e.kind=1
 ·rw[if_pos c1]
  split
  ·exact⟨Int.le_refl _,fun h=>absurd h c0,fun _=>⟨hi.cnt,hi.top,hi.rate⟩⟩
  ·exact⟨Int.le_refl _,fun h=>absurd h c0,fun _=>hi⟩
 rw[if_neg c1]
 split
 ·split
  ·exact⟨Int.le_refl _,fun h=>absurd h c0,fun _=>hi⟩
  ·split
   ·exact⟨Int.le_refl _,fun h=>absurd h c0,fun _=>⟨hi.cnt,hi.top,hi.rate⟩⟩
   ·split
    ·exact⟨Int.le_refl _,fun h=>absurd h c0,fun _=>hi⟩
    ·exact⟨by show s.top≤max s.top e.time;omega,fun h=>absurd h c0,fun _=>Ou0 hi _⟩
 ·exact⟨Int.le_refl _,fun h=>absurd h c0,fun _=>hi⟩
section
variable {B:Base} {w:World} {Kp:Value→Prop} {xo yo:Operand}
theorem iC0{p:Nat}:M0 Tryz.prog (V3 .eql E8 xo yo (lb0 p) (.pointer none)) Kp=Kp (.bool false):=OA uG
theorem zC0:M0 Tryz.prog (V3 .eql E8 xo yo (.pointer none) (.pointer none)) Kp=Kp (.bool true):=F5 fun w=>MP rfl (run_eql_pointer_nil w E8 none uG)
end
end Go.Proofs.YtngbebnhegcokaaGreatDoor

namespace Go.Proofs.YtngbebnhegcokaaGreatDoor
open Go.RowKit
set_option maxRecDepth 100000
def WR(p:Pr):Bs:=encI p.id++encI p.epoch++encI p.next++tY encI p.last
def bI(s:List Pr):Bs:=encI s.length++s.flatMap WR
structure Aw0 (p:Pr):Prop where
 id:inI p.id
 epoch:inI p.epoch
 next:inI p.next
 len:p.last.length≤9223372036854775807
 last:∀x∈p.last,inI x
theorem Vk0{n:Int}(h:inP n):inI n:=⟨by have:=h.1;omega,by have:=h.2;omega⟩
theorem KR.good{p:Pr}(h:KR p):Aw0 p:=⟨Vk0 h.id,Vk0 h.epoch,Vk0 h.next,by have:=h.len;have:=h.next;omega,fun x hx=>by
 obtain⟨i,hi,rfl⟩:=List.getElem_of_mem hx
 exact Vk0 (h.each i hi)⟩
noncomputable def FQ(s:RS):Pr×RS :=
 let a:=H5 s
 let b:=H5 a.2
 let c:=H5 b.2
 let d:=In0 c.2
 (⟨a.1,b.1,c.1,d.1⟩,d.2)
theorem Fv0{p:Pr}(h:Aw0 p)(r:Bs):FQ ⟨WR p++r,false⟩=(p,⟨r,false⟩):=by
 unfold FQ WR
 simp only[List.append_assoc]
 rw[yE h.id]
 simp only
 rw[yE h.epoch]
 simp only
 rw[yE h.next]
 simp only
 rw[dv0 h.len h.last]
theorem Gu0(p:Pr):0<(WR p).length:=by
 unfold WR
 have:=RV p.id
 simp only[List.length_append]
 omega
noncomputable def sd0:Nat→List Pr→RS→List Pr×RS
 | 0,acc,s=>(acc,s)
 | k+1,acc,s=>if s.rest=[] then(acc,s) else sd0 k (acc++[(FQ s).1]) (FQ s).2
theorem Io0:∀(l acc:List Pr) (r:Bs),(∀p∈l,Aw0 p)→sd0 l.length acc ⟨l.flatMap WR++r,false⟩=(acc++l,⟨r,false⟩)
 | [],acc,r,_=>by simp [sd0]
 | p :: l,acc,r,h=>by
  have hne:¬((p :: l).flatMap WR++r)=[]:=fun hh=>by
   have:=congrArg List.length hh
   have h2:=Gu0 p
   rw[List.flatMap_cons,List.length_append,List.length_append,List.length_nil] at this
   omega
  rw[List.length_cons,sd0,if_neg hne,List.flatMap_cons,List.append_assoc,Fv0 (h p List.mem_cons_self)]
  rw[Io0 l _ r fun y hy=>h y (List.mem_cons_of_mem _ hy)]
  simp
def uV(t:Bs)(s:List Pr):Prop:=DC s∧bI s=t∧aO (sd0 (qE ⟨t,false⟩).1.toNat [] (qE ⟨t,false⟩).2).2=true∧(sd0 (qE ⟨t,false⟩).1.toNat [] (qE ⟨t,false⟩).2).1=s
theorem Gt0{s:List Pr}(h:DC s):sd0 (qE ⟨bI s,false⟩).1.toNat [] (qE ⟨bI s,false⟩).2=(s,⟨[],false⟩):=by
 have hl:=h.len
 unfold bI
 rw[pW (by omega) ⟨by omega,by omega⟩]
 simp only[Int.toNat_natCast]
 have:=Io0 s [] [] fun p hp=>(h.fine p hp).good
 rw[List.append_nil,List.nil_append] at this
 exact this
theorem cG0{s:List Pr}(h:DC s):uV (bI s) s:=by
 unfold uV
 rw[Gt0 h]
 exact⟨h,rfl,rfl,rfl⟩
theorem CA0{s s':List Pr}(h:DC s)(h':uV (bI s) s'):s'=s:=by
 have:=h'.2.2.2
 rw[Gt0 h] at this
 exact this.symm
theorem Cu0{p:Pr}(h:KR p):(WR p).length≤600:=by
 have g:=h.good
 have hl:=h.len
 have hn:=h.next
 have h1:=Q6 g.id
 have h2:=Q6 g.epoch
 have h3:=Q6 g.next
 have h4:=(TV encI p.last (by omega)).2
 have h5:=xE encI p.last 21 fun y hy=>Q6 (g.last y hy)
 unfold WR
 simp only[List.length_append]
 omega
theorem TU{s:List Pr}(h:DC s):(bI s).length≤31000:=by
 have hl:=h.len
 have h1:=Q6 (n:=s.length) ⟨by omega,by omega⟩
 have h2:=xE WR s 600 fun p hp=>Cu0 (h.fine p hp)
 unfold bI
 rw[List.length_append]
 omega
theorem Gq0{s:RS}(hs:WK s)(hr:s.rest≠[]):WK (FQ s).2∧(FQ s).2.rest.length+1≤s.rest.length:=by
 have h1:=rU (.inl rfl:bE 59) (lo := -9223372036854775808) hs
 have l1:=(zB (.inl rfl:bE 59) (-9223372036854775808) s).1
 have l2:=(zB (.inl rfl:bE 59) (-9223372036854775808) (H5 s).2).1
 have l3:=(zB (.inl rfl:bE 59) (-9223372036854775808) (H5 (H5 s).2).2).1
 have hs0:s.bad=false:=by
  cases hb:s.bad
  ·rfl
  ·exact absurd (hs hb) hr
 have hlen:0<s.rest.length:=List.length_pos_iff.2 hr
 have hsan:WK (FQ s).2:=Jn0 (fun s=>iG) (iG (iG (iG hs)))
 have hle:(FQ s).2.rest.length≤(H5 s).2.rest.length:=Nat.le_trans (jq0 YD _) (Nat.le_trans l3 l2)
 refine⟨hsan,?_⟩
 obtain⟨s1,s2⟩:=Ok1.shrink Md0 RV hs0
 cases hb:(H5 s).2.bad
 ·have:=s2 hb;omega
 ·have:=(iG hs) hb
  rw[this] at hle
  simp at hle
  rw[hle]
  simp
  omega
end Go.Proofs.YtngbebnhegcokaaGreatDoor

namespace Go.Proofs.YtngbebnhegcokaaGreatDoor
open Go.RowKit
set_option maxRecDepth 100000
end Go.Proofs.YtngbebnhegcokaaGreatDoor

namespace Go.Proofs.YtngbebnhegcokaaGreatDoor
open Go.RowKit
set_option maxRecDepth 100000
theorem vz0{d:Dat}{τ σ:List Dat}{B:Base}{w:World}(h:∀B,(yU τ) B→d B)(hr:Rel B w (σ++τ)):Rel B w (σ++[d]):=by
 have h1:=(Rel.kR hr).imp (i:=σ.length) (e:=d) kI h
 rw[List.set_append_right _ _ (Nat.le_refl _),Nat.sub_self,List.set_cons_zero] at h1
 exact h1
section
variable {B:Base} {w:World} {σ:List Dat}
theorem Ug0(hB:VI B){v:Value}{L:PrL}(r:O4 v (o9 L) B)(q:IG L B)(hR:DC (prs L)):Gives Tryz.prog B (Z0 TK #[v]) (.string (ofL (bI (prs L)))):=by
 refine Gives.wf0 fun B' w K base h start k=>?_
 replace hB:=base hB
 replace r:=base r
 replace q:=base q
 refine qO.up ?_
 unfold qO.pt
 have hal:(o9 L).length=L.length:=List.length_map ..
 have hpl:(prs L).length=L.length:=List.length_map ..
 have hl:=hR.len
 have hall:=TU hR
 refine h.alloc PG fun b w1 h=>?_
 have h:=start w1 b h
 simp -zeta only[O4.len r I6]
 rw[hal]
 have hin:inI (L.length:Int):=⟨by omega,by omega⟩
 refine h.ask (fun B2 own base2=>fh0 (base2 hB) hin) fun w2 h=>?_
 have en:gd0 (L.length:Int)=encI (prs L).length:=by rw[hpl];unfold gd0;rw[if_neg (by omega)]
 rw[en]
 have h2:=Q6 hin
 rw[←hpl] at h2
 refine h.VN (Nat.le_refl _) (by rw[Q_,List.length_nil];omega) fun _ w4 h=>?_
 have h:Rel B' w4 [bP B'.W.heap.size b (encI (prs L).length)]:=h
 unfold bI at hall k
 refine F6 (fun x w'=>∃i:Nat,i≤L.length∧x=(.int .i64 i,())∧Rel B' w' [bP B'.W.heap.size b (encI (prs L).length++((prs L).take i).flatMap WR)]) (fun x _=>L.length-(match x.1 with | .int _ n=>n.toNat | _=>0))
  ⟨0,Nat.zero_le _,rfl,by simpa using h⟩ ?_
 clear h
 rintro x w5 ⟨i,hi,rfl,h⟩ next hnext
 simp -zeta only[G6,K3]
 refine⟨fun hlt=>?_,fun hge=>?_⟩
 ·have hil:i<L.length:=by omega
  obtain⟨g,o,hx,hcl⟩:=O4.idx r I6 (P:=Tryz.prog) (i:=i) (by omega)
  have hel:(o9 L)[i]'(by omega)=L[i].1.raw L[i].2:=by simp [o9]
  rw[hel] at hcl
  have hcl:K6 g o (L[i].1.raw L[i].2).cs B':=hcl
  have hrow:=q L[i] (List.getElem_mem hil)
  have hfine:=hR.fine L[i].1 (List.mem_map_of_mem (List.getElem_mem hil))
  have hgood:=hfine.good
  have hnx:=hfine.next
  have hll:=hfine.len
  have hstep:=jI WR (l:=prs L) (i:=i) (by omega)
  rw[show (prs L)[i]'(by omega)=L[i].1 by simp] at hstep
  have hle:=QE WR (prs L) (i+1)
  rw[hstep,List.length_append] at hle
  rw[hx,K6.r9 (h.L6 hcl) X7 rfl]
  refine h.R8 (ds:=(L[i].1.raw L[i].2).cs.toArray) zF rfl X7 rfl (fun v hv=>Enc.one (L[i].1.raw L[i].2) v hv) fun a w6 h=>?_
  have h:Rel B' w6 [bP B'.W.heap.size b (encI (prs L).length++((prs L).take i).flatMap WR),O1 a U2 (L[i].1.raw L[i].2).cs.toArray]:=h
  have h:=h.tick
  simp -zeta only[U0 iF,U0 fI,U0 dL,U0 jF,Nat.add_zero,Nat.zero_add,h.ld 1 rfl Y2 (o:=0) rfl,h.ld 1 rfl Y2 (o:=1) rfl,h.ld 1 rfl Y2 (o:=2) rfl,h.ld 1 rfl wF (o:=3) rfl]
  refine h.ask (fun B2 own base2=>wC (base2 hB) hgood.id) fun w7 h=>?_
  refine⟨h.is 1 rfl wF (o:=3) rfl,h.is 1 rfl Y2 (o:=2) rfl,h.is 1 rfl Y2 (o:=1) rfl,?_⟩
  refine h.ask (fun B2 own base2=>wC (base2 hB) hgood.epoch) fun w8 h=>?_
  refine⟨h.is 1 rfl wF (o:=3) rfl,h.is 1 rfl Y2 (o:=2) rfl,?_⟩
  have l1:=Q6 hgood.id
  have l2:=Q6 hgood.epoch
  have l3:=Q6 hgood.next
  have l4:=(TV encI L[i].1.last (by omega)).2
  have l5:=xE encI L[i].1.last 21 fun y hy=>Q6 (hgood.last y hy)
  rw[C9 (by omega)]
  refine h.ask (fun B2 own base2=>wC (base2 hB) hgood.next) fun w9 h=>?_
  refine⟨h.is 1 rfl wF (o:=3) rfl,?_⟩
  rw[C9 (by rw[List.length_append];omega)]
  refine h.ask (fun B2 own base2=>KD0 (base2 hB) (base2 hrow) hgood.last (by omega)) fun w10 h=>?_
  rw[C9 (by simp only[List.length_append];omega)]
  simp only[List.length_append] at hall
  have hpe:encI L[i].1.id++encI L[i].1.epoch++encI L[i].1.next++tY encI L[i].1.last=WR L[i].1:=rfl
  rw[hpe]
  refine(h.take 1).VN (Nat.le_refl _) (by rw[Q_];simp only[List.length_append];omega) fun _ w11 h=>?_
  rw[Z5,E5 (by omega) (by omega)]
  refine hnext _ _ ⟨i+1,hil,rfl,?_⟩ (by simp only;omega)
  rw[hstep,←List.append_assoc]
  exact h
 ·refine h.gU (Nat.le_refl _) fun w7 h=>?_
  have hie:i=L.length:=by omega
  subst hie
  have e:(prs L).take L.length=prs L:=List.take_of_length_le (by omega)
  rw[e]
  exact k _ _ h
set_option maxHeartbeats 1000000 in
theorem gw0(hB:qC B){t:Bs}(ht:t.length≤1000000):Makes Tryz.prog B (Z0 kQ #[.string (ofL t)]) fun u τ=>(∃s tv,uV t s∧u = .tuple #[tv,.bool true]∧rT tv s τ)∨((∀s,¬uV t s)∧u = .tuple #[.slice none 0 0,.bool false]∧τ=[]):=by
 refine Makes.intro fun B' w K base h k=>?_
 replace hB:=base hB
 refine CP.up ?_
 unfold CP.pt
 refine h.make (fun B2 own base2=>WT) fun u τ w1 hp h=>?_
 obtain⟨p,rfl,rfl⟩:=hp
 have h:Rel B' w1 [rdD p ⟨t,false⟩]:=h
 have hal:∀L:PrL,(o9 L).length=L.length:=fun L=>List.length_map ..
 have hsn:WK ⟨t,false⟩:=fun hb=>by cases hb
 have l1:(qE ⟨t,false⟩).2.rest.length≤t.length:=(zB (.inl rfl:bE 59) 0 ⟨t,false⟩).1
 have hin:=(zB (.inl rfl:bE 59) 0 ⟨t,false⟩).2.1
 have n0:0≤(qE ⟨t,false⟩).1:=(zB (.inl rfl:bE 59) 0 ⟨t,false⟩).2.2 (Int.le_refl 0)
 have n1:(qE ⟨t,false⟩).1≤9223372036854775807:=hin.2
 have hs1:WK (qE ⟨t,false⟩).2:=Va0 hsn
 have no:(∀s,¬uV t s)→∀w' τ,Rel B' w' τ→K (.tuple #[.slice none 0 0,.bool false]) w':=fun hn w' τ h=>k _ _ _ (.inr ⟨hn,rfl,rfl⟩) h.nil
 have yes:∀s tv τ,uV t s→rT tv s τ→∀w',Rel B' w' τ→K (.tuple #[tv,.bool true]) w':=fun s tv τ h1 h2 w' h=>k _ _ _ (.inl ⟨s,tv,h1,rfl,h2⟩) h
 clear k
 unfold uV at no yes
 refine P6 fun J1 hJ1=>?_
 replace hJ1:∀(tv:Value) (L:PrL) (s':RS),sd0 (qE ⟨t,false⟩).1.toNat [] (qE ⟨t,false⟩).2=(prs L,s')→L.length≤t.length→(∀x∈L,x.1.last.length≤4611686018427387904)→∀w',Rel B' w' [rdD p s',Y3 U2 tv (o9 L),IG L]→J1 (tv,()) w':=by
  intro tv L s' htab hLl hq w' h
  refine hJ1 _ _ ?_
  clear hJ1
  rw[htab] at no yes
  simp only at no yes
  refine h.ask (fun B2 own base2=>dR (own (i:=0) rfl)) fun w3 h=>?_
  rw[V7,G5,R5]
  refine⟨fun cd=>?_,fun cd=>no (fun s hh=>by rw[hh.2.2.1] at cd;cases cd) _ _ h⟩
  refine h.ask (fun B2 own base2=>oB0 (Y3.read (own (i:=1) rfl)) (own (i:=2) rfl) (by omega) hq) fun w4 h=>?_
  rw[V7,G5,R5]
  refine⟨fun cr=>?_,fun cr=>no (fun s hh=>by rw[hh.2.2.2,xW.2 hh.1] at cr;cases cr) _ _ h⟩
  have hR:=xW.1 cr
  refine h.ask (fun B2 own base2=>Ug0 (base2 hB) (Y3.read (own (i:=1) rfl)) (own (i:=2) rfl) hR) fun w5 h=>?_
  rw[DZ,G5,K3]
  refine⟨fun ce=>?_,fun ce=>no (fun s hh=>ce ?_) _ _ h⟩
  ·have ce:bI (prs L)=t:=by have:=congrArg bl ce;exact this
   have h:=h.pick [1,2] (by decide)
   exact yes (prs L) tv [Y3 U2 tv (o9 L),IG L] ⟨hR,ce,cd,rfl⟩ (uU fun B hB=>⟨L,rfl,Y3.read (Dat.star.left hB),Dat.star.left (Dat.star.right hB)⟩) _ h
  ·rw[hh.2.2.2,hh.2.1]
 refine h.rd_ 0 rfl (fun B2 own base2=>CY (base2 hB) (by show t.length≤_;omega)) fun w6 h=>?_
 generalize qE ⟨t,false⟩=n at *
 obtain⟨n,r1⟩:=n
 simp only at l1 n0 n1 hs1 hJ1
 obtain⟨m,rfl⟩:∃m:Nat,n=m:=⟨n.toNat,by omega⟩
 rw[Int.toNat_natCast] at hJ1
 have h:Rel B' w6 [rdD p r1]:=h
 have h:=h.VC PrD U2
 have h:Rel B' w6 [rdD p r1,Y3 U2 (.slice none 0 0) (o9 [])]:=h
 have h:=vz0 (d:=IG []) (τ:=[]) (σ:=[rdD p r1,Y3 U2 (.slice none 0 0) (o9 [])]) (fun B _ x hx=>by cases hx) (by simpa using h)
 refine F6 (fun x w'=>∃(j:Nat) (L:PrL) (tv:Value) (s':RS),j≤m∧x=(tv,.int .i64 j,())∧sd0 j (prs L) s'=sd0 m [] r1∧WK s'∧L.length+s'.rest.length≤t.length∧(∀x∈L,x.1.last.length≤4611686018427387904) ∧
   Rel B' w' [rdD p s',Y3 U2 tv (o9 L),IG L]) (fun x _=>match x.2.1 with | .int _ n=>n.toNat | _=>0)
  ⟨m,[],.slice none 0 0,r1,Nat.le_refl _,rfl,rfl,hs1,by simpa using l1,fun x hx=>(by cases hx),h⟩ ?_
 clear h
 rintro x w7 ⟨j,L,tv,s',hj,rfl,htab,hsa,hlen,hq,h⟩ next hnext
 simp -zeta only[x9,K3]
 refine⟨fun hpos=>?_,fun hz=>?_⟩
 case refine_2 =>
  obtain rfl:j=0:=by omega
  rw[sd0] at htab
  exact hJ1 tv L s' htab.symm (by omega) hq _ h
 obtain⟨i,rfl⟩:∃i,j=i+1:=⟨j-1,by omega⟩
 rw[sd0] at htab
 refine h.ask (fun B2 own base2=>eX (own (i:=0) rfl)) fun w8 h=>?_
 rw[x9,K3]
 refine⟨fun hp=>?_,fun hp=>?_⟩
 case refine_2 =>
  have:s'.rest=[]:=List.eq_nil_of_length_eq_zero (by omega)
  rw[if_pos this] at htab
  exact hJ1 tv L s' htab.symm (by omega) hq _ h
 have hne:¬s'.rest=[]:=fun hh=>by rw[hh] at hp;exact absurd hp (by simp)
 rw[if_neg hne] at htab
 obtain⟨hsa2,hshr⟩:=Gq0 hsa hne
 have a1:=(zB (.inl rfl:bE 59) (-9223372036854775808) s').1
 have a2:=(zB (.inl rfl:bE 59) (-9223372036854775808) (H5 s').2).1
 have a3:=(zB (.inl rfl:bE 59) (-9223372036854775808) (H5 (H5 s').2).2).1
 have a1:(H5 s').2.rest.length≤s'.rest.length:=a1
 have a2:(H5 (H5 s').2).2.rest.length≤(H5 s').2.rest.length:=a2
 have a3:(H5 (H5 (H5 s').2).2).2.rest.length≤(H5 (H5 s').2).2.rest.length:=a3
 have a4:(In0 (H5 (H5 (H5 s').2).2).2).1.length≤(H5 (H5 (H5 s').2).2).2.rest.length+1:=kq0 Md0 RV _
 refine h.rd_ 0 rfl (fun B2 own base2=>mD (base2 hB) (by omega)) fun w9 h=>?_
 have h:Rel B' w9 [rdD p (H5 s').2,Y3 U2 tv (o9 L),IG L]:=h
 refine h.rd_ 0 rfl (fun B2 own base2=>mD (base2 hB) (by omega)) fun w10 h=>?_
 have h:Rel B' w10 [rdD p (H5 (H5 s').2).2,Y3 U2 tv (o9 L),IG L]:=h
 refine h.rd_ 0 rfl (fun B2 own base2=>mD (base2 hB) (by omega)) fun w11 h=>?_
 have h:Rel B' w11 [rdD p (H5 (H5 (H5 s').2).2).2,Y3 U2 tv (o9 L),IG L]:=h
 refine h.act 0 rfl (fun B2 own base2=>JC0 (base2 hB) (by omega)) fun u e' τ w12 hp h=>?_
 obtain⟨rfl,rfl⟩:=hp
 have hpr:(FQ s').1=⟨(H5 s').1,(H5 (H5 s').2).1,(H5 (H5 (H5 s').2).2).1,(In0 (H5 (H5 (H5 s').2).2).2).1⟩:=rfl
 have h:Rel B' w12 [rdD p (FQ s').2,Y3 U2 tv (o9 L),IG L,Y3 Q0 u (FQ s').1.last]:=h
 have a4:(FQ s').1.last.length≤t.length+1:=by rw[hpr];show (In0 _).1.length≤_;omega
 have e1:(H5 s').1=(FQ s').1.id:=rfl
 have e2:(H5 (H5 s').2).1=(FQ s').1.epoch:=rfl
 have e3:(H5 (H5 (H5 s').2).2).1=(FQ s').1.next:=rfl
 rw[e1,e2,e3]
 clear hpr e1 e2 e3 a1 a2 a3
 generalize FQ s'=y at *
 obtain⟨pr,s2⟩:=y
 simp only at *
 have h1:u.oneCell'=true:=h.oneCell (i:=3) rfl
 obtain⟨sv,rfl⟩:∃sv:SV,sv.1=u:=⟨⟨u,h1⟩,rfl⟩
 obtain⟨a,c,hform,_⟩:=O4.form (Y3.read (h.here (i:=3) rfl))
 have hbd:∀{Kp:Value→Prop},M0 Tryz.prog (H6 U2 #[(0,.int .i64 pr.id),(1,.int .i64 pr.epoch),(2,.int .i64 pr.next),(3,sv.1)]) Kp=Kp (pr.raw sv).v:=fun {Kp}=>by
  have e:(pr.raw sv).v = .agg #[.int .i64 pr.id,.int .i64 pr.epoch,.int .i64 pr.next,sv.1]:=rfl
  rw[e,hform]
  exact eU
 rw[hbd]
 refine h.WS (α:=PrD) 1 rfl (pr.raw sv) I6 (by decide) (by rw[hal];omega) (by rw[hal];omega) fun v2 w14 h=>?_
 have h:Rel B' w14 ([rdD p s2,Y3 U2 v2 (o9 L++[pr.raw sv])]++[IG L,Y3 Q0 sv.1 pr.last]):=h
 have h:=vz0 (d:=IG (L++[(pr,sv)])) (τ:=[IG L,Y3 Q0 sv.1 pr.last]) (σ:=[rdD p s2,Y3 U2 v2 (o9 L++[pr.raw sv])]) (fun B hB=>Dat.all_append (Dat.star.left hB) fun x hx=>by
  rw[List.mem_singleton] at hx
  subst hx
  exact Y3.read (Dat.star.left (Dat.star.right hB))) h
 rw[show o9 L++[pr.raw sv]=o9 (L++[(pr,sv)]) by simp [o9]] at h
 rw[TB,E5 (by omega) (by omega)]
 have e4:(((i+1:Nat):Int)-1)=(i:Int):=by omega
 rw[e4]
 refine hnext _ _ ⟨i,L++[(pr,sv)],v2,s2,by omega,rfl,?_,hsa2,by rw[List.length_append,List.length_singleton];omega,fun x hx=>?_,h⟩ (by simp only;omega)
 ·rw[←htab]
  simp
 ·rcases List.mem_append.1 hx with hx | hx
  ·exact hq x hx
  ·rw[List.mem_singleton.1 hx]
   show pr.last.length≤_
   omega
end
end Go.Proofs.YtngbebnhegcokaaGreatDoor

namespace Go.Proofs
open Go.Shelf
shelf_lay_g SlLaysZI.n7 Ggz 7 at Tryz 64 as Tryz.laysKeysI
shelf_lay_g SlLaysZI.n8 Ggz 8 at Tryz 127 as Tryz.laysCollectI
theorem Tryz.gn0:∀args w,(callFunc 129 args).run Tryz.prog w = .ok (.enter 129 args) w:=enters_of Tryz.func129 (by kernel_rfl) rfl
end Go.Proofs

namespace Go.Proofs
open Go.Shelf
shelf_lay Lays.n189 Nm 189 at Tryz as Tryz.laysSortInt
end Go.Proofs

namespace Go.Proofs.YtngbebnhegcokaaGreatDoor
open Go.RowKit
set_option maxRecDepth 100000
theorem jf0(l:List Int):flat l=l.map (Value.int .i64):=by
 induction l with
 | nil=>rfl
 | cons a l ih=>rw[iI,ih];rfl
section
variable {B:Base} {w:World} {σ:List Dat} {E:TypeId}
theorem Rel.putRow(h:Rel B w σ)(i:Nat){g cap m n:Nat}{os:Array Obj}{l l':List Int}(hi:σ[i]? = some (Y3 E (.slice (some ⟨g,0,none⟩) l.length cap) l))(hl:l'.length=l.length)(hm:m≤l.length) :
  Rel B (Go.Sort.grow (Go.Sort.putRow (Value.int .i64) (Go.Sort.ahead w n) g 0 l'.toArray) os) (σ.set i (Y3 E (.slice (some ⟨g,0,none⟩) m cap) (l'.take m))):=by
 obtain⟨c,h⟩:=h
 obtain⟨_,cur,hb,h1,hmx,h3,h4⟩:=(Y3.own (h.own i _ hi)).inv
 have hlt:=hb.lt
 have h3':cur.size=cap:=by rw[h3];exact Nat.mul_one cap
 have hg:(Go.Sort.grow (Go.Sort.putRow (Value.int .i64) (Go.Sort.ahead w n) g 0 l'.toArray) os).heap[g]? = some (.cells (Go.Sort.putCells (Value.int .i64) 0 l'.toArray cur) E (0,0)):=by
  rw[Go.Sort.heap_grow_old _ _ (by simpa using hlt)]
  show (w.heap.modify g _)[g]? = _
  rw[Array.getElem?_modify,if_pos rfl,hb.2]
  rfl
 refine⟨WF c w.heap.size 0,h.step hi ⟨rfl,rfl,rfl,?_,fun k hk=>by simp [WF,hk],fun k hk ht=>?_⟩ (YB.Y3 (YB.mk_ (cur:=Go.Sort.putCells (Value.int .i64) 0 l'.toArray cur) ⟨by simp [WF,hlt,hb.1],hg⟩ ?_ (Nat.le_trans hm h1) hmx ?_ ?_))⟩
 ·rw[Go.Sort.size_grow,Go.Sort.size_putRow]
  exact Nat.le_add_right _ _
 ·rw[Go.Sort.heap_grow_old _ _ (by simpa using hk)]
  show (w.heap.modify g _)[k]? = _
  rw[Array.getElem?_modify,if_neg]
  rintro rfl
  exact ht hb.1
 ·rw[List.length_take];omega
 ·rw[←h3];simp [Go.Sort.putCells]
 ·rw[jf0]
  have hcs:(Go.Sort.putCells (Value.int .i64) 0 l'.toArray cur).size=cap:=by simp [Go.Sort.putCells,h3']
  have h1':(Enc.sz Int)=1:=rfl
  rw[h1',Nat.mul_one]
  apply List.ext_getElem
  ·simp [hcs];omega
  ·intro k hk1 hk2
   have hk:k<m:=by
    rw[List.length_take] at hk1
    omega
   have hkl:k<l'.length:=by omega
   simp [Go.Sort.putCells,hkl]
theorem holdsInt{c:Nat→Nat}{t g cap:Nat}{cur:Array Value}{l:List Int}(hb:Blk c t w g E cur)(h1:l.length≤cap)(h3:cur.size=cap * Enc.sz Int)(h4:cur.toList.take (l.length * Enc.sz Int)=flat l):Go.Sort.Holds (Value.int .i64) w g 0 l.toArray:=by
 intro j hj
 have hj':j<l.length:=by simpa using hj
 refine⟨?_,hb.free _⟩
 rw[Nat.zero_add]
 refine hb.cell ?_
 have e:(cur.toList.take (l.length * Enc.sz Int))[j]? = (flat l)[j]? := by rw[h4]
 have h1':(Enc.sz Int)=1:=rfl
 rw[h1',Nat.mul_one,List.getElem?_take_of_lt hj',jf0] at e
 rw[Array.getElem?_toList] at e
 rw[e]
 simp [hj']
abbrev eY(l:List Int):List Int:=l.mergeSort fun x y=>decide (x≤y)
theorem Vv0{l:List Int}{x:Int}:x∈eY l↔x∈l:=(List.mergeSort_perm l _).mem_iff
theorem nV(l:List Int):(eY l).length=l.length:=(List.mergeSort_perm l _).length_eq
theorem Qt0{v:Value}{l:List Int}(hl:l.length≤1000000000):Does Tryz.prog B (Y3 Q0 v l) (Z0 QD #[v]) fun u e' τ=>u = .tuple #[]∧e'=Y3 Q0 v (eY l)∧τ=[]:=by
 refine Does.intro fun B' w K base h k=>?_
 rcases Nat.eq_zero_or_pos l.length with h0 | h0
 ·have hl0:l=[]:=List.length_eq_zero_iff.1 h0
  subst hl0
  have hv:∃p cap,v = .slice p 0 cap:=by
   rcases h.here (i:=0) rfl with⟨rfl,_⟩ | ⟨g,cap,_,rfl,_⟩
   ·exact⟨_,_,rfl⟩
   ·exact⟨_,_,rfl⟩
  obtain⟨p,cap,rfl⟩:=hv
  refine MO.up ?_
  refine Calls.mono (Any.slices_Sort_int_none Tryz.laysSortInt p cap w) fun e w' he=>?_
  obtain⟨rfl,rfl⟩:=he
  have e:eY []=[]:=by simp [eY]
  exact k _ _ [] _ ⟨rfl,rfl,rfl⟩ (by rw[e];exact h)
 ·obtain⟨g,cap,rfl⟩:=h.open_ (i:=0) rfl h0
  obtain⟨c,h'⟩:=h
  obtain⟨_,cur,hb,h1,hmx,h3,h4⟩:=(Y3.own (h'.own 0 _ rfl)).inv
  refine MO.up ?_
  refine Calls.mono (Any.slices_Sort_int Tryz.laysSortInt g 0 cap l w (holdsInt hb h1 h3 h4) hb.lt (by omega)) fun e w' he=>?_
  obtain⟨rfl,n,os,rfl⟩:=he
  have:=Rel.putRow (B:=B') (σ:=[Y3 Q0 (.slice (some ⟨g,0,none⟩) l.length cap) l]) ⟨c,h'⟩ 0 (m:=l.length) (n:=n) (os:=os) (l':=eY l) rfl (nV l) (Nat.le_refl _)
  rw[List.take_of_length_le (by rw[nV];exact Nat.le_refl _)] at this
  exact k _ _ [] _ ⟨rfl,rfl,rfl⟩ this
end
end Go.Proofs.YtngbebnhegcokaaGreatDoor

