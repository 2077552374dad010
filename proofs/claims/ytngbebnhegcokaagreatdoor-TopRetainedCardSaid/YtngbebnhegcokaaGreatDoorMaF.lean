/-
  Part 6 of the proof that TopRetained holds, for the parts that follow; made small by program out of longer texts. No condition.
-/
import Derived.Deep.DeepHandedRow
import Derived.Deep.Slices
import Derived.Deep.Strs
import Derived.Ground.GgzProg
import Derived.Ground.Names2Prog
import Derived.Ground.NamesProg
import Derived.JoinedCond
import Derived.KernelRfl
import Derived.Laws.BytesString
import Derived.Laws.Externs
import Derived.Lib.AtoiAll
import Derived.Lib.AtoiAllCases
import Derived.Lib.ItoaNum
import Derived.Lib.LaidTab
import Derived.Lib.RowBridge
import Derived.Maps.RangeRun
import Derived.OpenShut
import Derived.OrdersHeld
import Derived.ProofKit
import Derived.Scope
import Derived.Shelf.Lay
import Derived.Shelf.SlIterI.Nil
import Derived.Shelf.SlMaps.Clone
import Derived.Shelf.Slices.CompactI
import Derived.Shelf.Slices.In.SortNone
import Derived.Shelf.Small.Strs
import Derived.Shelf.Small.Wraps
import Derived.Shelf.Sort.Plain
import Derived.Shelf.Strconv.AtoiAll
import Derived.Shelf.Strconv.Itoa3
import Derived.Shelf.Strings.BuilderK
import Derived.Test.YtngbebnhegcokaaGreatDoorCards
import Derived.Test.YtngbebnhegcokaaGreatDoorProg
import Derived.Test.YtngbebnhegcokaaGreatDoorRows
import Derived.Test.YtngbebnhegcokaaGreatDoorTie
import Derived.WalkKit
import Derived.WideLaws
import Derived.Test.YtngbebnhegcokaaGreatDoorMaE
namespace Go.Proofs.YtngbebnhegcokaaGreatDoor
open Go.RowKit
set_option maxRecDepth 100000
section
variable {B:Base}
theorem kC0(m:Nat):Makes Tryz.prog B (Z0 UC #[oO m]) fun u τ=>∃b,u = .func (.func y_) #[] #[ptr b]∧τ=[O1 b V6 #[oO m]]:=by
 refine Makes.intro fun B' w K base h k=>?_
 refine MB.up ?_
 unfold MB.pt
 refine h.box fun b w1 h=>?_
 simp -zeta only[TI]
 exact k _ _ _ ⟨b,rfl,rfl⟩ h
theorem oF0{n:Int}(h:inI n):(Lit.int .i64 n).wf=true:=by
 unfold Lit.wf
 simp only[Bool.and_eq_true,decide_eq_true_eq]
 exact⟨h.1,h.2⟩
abbrev du0:Value→Option (DataW Unit×List MemPlace):=fun _=>some (.nil,[])
theorem Qn0{e:Ent Int Int}(h:inI e.1):Go.WideElems.rd Tryz.prog Q0 du0 (JC e)=some (.int .i64 e.1,.nil):=by
 unfold Go.WideElems.rd
 have:keyOf Tryz.prog Q0 (JC e).key=some (.int .i64 e.1):=Go.Maps.keyOf_int_mk IV (oF0 h)
 rw[this]
 rfl
theorem mq0{l:List (Ent Int Int)}(hr:∀e∈l,inI e.1) :
  (Go.intKeys (DataW.map (((l.map JC).toArray.toList.map (Go.WideElems.rg Tryz.prog Q0 du0)).foldr DataW.insert []))).Perm (l.map (·.1)):=by
 show (List.map (fun p:Lit×DataW Unit=>Go.intOf p.1) _).Perm _
 refine(List.Perm.map _ (Go.WideShapes.sorted_perm _)).trans ?_
 rw[List.map_map]
 show (List.map _ (l.map JC)).Perm _
 rw[List.map_map]
 refine List.Perm.of_eq (List.map_congr_left fun e he=>?_)
 show Go.intOf (Go.WideElems.rg Tryz.prog Q0 du0 (JC e)).1=e.1
 unfold Go.WideElems.rg
 rw[Qn0 (hr e he)]
 rfl
theorem up0{m b c:Nat}{l:List (Ent Int Int)}(hb:O1 b V6 #[oO m] B)(hm:W9 m l c B)(hw:WfE l c)(hr:∀e∈l,inI e.1)(hl:l.length≤1000000) :
  Makes Tryz.prog B (Z0 sG #[.func (.func y_) #[] #[ptr b]]) fun u τ=>∃ss,ss.Perm (l.map (·.1))∧τ=[Y3 Q0 u ss]:=by
 refine Makes.intro fun B' w K base h k=>?_
 have hb:=h.L6 (base hb)
 have hm:=h.L6 (base hm)
 have hb2:w.heap[b]? = some (.cells #[oO m] V6 (0,0)):=hb.2
 have hm2:w.heap[m]? = some (.map (l.map JC).toArray c):=hm.2
 have hsz:(l.map JC).toArray.size=l.length:=by simp
 have hown:w.ownsMap Tryz.prog Q0 du0 m l.length (DataW.map (((l.map JC).toArray.toList.map (Go.WideElems.rg Tryz.prog Q0 du0)).foldr DataW.insert [])):=by
  refine⟨_,c,hm2,⟨by rw[hsz];unfold maxLen;omega,⟨fun x hx=>?_,?_,?_⟩,fun x hx=>?_⟩,by rw[hsz];exact Nat.le_refl _,rfl⟩
  ·obtain⟨e,he,rfl⟩:=List.mem_map.1 (show x∈l.map JC from hx)
   exact hw.below e he
  ·show (List.map _ (l.map JC)).Nodup
   rw[List.map_map]
   exact hw.stamps
  ·show (List.map _ (l.map JC)).Nodup
   rw[List.map_map]
   have:(l.map (Enc.val ∘ fun e:Ent Int Int=>e.1)).Nodup:=by
    rw[←List.map_map]
    exact hw.keys.map (f:=(Enc.val:Int→Value)) (fun a b hab e=>hab (by injection e))
   exact this
  ·obtain⟨e,he,rfl⟩:=List.mem_map.1 (show x∈l.map JC from hx)
   exact⟨_,Qn0 (hr e he)⟩
 have hlen:Go.Maps.size (DataW.map (((l.map JC).toArray.toList.map (Go.WideElems.rg (H:=Unit) Tryz.prog Q0 du0)).foldr DataW.insert []))=l.length:=by
  show (List.foldr DataW.insert [] _).length=_
  rw[(Go.WideShapes.sorted_perm _).length_eq]
  simp
 have hseq:=AnyZI.keys_gives (ρ:=Tryz.laysKeysI_ren) { Tryz.laysKeysI with } Fence.wide 1 trivial rfl (Nat.le_refl _) b m l.length _ w (Array.getElem?_eq_some_iff.1 hb2).1 (O1.oU hb (o:=0) rfl) hown
 have cS:=AnyZI.collect_in Tryz.laysCollectI Fence.wide 3 trivial trivial rfl (Nat.le_refl _) y_ #[ptr b] trivial Tryz.gn0 _ _ (by rw[hlen];unfold maxLen;omega) (by rw[hlen];omega) w hseq
 refine OY.up (Calls.mono (callsIn_wide.1 cS) ?_)
 rintro e w' ⟨v,ss,rfl,hS,hrow,_,hbl⟩
 refine k v _ w' ⟨ss,hS.trans (mq0 hr),rfl⟩ ?_
 obtain⟨cc,h⟩:=h
 refine⟨WF cc w.heap.size 1,h.push ⟨hbl.os,hbl.tape,hbl.output,hbl.size,fun j hj=>if_pos hj,fun j hj _=>hbl.block j hj⟩ ?_⟩
 rcases hrow.2 with⟨rfl,h0⟩ | ⟨g,cap,cur,rfl,hbase,hg,h1,h2,h3,h4⟩
 ·exact .inl ⟨rfl,List.eq_nil_of_length_eq_zero h0⟩
 ·refine .inr ⟨g,cap,cur,rfl,⟨if_neg (by omega),hg⟩,h1,h2,h3,?_⟩
  rw[jf0]
  exact h4
end
end Go.Proofs.YtngbebnhegcokaaGreatDoor

namespace Go.Proofs.YtngbebnhegcokaaGreatDoor
open Go.RowKit
set_option maxRecDepth 100000
structure aa0 (s:IS):Prop where
 in_:∀t,s.cnt t≠0→O9 s<t∧t≤s.top
theorem Oj0.keys{s:IS}{times:List Int}(h:Oj0 s times):aa0 s:=⟨fun t ht=>by
 have h1:=h.cnt t
 by_cases c:O9 s<t
 ·rw[if_pos c] at h1
  refine⟨c,h.top t ?_⟩
  have:0<times.count t:=by omega
  exact List.count_pos_iff.1 this
 ·rw[if_neg c] at h1;exact absurd h1 ht⟩
def CE(s:IS):List Int:=((List.range (s.top-O9 s).toNat).map fun i:Nat=>O9 s+1+(i:Int)).filter fun t=>decide (s.cnt t≠0)
theorem pU{s:IS}(h:aa0 s){t:Int}:t∈CE s↔s.cnt t≠0:=by
 unfold CE
 rw[List.mem_filter,decide_eq_true_iff,List.mem_map]
 constructor
 ·exact fun h=>h.2
 ·intro ht
  obtain⟨h1,h2⟩:=h.in_ t ht
  exact⟨⟨(t-O9 s-1).toNat,List.mem_range.2 (by omega),by omega⟩,ht⟩
theorem Li0(s:IS):(CE s).Pairwise (·<·):=by
 unfold CE
 refine List.Pairwise.filter _ ?_
 rw[List.pairwise_map]
 exact List.pairwise_lt_range.imp fun h=>by omega
theorem NU{s:IS}(h:uF s.cfg):s.top-O9 s≤10001 ∧ -1≤O9 s:=by
 have:=h.late
 unfold O9
 omega
theorem Ia0{s:IS}(h:uF s.cfg):(CE s).length≤10001:=by
 refine Nat.le_trans (List.length_filter_le _ _) ?_
 have:=(NU h).1
 simp
 omega
def nZ(s:IS)(t:Int):Bs:=encI t++encI (s.cnt t)
def Kx0(s:IS):Bs:=(((encI s.now++encI s.top)++encI s.next)++encI s.refused)++yB (bI s.prods)
def oZ(s:IS):Bs:=(Kx0 s++encI (CE s).length)++(CE s).flatMap (nZ s)
theorem Ac0{s:IS}(hk:aa0 s){l:List (Ent Int Int)}{c:Nat}(hc:iK s.cnt l c){ss:List Int}(hp:ss.Perm (l.map (·.1))):eY ss=CE s∧l.length=(CE s).length:=by
 have hnd:ss.Nodup:=hp.nodup_iff.2 hc.wf.keys
 have hmem:∀t,t∈ss↔s.cnt t≠0:=fun t=>by
  rw[hp.mem_iff,List.mem_map]
  have hg:=hc.get t
  constructor
  ·rintro⟨e,he,rfl⟩ h0
   rw[if_pos h0] at hg
   exact nU.1 hg e he rfl
  ·intro h0
   rw[if_neg h0] at hg
   obtain⟨b,hb⟩:=hc.wf.tf0.1 hg
   exact⟨_,hb,rfl⟩
 have e1:eY ss=CE s:=by
  refine Qg0 ?_ (Li0 s) fun t=>by rw[Vv0,hmem,pU hk]
  have h1:=List.pairwise_mergeSort (le:=fun x y:Int=>decide (x≤y)) (fun a b c h1 h2=>by simp at h1 h2 ⊢;omega) (fun a b=>by simp;omega) ss
  have h2:(eY ss).Nodup:=(List.mergeSort_perm ss _).nodup_iff.2 hnd
  refine(h1.and h2).imp fun {a b} hh=>?_
  have:=of_decide_eq_true hh.1
  have:=hh.2
  omega
 refine⟨e1,?_⟩
 rw[←e1,nV,hp.length_eq,List.length_map]
def rr0(cnt:Int→Int)(t n:Int):Int→Int:=fun x=>if x=t then n else cnt x
noncomputable def vW(top rate:Int):Nat→Int→(Int→Int)→RS→Option (Int→Int)
 | 0,_,cnt,r=>if aO r=true then some cnt else none
 | k+1,last,cnt,r=>if r.rest=[] then none else
  if(last+1≤(H5 r).1∧(H5 r).1≤top)∧1≤(H5 (H5 r).2).1∧(H5 (H5 r).2).1≤rate then vW top rate k (H5 r).1 (rr0 cnt (H5 r).1 (H5 (H5 r).2).1) (H5 (H5 r).2).2 else none
noncomputable def zi0(s:RS):((((Int×Int)×Int)×Int)×Bs)×RS:=IQ (IQ (IQ (IQ H5 H5) H5) H5) D8 s
theorem oy0:Rd2 (fun p:(((Int×Int)×Int)×Int)×Bs=>(((encI p.1.1.1.1++encI p.1.1.1.2)++encI p.1.1.2)++encI p.1.2)++yB p.2) (fun p=>(((inI p.1.1.1.1∧inI p.1.1.1.2)∧inI p.1.1.2)∧inI p.1.2)∧p.2.length≤9223372036854775807) zi0 :=
 (((mO.seq mO).seq mO).seq mO).seq PZ
open Classical in
noncomputable def En0(c:CfD)(ks:List Kn)(p:(((Int×Int)×Int)×Int)×Bs):Option IS :=
 if h:∃s,uV p.2 s then
  if YE p.1.1.1.1∧YE p.1.1.2∧(-1≤p.1.1.1.2∧p.1.1.1.2≤1099511627776)∧¬p.1.2<0 then some ⟨c,ks,p.1.1.1.1,p.1.1.1.2,p.1.1.2,p.1.2,h.choose,fun _=>0⟩ else none
 else none
noncomputable def wW(c:CfD)(ks:List Kn)(t:Bs):Option IS:=match En0 c ks (zi0 ⟨t,false⟩).1 with
 | none=>none
 | some s0=>(vW s0.top c.rate (qE (zi0 ⟨t,false⟩).2).1.toNat (O9 s0) s0.cnt (qE (zi0 ⟨t,false⟩).2).2).map fun f=>{ s0 with cnt:=f }
theorem ug0{s:IS}(hs:aa0 s)(hr:∀t,s.cnt t≤s.cfg.rate∧0≤s.cnt t)(hb:inI s.top∧inI s.cfg.rate ∧ -1≤O9 s):∀(l:List Int) (last:Int) (cnt:Int→Int),O9 s≤last→l.Pairwise (·<·)→(∀t∈l,last<t∧s.cnt t≠0) →
  vW s.top s.cfg.rate l.length last cnt ⟨l.flatMap (nZ s),false⟩=some (fun x=>if x∈l then s.cnt x else cnt x)
 | [],_,cnt,_,_,_=>by
  show vW _ _ 0 _ cnt ⟨[],false⟩=_
  rw[vW,if_pos (by rfl)]
  congr 1
 | t :: l,last,cnt,hcl,hp,hm=>by
  obtain⟨h1,h2⟩:=hm t List.mem_cons_self
  obtain⟨h3,h4⟩:=hs.in_ t h2
  obtain⟨h5,h6⟩:=hr t
  have hti:inI t:=by obtain⟨⟨_,_⟩,_⟩:=hb;constructor<;>omega
  have hci:inI (s.cnt t):=by obtain⟨_,⟨_,_⟩,_⟩:=hb;constructor<;>omega
  rw[List.length_cons,vW,List.flatMap_cons]
  unfold nZ
  have e1:H5 ⟨encI t++encI (s.cnt t)++l.flatMap (fun t=>encI t++encI (s.cnt t)),false⟩=(t,⟨encI (s.cnt t)++l.flatMap (fun t=>encI t++encI (s.cnt t)),false⟩):=by
   rw[List.append_assoc];exact yE hti _ false
  rw[e1]
  simp only
  rw[yE hci]
  simp only
  rw[if_neg (by simp [encI]),if_pos ⟨⟨by omega,h4⟩,by omega,h5⟩]
  have ih:=ug0 hs hr hb l t (rr0 cnt t (s.cnt t)) (by omega) (List.pairwise_cons.1 hp).2 fun x hx=>⟨(List.pairwise_cons.1 hp).1 x hx,(hm x (List.mem_cons_of_mem _ hx)).2⟩
  unfold nZ at ih
  rw[ih]
  congr 1
  funext x
  by_cases hx:x∈l
  ·rw[if_pos hx,if_pos (List.mem_cons_of_mem _ hx)]
  ·rw[if_neg hx]
   unfold rr0
   by_cases e:x=t
   ·subst e;rw[if_pos rfl,if_pos List.mem_cons_self]
   ·rw[if_neg e,if_neg (fun h=>(List.mem_cons.1 h).elim e hx)]
end Go.Proofs.YtngbebnhegcokaaGreatDoor

namespace Go.Proofs.YtngbebnhegcokaaGreatDoor
open Go.RowKit
set_option maxRecDepth 100000
structure fe0 (s:IS):Prop where
 cfg:uF s.cfg
 prods:DC s.prods
 now:inI s.now
 top : -1≤s.top∧s.top≤1099511627776
 next:inI s.next
 refused:inI s.refused
 cnt:∀t,0≤s.cnt t∧s.cnt t≤s.cfg.rate
 keys:aa0 s
theorem RN.fit{s:IS}(h:RN s)(hk:aa0 s):fe0 s:=by
 have h1:=h.now
 have h2:=h.next
 have h3:=h.refused
 exact⟨h.cfg,h.prods,⟨by omega,by omega⟩,h.top,⟨by omega,by omega⟩,⟨by omega,by omega⟩,h.cnt,hk⟩
theorem fe0.key{s:IS}(h:fe0 s){t:Int}(ht:t∈CE s):inI t∧inI (s.cnt t):=by
 have h1:=(pU h.keys).1 ht
 obtain⟨h2,h3⟩:=h.keys.in_ t h1
 have h4:=(NU h.cfg).2
 have h5:=h.top
 have h6:=h.cnt t
 have h7:=h.cfg.rate
 exact⟨⟨by omega,by omega⟩,⟨by omega,by omega⟩⟩
theorem bn0(s:IS):oZ s=Kx0 s++(encI (CE s).length++(CE s).flatMap (nZ s)):=by
 unfold oZ
 rw[List.append_assoc]
theorem Su0{s:IS}(h:fe0 s)(r:Bs):zi0 ⟨Kx0 s++r,false⟩=(((((s.now,s.top),s.next),s.refused),bI s.prods),⟨r,false⟩):=by
 have ht:=h.top
 have hti:inI s.top:=⟨by omega,by omega⟩
 have:=oy0.fore ((((s.now,s.top),s.next),s.refused),bI s.prods) r ⟨⟨⟨⟨h.now,hti⟩,h.next⟩,h.refused⟩,by have:=TU h.prods;show (bI s.prods).length≤_;omega⟩
 exact this
theorem Ci0{c:CfD}{ks:List Kn}{p:(((Int×Int)×Int)×Int)×Bs}{ps:List Pr}(h:uV p.2 ps)(hr:DC ps)(he:bI ps=p.2)(h1:YE p.1.1.1.1)(h2:YE p.1.1.2)(h3 : -1≤p.1.1.1.2∧p.1.1.1.2≤1099511627776)(h4:¬p.1.2<0) :
  En0 c ks p=some ⟨c,ks,p.1.1.1.1,p.1.1.1.2,p.1.1.2,p.1.2,ps,fun _=>0⟩:=by
 have hx:∃s,uV p.2 s:=⟨ps,h⟩
 unfold En0
 rw[dif_pos hx,if_pos ⟨h1,h2,h3,h4⟩]
 have:hx.choose=ps:=CA0 hr (by rw[he];exact hx.choose_spec)
 rw[this]
theorem dS{c:CfD}{ks:List Kn}{p:(((Int×Int)×Int)×Int)×Bs}(h:(∀s,¬uV p.2 s)∨¬(YE p.1.1.1.1∧YE p.1.1.2∧(-1≤p.1.1.1.2∧p.1.1.1.2≤1099511627776)∧¬p.1.2<0)):En0 c ks p=none:=by
 unfold En0
 rcases h with h | h
 ·rw[dif_neg fun⟨s,hs⟩=>h s hs]
 ·split
  ·first | rfl | rw[if_neg h]
  ·rfl
theorem Sq0{s:IS}(h:fe0 s)(h1:YE s.now)(h2:YE s.next)(h3:0≤s.refused):wW s.cfg s.known (oZ s)=some s:=by
 have ht:=h.top
 have hl:=Ia0 (s:=s) h.cfg
 have hr:=h.cfg.rate
 unfold wW
 rw[bn0,Su0 h]
 simp only
 rw[Ci0 (ps:=s.prods) (cG0 h.prods) h.prods rfl h1 h2 ht (by show ¬s.refused<0;omega)]
 simp only
 rw[pW (n:=((CE s).length:Int)) (by omega) ⟨by omega,by omega⟩]
 simp only[Int.toNat_natCast]
 have hcl:O9 ⟨s.cfg,s.known,s.now,s.top,s.next,s.refused,s.prods,fun _=>0⟩=O9 s:=rfl
 rw[hcl,ug0 h.keys (fun t=>⟨(h.cnt t).2,(h.cnt t).1⟩) ⟨⟨by omega,by omega⟩,⟨by omega,by omega⟩,(NU h.cfg).2⟩ (CE s) _ _ (Int.le_refl _) (Li0 s) fun t ht=>by
  have:=(pU h.keys).1 ht
  exact⟨(h.keys.in_ t this).1,this⟩]
 show some _=some _
 congr 1
 have:(fun x=>if x∈CE s then s.cnt x else 0)=s.cnt:=by
  funext x
  by_cases hx:x∈CE s
  ·rw[if_pos hx]
  ·rw[if_neg hx]
   have:=mt (pU h.keys).2 hx
   exact(Classical.not_not.1 this).symm
 rw[this]
end Go.Proofs.YtngbebnhegcokaaGreatDoor

namespace Go.Proofs.YtngbebnhegcokaaGreatDoor
open Go.RowKit
set_option maxRecDepth 100000
section
variable {B:Base} {w:World} {p:Nat} {s:IS}
theorem bw0{m b c:Nat}{l:List (Ent Int Int)}(hb:O1 b V6 #[oO m] B)(hm:W9 m l c B)(hw:WfE l c)(hr:∀e∈l,inI e.1)(hl:l.length≤1000000) :
  Makes Tryz.prog B (Z0 OL #[.func (.func y_) #[] #[ptr b]]) fun u τ=>∃ss,ss.Perm (l.map (·.1))∧τ=[Y3 Q0 u (eY ss)]:=by
 refine Makes.intro fun B' w K base h k=>?_
 refine YJ.up ?_
 unfold YJ.pt
 refine h.make (fun B2 own base2=>up0 (base2 (base hb)) (base2 (base hm)) hw hr hl) fun u τ w1 hp h=>?_
 obtain⟨ss,hp,rfl⟩:=hp
 have hlen:ss.length=l.length:=by rw[hp.length_eq,List.length_map]
 refine h.act 0 rfl (fun B2 own base2=>Qt0 (by omega)) fun u2 e' τ w2 hp2 h=>?_
 obtain⟨rfl,rfl,rfl⟩:=hp2
 exact k _ _ _ ⟨ss,hp,rfl⟩ h
theorem W9.iH0{w:World}{m c:Nat}{l:List (Ent Int Int)}{Kp:Value→Prop}{U:TypeId}{bs:Array Bool}(h:(W9 m l c).here w):Y0 Tryz.prog (M5 .len #[V6] U bs #[.map (some m)]) w Kp=Kp (.int .i64 l.length) :=
 Js0 (B:=⟨w,fun _=>False⟩) (w:=w) (σ:=[W9 m l c]) (κ:=Int) (ν:=Int) ⟨fun _=>1,rfl,rfl,rfl,Nat.le_refl _,fun _ hk=>hk.elim,fun _ hk=>hk.elim,fun i d hd=>by
  cases i with
  | zero=>cases hd;exact⟨rfl,h.2⟩
  | succ i=>simp at hd⟩ 0 rfl xC
set_option maxHeartbeats 1000000 in
theorem wy0(hB:VI B)(hI:intD p s B)(hf:fe0 s):Gives Tryz.prog B (Z0 zJ #[lb0 p]) (.string (ofL (oZ s))):=by
 refine Gives.intro fun B' w K base h k=>?_
 replace hB:=base hB
 obtain⟨kv,pv,m,l,c,hk,hc,hm,_,L,hL,rL,qL⟩:=intD.jP (base hI)
 refine uH.up ?_
 unfold uH.pt
 have h:=h.tick
 have hperm:=(Ac0 hf.keys hk (List.Perm.refl _)).2
 have hkl:=Ia0 (s:=s) hf.cfg
 have hll:l.length≤10001:=by omega
 have htop:inI s.top:=by have:=hf.top;constructor<;>omega
 have hin:inI (l.length:Int):=⟨by omega,by omega⟩
 have hwr:∀e∈l,inI e.1:=fun e he=>by
  have hg:SF e.1 l=some e.2.1:=jW hk.wf.keys he
  have hg2:=hk.get e.1
  rw[hg] at hg2
  by_cases h0:s.cnt e.1=0
  ·rw[if_pos h0] at hg2;cases hg2
  ·exact(hf.key ((pU hf.keys).2 h0)).1
 have l1:=Q6 hf.now
 have l2:=Q6 htop
 have l3:=Q6 hf.next
 have l4:=Q6 hf.refused
 have l5:=TU hf.prods
 have l6:=wE (bI s.prods) (by omega)
 have l7:=Q6 hin
 have hall:=xE (nZ s) (CE s) 42 fun t ht=>by
  have h1:=Q6 (hf.key ht).1
  have h2:=Q6 (hf.key ht).2
  unfold nZ
  rw[List.length_append]
  omega
 have en:gd0 (l.length:Int)=encI l.length:=by unfold gd0;rw[if_neg (by omega)]
 have is:∀{w:World} {σ:List Dat} {o:Nat} {T:TypeId} {x:Value},Rel B' w σ→scB Tryz.prog T=true→(ics s kv pv m).toList[o]? = some x→Is Tryz.prog (X0 T (.pointer (some ⟨p,o,none⟩))) x w:=fun h ht hx=>O1.is (h.L6 hc) ht hx
 simp -zeta only[J5,U0 vG,U0 wG,U0 NJ,U0 dO,U0 xG,U0 XD,Nat.zero_add,
  O1.ld (h.L6 hc) Y2 (o:=7) (v := .int .i64 s.now) rfl,O1.ld (h.L6 hc) Y2 (o:=8) (v := .int .i64 s.top) rfl,O1.ld (h.L6 hc) Y2 (o:=9) (v := .int .i64 s.next) rfl,O1.ld (h.L6 hc) Y2 (o:=10) (v := .int .i64 s.refused) rfl,
  O1.ld (h.L6 hc) g_ (o:=11) (v:=pv.1) rfl,O1.ld (h.L6 hc) o_ (o:=12) (v:=oO m) rfl]
 refine h.ask (fun B2 own base2=>wC (base2 hB) hf.now) fun w1 h=>?_
 refine⟨is h o_ rfl,is h g_ rfl,is h Y2 rfl,is h Y2 rfl,is h Y2 rfl,?_⟩
 refine h.ask (fun B2 own base2=>wC (base2 hB) htop) fun w2 h=>?_
 refine⟨is h o_ rfl,is h g_ rfl,is h Y2 rfl,is h Y2 rfl,?_⟩
 rw[C9 (by omega)]
 refine h.ask (fun B2 own base2=>wC (base2 hB) hf.next) fun w3 h=>?_
 refine⟨is h o_ rfl,is h g_ rfl,is h Y2 rfl,?_⟩
 rw[C9 (by simp only[List.length_append];omega)]
 refine h.ask (fun B2 own base2=>wC (base2 hB) hf.refused) fun w4 h=>?_
 refine⟨is h o_ rfl,is h g_ rfl,?_⟩
 rw[C9 (by simp only[List.length_append];omega)]
 refine h.ask (fun B2 own base2=>Ug0 (base2 hB) (base2 rL) (base2 qL) (by rw[hL];exact hf.prods)) fun w5 h=>?_
 rw[hL]
 refine⟨is h o_ rfl,?_⟩
 refine h.ask (fun B2 own base2=>gT (base2 hB) (by omega)) fun w6 h=>?_
 refine⟨is h o_ rfl,?_⟩
 rw[C9 (by simp only[List.length_append];omega),W9.iH0 (h.L6 hm)]
 refine h.ask (fun B2 own base2=>fh0 (base2 hB) hin) fun w7 h=>?_
 refine⟨is h Y2 rfl,is h Y2 rfl,?_⟩
 rw[en,C9 (by simp only[List.length_append];omega)]
 simp -zeta only[O1.ld (h.L6 hc) o_ (o:=12) (v:=oO m) rfl]
 refine h.make (fun B2 own base2=>kC0 m) fun u τ w8 hp h=>?_
 obtain⟨b,rfl,rfl⟩:=hp
 refine h.make (fun B2 own base2=>bw0 (own (i:=0) rfl) (base2 hm) hk.wf hwr (by omega)) fun u τ w9 hp h=>?_
 obtain⟨ss,hss,rfl⟩:=hp
 rw[(Ac0 hf.keys hk hss).1] at h
 have h:Rel B' w9 [Y3 Q0 u (CE s)]:=h.pick [1] (by decide)
 have ehd:oZ s=((((((encI s.now++encI s.top)++encI s.next)++encI s.refused)++yB (bI s.prods))++encI (l.length:Int))++(CE s).flatMap (nZ s)):=by
  unfold oZ Kx0
  rw[hperm]
 rw[ehd] at k
 generalize hhd:((((((encI s.now++encI s.top)++encI s.next)++encI s.refused)++yB (bI s.prods))++encI (l.length:Int)))=hd at *
 have hhl:hd.length≤100000:=by rw[←hhd];simp only[List.length_append];omega
 rw[O4.len (Y3.read (h.here (i:=0) rfl)) N8]
 refine F6 (fun x w'=>∃i:Nat,i≤(CE s).length∧x=(.string (ofL (hd++((CE s).take i).flatMap (nZ s))),.int .i64 i,())∧Rel B' w' [Y3 Q0 u (CE s)]) (fun x _=>(CE s).length-(match x.2.1 with | .int _ n=>n.toNat | _=>0))
  ⟨0,Nat.zero_le _,by rw[List.take_zero,List.flatMap_nil,List.append_nil];rfl,h⟩ ?_
 clear h
 rintro x w10 ⟨i,hi,rfl,h⟩ next hnext
 simp -zeta only[G6]
 rw[K3]
 refine⟨fun hlt=>?_,fun hge=>?_⟩
 ·have hil:i<(CE s).length:=by omega
  have hkey:=hf.key (List.getElem_mem hil)
  have m1:=Q6 hkey.1
  have m2:=Q6 hkey.2
  have hstep:=jI (nZ s) (l:=CE s) (i:=i) hil
  have hle:=QE (nZ s) (CE s) i
  obtain⟨g2,o2,hx2,hc2⟩:=O4.idx (Y3.read (h.here (i:=0) rfl)) N8 (P:=Tryz.prog) hil
  have hc2:(K6 g2 o2 [.int .i64 (CE s)[i]]).here w10:=hc2
  simp -zeta only[hx2,K6.ld0 hc2 Y2 rfl]
  have h:=h.tick
  simp -zeta only[O1.ld (h.L6 hc) o_ (o:=12) (v:=oO m) rfl]
  rw[W9.look (h.L6 hm) xC Af0 0 Lj0 (CE s)[i],hk.getD]
  refine h.ask (fun B2 own base2=>wC (base2 hB) hkey.1) fun w11 h=>?_
  refine⟨Cy0 fun {K}=>by rw[W9.look (h.L6 hm) xC Af0 0 Lj0 (CE s)[i],hk.getD],is h o_ rfl,?_⟩
  refine h.ask (fun B2 own base2=>wC (base2 hB) hkey.2) fun w12 h=>?_
  rw[C9 (by omega),C9 (by simp only[List.length_append];omega),Z5,E5 (by omega) (by omega)]
  refine hnext _ _ ⟨i+1,by omega,?_,h⟩ (by simp only;omega)
  rw[hstep]
  unfold nZ
  simp only[List.append_assoc]
  rfl
 ·have hie:i=(CE s).length:=by omega
  subst hie
  rw[List.take_length]
  exact k _ _ h.nil
end
end Go.Proofs.YtngbebnhegcokaaGreatDoor

namespace Go.Proofs.YtngbebnhegcokaaGreatDoor
open Go.RowKit Go.Shelf
set_option maxRecDepth 100000
end Go.Proofs.YtngbebnhegcokaaGreatDoor

namespace Go.Proofs.YtngbebnhegcokaaGreatDoor
open Go.RowKit
set_option maxRecDepth 100000
theorem mA0{x y:Int}{l:List (Ent Int Int)}{c:Nat}(h:SF x l=none):WL x y l c=(l++[(x,y,c)],c+1):=by
 have:QC x l 0=none:=by
  unfold SF at h
  cases hf:QC x l 0 with
  | none=>rfl
  | some q=>rw[hf] at h;cases h
 unfold WL
 rw[this]
theorem in0{x z:Int}{l:List (Ent Int Int)}{c:Nat}:∃e∈(dI x z l c).1,e.2.2=(dI x z l c).2.2.1:=by
 unfold dI
 cases hf:QC x l 0 with
 | none=>exact⟨(x,z,c),List.mem_append_right _ (by simp),rfl⟩
 | some q =>
  obtain⟨h1,_,_⟩:=lD (i:=q.1) (v:=q.2) hf
  refine⟨l[q.1],List.getElem_mem h1,?_⟩
  show _=((l[q.1]?).map (·.2.2)).getD 0
  rw[List.getElem?_eq_getElem h1]
  rfl
theorem iK.upd{cnt:Int→Int}{l:List (Ent Int Int)}{c:Nat}(h:iK cnt l c){t n:Int}(hn:n≠0):iK (rr0 cnt t n) (WL t n l c).1 (WL t n l c).2:=by
 refine⟨h.wf.set _ _,fun x=>?_⟩
 rw[xU h.wf.keys]
 unfold rr0
 by_cases hx:x=t
 ·rw[if_pos hx,if_pos hx,if_neg hn]
 ·rw[if_neg hx,if_neg hx,h.get]
section
variable {B:Base} {w:World} {p:Nat}
set_option maxHeartbeats 2000000 in
theorem eC0(hB:qC B)(c:CfD){v:Value}{ks:List Kn}(hkn:JA v ks B)(hf:iB0 ks){t:Bs}(ht:t.length≤1000000) :
  Makes Tryz.prog B (Z0 iT #[.agg c.cs.toArray,v,.string (ofL t)]) fun u τ=>(uF c∧∃s p,wW c ks t=some s∧u = .tuple #[lb0 p,.bool true]∧τ=[intD p s])∨((uF c→wW c ks t=none)∧u = .tuple #[.pointer none,.bool false]∧τ=[]):=by
 refine Makes.intro fun B' w K base h k=>?_
 replace hB:=base hB
 refine PS.up ?_
 unfold PS.pt
 refine h.box fun o w1 h=>?_
 have h:Rel B' w1 [O1 o V4 c.cs.toArray]:=h
 rw[h.r9 0 rfl uD rfl]
 refine h.make (fun B2 own base2=>TD0 c (base2 (base hkn)) hf) fun u τ w2 hp h=>?_
 rcases hp with⟨hR,p,rfl,rfl⟩ | ⟨hR,rfl,rfl⟩
 case inr =>
  rw[zC0,lC]
  exact k _ _ _ (.inr ⟨fun hh=>absurd hh hR,rfl,rfl⟩) h.nil
 rw[iC0,d_]
 have no:wW c ks t=none→∀w' σ,Rel B' w' σ→K (.tuple #[.pointer none,.bool false]) w':=fun e w' σ h=>k _ _ _ (.inr ⟨fun _=>e,rfl,rfl⟩) h.nil
 have yes:∀s,wW c ks t=some s→∀w',Rel B' w' [intD p s]→K (.tuple #[lb0 p,.bool true]) w':=fun s e w' h=>k _ _ _ (.inl ⟨hR,s,p,e,rfl,rfl⟩) h
 clear k
 refine h.make (fun B2 own base2=>WT) fun u τ w3 hp h=>?_
 obtain⟨q,rfl,rfl⟩:=hp
 have h:Rel B' w3 [O1 o V4 c.cs.toArray,intD p (YP c ks),rdD q ⟨t,false⟩]:=h
 have q0:(⟨t,false⟩:RS).rest.length=t.length:=rfl
 have q1:=YD ⟨t,false⟩
 have q2:=YD (H5 ⟨t,false⟩).2
 have q3:=YD (H5 (H5 ⟨t,false⟩).2).2
 have q4:=YD (H5 (H5 (H5 ⟨t,false⟩).2).2).2
 have q5:=AU (H5 (H5 (H5 (H5 ⟨t,false⟩).2).2).2).2
 have q6:=Od0 (D8 (H5 (H5 (H5 (H5 ⟨t,false⟩).2).2).2).2).2
 refine h.rd_ 2 rfl (fun B2 own base2=>mD (base2 hB) (by omega)) fun w4 h=>?_
 refine h.rd_ 2 rfl (fun B2 own base2=>mD (base2 hB) (by omega)) fun w5 h=>?_
 refine h.rd_ 2 rfl (fun B2 own base2=>mD (base2 hB) (by omega)) fun w6 h=>?_
 refine h.rd_ 2 rfl (fun B2 own base2=>mD (base2 hB) (by omega)) fun w7 h=>?_
 have hdef:zi0 ⟨t,false⟩=((((((H5 ⟨t,false⟩).1,(H5 (H5 ⟨t,false⟩).2).1),(H5 (H5 (H5 ⟨t,false⟩).2).2).1),(H5 (H5 (H5 (H5 ⟨t,false⟩).2).2).2).1),(D8 (H5 (H5 (H5 (H5 ⟨t,false⟩).2).2).2).2).1),(D8 (H5 (H5 (H5 (H5 ⟨t,false⟩).2).2).2).2).2):=rfl
 unfold wW at no yes
 rw[hdef] at no yes
 simp only at no yes
 have htl:(D8 (H5 (H5 (H5 (H5 ⟨t,false⟩).2).2).2).2).1.length≤t.length:=by omega
 have hrl:(D8 (H5 (H5 (H5 (H5 ⟨t,false⟩).2).2).2).2).2.rest.length≤t.length:=by omega
 have h4l:(H5 (H5 (H5 (H5 ⟨t,false⟩).2).2).2).2.rest.length≤t.length:=by omega
 have h:Rel B' w7 [O1 o V4 c.cs.toArray,intD p (YP c ks),rdD q (H5 (H5 (H5 (H5 ⟨t,false⟩).2).2).2).2]:=h
 have rdT:∀{K:Value→World→Prop} {w:World} {σ:List Dat},Rel B' w (rdD q (H5 (H5 (H5 (H5 ⟨t,false⟩).2).2).2).2 :: σ)→(∀w',Rel B' w' (rdD q (D8 (H5 (H5 (H5 (H5 ⟨t,false⟩).2).2).2).2).2 :: σ)→K (.string (ofL (D8 (H5 (H5 (H5 (H5 ⟨t,false⟩).2).2).2).2).1)) w')→upK Tryz.prog (Z0 y8 #[uS q]) w K:=fun h kk=>h.rd_ 0 rfl (fun B2 own base2=>iR (base2 hB) (by omega)) kk
 clear hdef q0 q1 q2 q3 q4 q5 q6
 generalize D8 (H5 (H5 (H5 (H5 ⟨t,false⟩).2).2).2).2=y5 at *
 generalize H5 (H5 (H5 (H5 ⟨t,false⟩).2).2).2=y4 at *
 generalize H5 (H5 (H5 ⟨t,false⟩).2).2=y3 at *
 generalize H5 (H5 ⟨t,false⟩).2=y2 at *
 generalize H5 ⟨t,false⟩=y1 at *
 obtain⟨tx,r5⟩:=y5
 obtain⟨x4,r4⟩:=y4
 obtain⟨x3,r3⟩:=y3
 obtain⟨x2,r2⟩:=y2
 obtain⟨x1,r1⟩:=y1
 simp only at no yes htl hrl h4l h rdT
 have h:=h.pick [0,2,1] (by decide)
 have h:Rel B' w7 ([O1 o V4 c.cs.toArray,rdD q r4]++[intD p (YP c ks)]):=h
 obtain⟨kv,pv,m,l,cc,hk,h⟩:=intD.nS h
 have h:Rel B' w7 [O1 o V4 c.cs.toArray,rdD q r4,O1 p O3 (ics (YP c ks) kv pv m),W9 m l cc,JA kv.1 ks,GJ pv.1 []]:=h
 simp -zeta only[J5,U0 vG,U0 wG,U0 NJ,U0 dO,U0 xG,Nat.zero_add]
 refine h.st 2 rfl Y2 (show 7<13 by omega) rfl fun w8 h=>?_
 refine h.st 2 rfl Y2 (show 8<13 by omega) rfl fun w9 h=>?_
 refine h.st 2 rfl Y2 (show 9<13 by omega) rfl fun w10 h=>?_
 refine h.st 2 rfl Y2 (show 10<13 by omega) rfl fun w11 h=>?_
 have h:=h.pick [1,0,2,3,4] (by decide)
 have h:Rel B' w11 [rdD q r4,O1 o V4 c.cs.toArray,O1 p O3 (ics ⟨c,ks,x1,x2,x3,x4,[],fun _=>0⟩ kv pv m),W9 m l cc,JA kv.1 ks]:=h
 refine rdT h fun w12 h=>?_
 refine h.make (fun B2 own base2=>gw0 (base2 hB) (by omega)) fun u τ w13 hp h=>?_
 rcases hp with⟨ps,tv,hT,rfl,hown⟩ | ⟨hT,rfl,rfl⟩
 case inr =>
  simp -zeta only[M9,D9]
  refine h.st 2 rfl g_ (show 11<13 by omega) rfl fun w14 h=>?_
  rw[V7,Bool.not_false,lC]
  exact no (by rw[dS (.inl hT)]) _ _ h
 simp -zeta only[M9,D9]
 have h:=hown _ _ _ h
 have h:Rel B' w13 [rdD q r5,O1 o V4 c.cs.toArray,O1 p O3 (ics ⟨c,ks,x1,x2,x3,x4,[],fun _=>0⟩ kv pv m),W9 m l cc,JA kv.1 ks,GJ tv ps]:=h
 have htv:tv.oneCell'=true:=GJ.oneCell (h.here (i:=5) rfl)
 refine h.st 2 rfl g_ (show 11<13 by omega) htv fun w14 h=>?_
 have h:Rel B' w14 [rdD q r5,O1 o V4 c.cs.toArray,O1 p O3 (ics ⟨c,ks,x1,x2,x3,x4,ps,fun _=>0⟩ kv ⟨tv,htv⟩ m),W9 m l cc,JA kv.1 ks,GJ tv ps]:=h
 rw[V7,Bool.not_true,d_]
 simp -zeta only[h.ld 2 rfl Y2 (o:=7) (v := .int .i64 x1) rfl]
 refine h.ask (fun _ _ _=>xZ x1) fun w15 h=>?_
 rw[V7,G5,K3]
 refine⟨fun c1=>?_,fun c1=>no (by rw[dS (.inr fun hh=>c1 hh.1)]) _ _ h⟩
 simp -zeta only[h.ld 2 rfl Y2 (o:=9) (v := .int .i64 x3) rfl]
 refine h.ask (fun _ _ _=>xZ x3) fun w16 h=>?_
 rw[V7,G5,K3]
 refine⟨fun c2=>?_,fun c2=>no (by rw[dS (.inr fun hh=>c2 hh.2.1)]) _ _ h⟩
 simp -zeta only[h.ld 2 rfl Y2 (o:=8) (v := .int .i64 x2) rfl]
 refine h.ask (fun _ _ _=>ZO x2 (-1) 1099511627776) fun w17 h=>?_
 rw[V7,G5,K3]
 refine⟨fun c3=>?_,fun c3=>no (by rw[dS (.inr fun hh=>c3 hh.2.2.1)]) _ _ h⟩
 simp -zeta only[h.ld 2 rfl Y2 (o:=10) (v := .int .i64 x4) rfl]
 rw[G6,K3]
 refine⟨fun c4=>no (by rw[dS (.inr fun hh=>hh.2.2.2 c4)]) _ _ h,fun c4=>?_⟩
 obtain⟨ok1,ok2,_⟩:=id hT
 rw[Ci0 (ps:=ps) hT ok1 ok2 c1 c2 c3 c4] at no yes
 simp only at no yes
 refine h.ask (fun B2 own base2=>ZW (own (i:=2) rfl) hR c3) fun w18 h=>?_
 have n0:0≤(qE r5).1:=(zB (.inl rfl:bE 59) 0 r5).2.2 (Int.le_refl 0)
 have nI:inI (qE r5).1:=(zB (.inl rfl:bE 59) 0 r5).2.1
 have q6:=Od0 r5
 refine h.rd_ 0 rfl (fun B2 own base2=>CY (base2 hB) (by omega)) fun w19 h=>?_
 have h:Rel B' w19 [rdD q (qE r5).2,O1 o V4 c.cs.toArray,O1 p O3 (ics ⟨c,ks,x1,x2,x3,x4,ps,fun _=>0⟩ kv ⟨tv,htv⟩ m),W9 m l cc,JA kv.1 ks,GJ tv ps]:=h
 generalize qE r5=y6 at *
 obtain⟨n,r6⟩:=y6
 simp only at no yes n0 nI q6 h
 obtain⟨N,rfl⟩:∃N:Nat,n=N:=⟨n.toNat,by omega⟩
 rw[Int.toNat_natCast] at no yes
 have hgap:=NU (s:=⟨c,ks,x1,x2,x3,x4,ps,fun _=>0⟩) hR
 have hcle:O9 ⟨c,ks,x1,x2,x3,x4,ps,fun _=>0⟩≤1099511627776:=by
  have:=hR.late
  show max (-1) (x2-c.late-1)≤_
  omega
 have hc0:=hgap.2
 clear hgap
 have h0:l.length=0:=by
  rcases Nat.eq_zero_or_pos l.length with e | e
  ·exact e
  ·have hm:=jW hk.wf.keys (List.getElem_mem e)
   rw[hk.get,if_pos (show (YP c ks).cnt l[0].1=0 from rfl)] at hm
   cases hm
 refine P6 fun J hJ=>?_
 replace hJ:∀(cnt:Int→Int) (r:RS) (l:List (Ent Int Int)) (cc:Nat) w',iK cnt l cc→vW x2 c.rate N (O9 ⟨c,ks,x1,x2,x3,x4,ps,fun _=>0⟩) (fun _=>0) r6=(if aO r=true∧l.length=N then some cnt else none) →
   Rel B' w' [rdD q r,O1 o V4 c.cs.toArray,O1 p O3 (ics ⟨c,ks,x1,x2,x3,x4,ps,fun _=>0⟩ kv ⟨tv,htv⟩ m),W9 m l cc,JA kv.1 ks,GJ tv ps]→J () w':=by
  clear h hk h0
  intro cnt r l cc w' hk hfin h
  refine hJ _ _ ?_
  rw[hfin] at no yes
  refine h.ask (fun B2 own base2=>dR (own (i:=0) rfl)) fun w20 h=>?_
  rw[V7,G5,R5]
  refine⟨fun c5=>?_,fun c5=>no (by rw[if_neg (fun hh=>by rw[hh.1] at c5;cases c5)];rfl) _ _ h⟩
  simp -zeta only[U0 XD,Nat.zero_add,h.ld 2 rfl o_ (o:=12) (v:=oO m) rfl]
  rw[Js0 h 3 rfl xC,Q7,G5,K3]
  refine⟨fun c6=>?_,fun c6=>no (by rw[if_neg (fun hh=>c6 (by rw[hh.2]))];rfl) _ _ h⟩
  have h:=h.pick [2,3,4,5] (by decide)
  have h:Rel B' w20 [O1 p O3 (ics ⟨c,ks,x1,x2,x3,x4,ps,cnt⟩ kv ⟨tv,htv⟩ m),W9 m l cc,JA kv.1 ks,GJ tv ps]:=h
  exact yes ⟨c,ks,x1,x2,x3,x4,ps,cnt⟩ (by rw[if_pos ⟨c5,by omega⟩];rfl) _ (intD.close hk h)
 refine F6 (fun x w'=>∃(i:Nat) (last:Int) (cnt:Int→Int) (r:RS) (l:List (Ent Int Int)) (cc:Nat),i≤N∧x=(.int .i64 last,.int .i64 i,())∧iK cnt l cc∧l.length=i∧(∀y,cnt y≠0→y≤last)∧(-1≤last∧last≤1099511627776) ∧
   vW x2 c.rate (N-i) last cnt r=vW x2 c.rate N (O9 ⟨c,ks,x1,x2,x3,x4,ps,fun _=>0⟩) (fun _=>0) r6∧r.rest.length≤t.length ∧
   Rel B' w' [rdD q r,O1 o V4 c.cs.toArray,O1 p O3 (ics ⟨c,ks,x1,x2,x3,x4,ps,fun _=>0⟩ kv ⟨tv,htv⟩ m),W9 m l cc,JA kv.1 ks,GJ tv ps]) (fun x _=>N-(match x.2.1 with | .int _ n=>n.toNat | _=>0))
  ⟨0,_,fun _=>0,r6,l,cc,Nat.zero_le _,rfl,hk,h0,fun y hy=>absurd rfl hy,⟨hc0,hcle⟩,rfl,by omega,h⟩ ?_
 clear h hk h0
 rintro x w21 ⟨i,last,cnt,r,l,cc,hi,rfl,hk,hl,hlast,hbl,hev,hsl,h⟩ next hnext
 rw[G6,K3]
 refine⟨fun hlt=>?_,fun hge=>?_⟩
 case refine_2 =>
  have e0:N-i=0:=by omega
  rw[e0,vW] at hev
  refine hJ cnt r l cc _ hk ?_ h
  rw[←hev]
  by_cases hd:aO r=true
  ·rw[if_pos hd,if_pos ⟨hd,by omega⟩]
  ·rw[if_neg hd,if_neg fun hh=>hd hh.1]
 obtain⟨k',hk'⟩:∃k',N-i=k'+1:=⟨N-i-1,by omega⟩
 rw[hk',vW] at hev
 refine h.ask (fun B2 own base2=>eX (own (i:=0) rfl)) fun w22 h=>?_
 rw[x9,K3]
 refine⟨fun hpos=>?_,fun hnp=>?_⟩
 case refine_2 =>
  have hnil:r.rest=[]:=List.eq_nil_of_length_eq_zero (by omega)
  rw[if_pos hnil] at hev
  refine hJ cnt r l cc _ hk ?_ h
  rw[←hev,if_neg fun hh=>by omega]
 have hne:¬r.rest=[]:=fun e=>by rw[e] at hpos;exact absurd hpos (by decide)
 rw[if_neg hne] at hev
 have z1:=YD r
 have z2:=YD (H5 r).2
 refine h.rd_ 0 rfl (fun B2 own base2=>mD (base2 hB) (by omega)) fun w23 h=>?_
 refine h.rd_ 0 rfl (fun B2 own base2=>mD (base2 hB) (by omega)) fun w24 h=>?_
 have h:Rel B' w24 [rdD q (H5 (H5 r).2).2,O1 o V4 c.cs.toArray,O1 p O3 (ics ⟨c,ks,x1,x2,x3,x4,ps,fun _=>0⟩ kv ⟨tv,htv⟩ m),W9 m l cc,JA kv.1 ks,GJ tv ps]:=h
 have z3:(H5 (H5 r).2).2.rest.length≤t.length:=by omega
 clear z1 z2
 generalize hR2:(H5 (H5 r).2)=y2 at *
 generalize hR1:H5 r=y1 at *
 obtain⟨M,r8⟩:=y2
 obtain⟨T,r7⟩:=y1
 simp only at hev h z3
 rw[Z5,E5 (by omega) (by omega)]
 simp -zeta only[U0 wG,Nat.zero_add,h.ld 2 rfl Y2 (o:=8) (v := .int .i64 x2) rfl]
 refine h.ask (fun _ _ _=>ZO T (last+1) x2) fun w25 h=>?_
 rw[V7,G5,K3]
 refine⟨fun c5=>?_,fun c5=>no (by rw[←hev,if_neg fun hh=>c5 hh.1];rfl) _ _ h⟩
 simp -zeta only[U0 bS,Nat.zero_add,h.ld 1 rfl Y2 (o:=4) (v := .int .i64 c.rate) rfl]
 refine h.ask (fun _ _ _=>ZO M 1 c.rate) fun w26 h=>?_
 rw[V7,G5,K3]
 refine⟨fun c6=>?_,fun c6=>no (by rw[←hev,if_neg fun hh=>c6 hh.2];rfl) _ _ h⟩
 rw[if_pos ⟨c5,c6⟩] at hev
 simp -zeta only[U0 XD,Nat.zero_add,h.ld 2 rfl o_ (o:=12) (v:=oO m) rfl]
 refine h.mapEntry 3 rfl xC Af0 0 Lj0 T fun w27 h=>?_
 rw[D9]
 refine h.entryStore 3 rfl in0 M fun w28 h=>?_
 obtain⟨es1,es2⟩:=kc0 (x:=T) (y:=M) (z:=(0:Int)) hk.wf
 have hg:SF T l=none:=by
  rw[hk.get]
  by_cases e:cnt T=0
  ·rw[if_pos e]
  ·exact absurd (hlast T e) (by omega)
 have hlen:(WL T M l cc).1.length=i+1:=by rw[mA0 hg,List.length_append,hl];rfl
 have h:Rel B' w28 [rdD q r8,O1 o V4 c.cs.toArray,O1 p O3 (ics ⟨c,ks,x1,x2,x3,x4,ps,fun _=>0⟩ kv ⟨tv,htv⟩ m),W9 m (oV (dI T 0 l cc).2.2.1 M (dI T 0 l cc).1) (dI T 0 l cc).2.1,JA kv.1 ks,GJ tv ps]:=h
 rw[es1,es2] at h
 rw[Z5,E5 (by omega) (by omega)]
 refine hnext _ _ ⟨i+1,T,rr0 cnt T M,r8,_,_,by omega,rfl,hk.upd (by omega),hlen,fun y hy=>?_,⟨by omega,by omega⟩,by rw[show N-(i+1)=k' by omega];exact hev,z3,h⟩ (by simp only;omega)
 unfold rr0 at hy
 by_cases e:y=T
 ·omega
 ·rw[if_neg e] at hy
  have:=hlast y hy
  omega
end
end Go.Proofs.YtngbebnhegcokaaGreatDoor

namespace Go.Proofs.YtngbebnhegcokaaGreatDoor
open Go.RowKit
set_option maxRecDepth 100000
end Go.Proofs.YtngbebnhegcokaaGreatDoor

namespace Go.Proofs.YtngbebnhegcokaaGreatDoor
open Go.RowKit
set_option maxRecDepth 100000
theorem Rd2.map{α β:Type}{enc:α→Bs}{good:α→Prop}{one:RS→α×RS}(h:Rd2 enc good one)(f:α→β)(g:β→α)(hfg:∀b,f (g b)=b)(hgf:∀a,g (f a)=a):Rd2 (fun b=>enc (g b)) (fun b=>good (g b)) (fun s=>(f (one s).1,(one s).2)):=by
 refine⟨fun s hb=>?_,fun x r hx=>?_⟩
 ·obtain⟨h1,h2,h3⟩:=h.back s hb
  exact⟨h1,by simp only[hgf];exact h2,by simp only[hgf];exact h3⟩
 ·show (f (one ⟨enc (g x)++r,false⟩).1,(one ⟨enc (g x)++r,false⟩).2)=_
  rw[h.fore _ _ hx,hfg]
def vOf(x:(Int×Int)×Bs):OD:=⟨x.1.1,x.1.2,ofL x.2⟩
def vTo(v:OD):(Int×Int)×Bs:=((v.kind,v.n),bl v.s)
theorem FD0(v:OD):vOf (vTo v)=v:=by
 obtain⟨k,n,s⟩:=v
 show (⟨k,n,ofL (bl s)⟩:OD)=_
 rw[fV]
def XR(v:OD):Bs:=encI v.kind++encI v.n++yB (bl v.s)
structure VK (v:OD):Prop where
 kind:inI v.kind
 n:inI v.n
 s:(bl v.s).length≤9223372036854775807
noncomputable def MW(s:RS):OD×RS:=(vOf (IQ (IQ H5 H5) D8 s).1,(IQ (IQ H5 H5) D8 s).2)
theorem de0:Rd2 XR VK MW:=by
 have h:=((mO.seq mO).seq PZ).map vOf vTo FD0 fun x=>rfl
 exact⟨fun s hb=>by
  obtain⟨h1,h2,h3⟩:=h.back s hb
  exact⟨h1,h2,⟨h3.1.1,h3.1.2,h3.2⟩⟩,fun x r hx=>h.fore x r ⟨⟨hx.kind,hx.n⟩,hx.s⟩⟩
def dG(l:List OD):Bs:=encI l.length++l.flatMap XR
theorem ui0(v:OD):0<(XR v).length:=by
 unfold XR
 have:=RV v.kind
 simp only[List.length_append]
 omega
noncomputable def uO(t:Bs):Option (List OD) :=
 let n:=qE ⟨t,false⟩
 let p:=IK MW n.1.toNat [] n.2
 if aO p.2=true then some p.1 else none
theorem Mc0{l:List OD}(hl:l.length≤9223372036854775807)(hg:∀v∈l,VK v):uO (dG l)=some l:=by
 unfold uO dG
 rw[pW (by omega) ⟨by omega,by omega⟩]
 have h:=de0.Bj0 l [] [] hg
 rw[List.append_nil,List.nil_append] at h
 simp only[Int.toNat_natCast,h]
 rfl
theorem ol0{t:Bs}{l:List OD}(h:uO t=some l):dG l=t∧∀v∈l,VK v:=by
 unfold uO at h
 simp only at h
 split at h
 ·rename_i hd
  injection h with h
  obtain⟨d1,d2⟩:=Zm0 hd
  obtain⟨b1,l2,l1,l2',l3,l4⟩:=de0.times _ _ _ d1
  obtain⟨_,c2,c3⟩:=Ns0.back _ b1
  rw[List.nil_append] at l2'
  rw[l2'] at h
  subst h
  refine⟨?_,l4⟩
  unfold dG
  have hn:(l2.length:Int)=(qE ⟨t,false⟩).1:=by omega
  have e:t=encI (qE ⟨t,false⟩).1++(qE ⟨t,false⟩).2.rest:=c2
  rw[l3,d2,List.append_nil] at e
  rw[hn]
  exact e.symm
 ·cases h
theorem Mo0{k:Nat}(hk:0<k){acc:List OD}{s:RS}(hs:s.rest=[]):aO (IK MW k acc s).2=false:=by
 cases hd:aO (IK MW k acc s).2
 ·rfl
 ·obtain⟨d1,d2⟩:=Zm0 hd
  obtain⟨_,l,l1,_,l3,_⟩:=de0.times _ _ _ d1
  rw[hs,d2,List.append_nil] at l3
  cases l with
  | nil=>rw[List.length_nil] at l1;omega
  | cons v l =>
   have h1:=ui0 v
   have:=congrArg List.length l3
   rw[List.flatMap_cons,List.length_append,List.length_nil] at this
   omega
theorem Cj0{s:RS}(h:WK s):WK (MW s).2:=RY (iG (iG h))
theorem Yo0{s:RS}(hs:WK s)(hr:s.rest≠[]):(MW s).2.rest.length+1≤s.rest.length:=by
 have hlen:0<s.rest.length:=List.length_pos_iff.2 hr
 cases hb:(MW s).2.bad
 ·obtain⟨_,h2,_⟩:=de0.back s hb
  have:=ui0 (MW s).1
  rw[h2,List.length_append]
  omega
 ·rw[Cj0 hs hb,List.length_nil]
  omega
theorem ti0{v:OD}(h:VK v){N:Nat}(hN:(bl v.s).length≤N):(XR v).length≤64+N:=by
 unfold XR
 have h1:=Q6 h.kind
 have h2:=Q6 h.n
 have h3:=wE (bl v.s) h.s
 simp only[List.length_append]
 omega
section
variable {B:Base} {w:World} {σ:List Dat} {p:Nat} {s:RS}
theorem KA0(hB:VI B){v:OD}(hg:VK v)(hs:(bl v.s).length≤1099511627776):Gives Tryz.prog B (Z0 lT #[.agg v.cs.toArray]) (.string (ofL (XR v))):=by
 refine Gives.intro fun B' w K base h k=>?_
 replace hB:=base hB
 refine eT.up ?_
 unfold eT.pt
 refine h.box fun o w1 h=>?_
 have h:Rel B' w1 [O1 o R3 v.cs.toArray]:=h
 have h:=h.tick
 have h1:=Q6 hg.kind
 have h2:=Q6 hg.n
 have h3:=wE (bl v.s) hg.s
 have es:v.s=ofL (bl v.s):=(fV v.s).symm
 simp -zeta only[U0 vP,U0 KT,U0 mM,Nat.add_zero,Nat.zero_add,h.ld 0 rfl Y2 (o:=0) rfl,h.ld 0 rfl Y2 (o:=1) rfl,h.ld 0 rfl U6 (o:=2) rfl]
 refine h.ask (fun B2 own base2=>wC (base2 hB) hg.kind) fun w2 h=>?_
 refine⟨h.is 0 rfl U6 (o:=2) rfl,h.is 0 rfl Y2 (o:=1) rfl,?_⟩
 refine h.ask (fun B2 own base2=>wC (base2 hB) hg.n) fun w3 h=>?_
 refine⟨h.is 0 rfl U6 (o:=2) rfl,?_⟩
 rw[C9 (by omega)]
 refine h.ask (v := .string (ofL (yB (bl v.s)))) (fun B2 own base2=>by have:=gT (B:=B2) (base2 hB) (s:=bl v.s) (by omega);rw[←es] at this;exact this) fun w4 h=>?_
 rw[C9 (by rw[List.length_append];omega)]
 exact k _ _ h
theorem Dg0(hB:VI B){u:Value}{l:List OD}(r:O4 u l B)(hl:l.length≤1000000)(hg:∀v∈l,VK v∧(bl v.s).length≤1000000):Gives Tryz.prog B (Z0 UK #[u]) (.string (ofL (dG l))):=by
 refine Gives.wf0 fun B' w K base h start k=>?_
 replace hB:=base hB
 replace r:=base r
 refine zO.up ?_
 unfold zO.pt
 have hall:=xE XR l 1000064 fun v hv=>by have:=ti0 (hg v hv).1 (hg v hv).2;omega
 refine h.alloc PG fun b w1 h=>?_
 have h:=start w1 b h
 simp -zeta only[O4.len r Q8]
 have hin:inI (l.length:Int):=⟨by omega,by omega⟩
 refine h.ask (fun B2 own base2=>fh0 (base2 hB) hin) fun w2 h=>?_
 have en:gd0 (l.length:Int)=encI l.length:=by unfold gd0;rw[if_neg (by omega)]
 rw[en]
 have h2:=Q6 hin
 refine h.VN (Nat.le_refl _) (by rw[Q_,List.length_nil];omega) fun _ w4 h=>?_
 have h:Rel B' w4 [bP B'.W.heap.size b (encI l.length)]:=h
 unfold dG at k
 refine F6 (fun x w'=>∃i:Nat,i≤l.length∧x=(.int .i64 i,())∧Rel B' w' [bP B'.W.heap.size b (encI l.length++(l.take i).flatMap XR)]) (fun x _=>l.length-(match x.1 with | .int _ n=>n.toNat | _=>0))
  ⟨0,Nat.zero_le _,rfl,by simpa using h⟩ ?_
 clear h
 rintro x w5 ⟨i,hi,rfl,h⟩ next hnext
 simp -zeta only[G6,K3]
 refine⟨fun hlt=>?_,fun hge=>?_⟩
 ·have hil:i<l.length:=by omega
  obtain⟨g,o,hx,hcl⟩:=O4.idx r Q8 (P:=Tryz.prog) hil
  have hcl:K6 g o l[i].cs B':=hcl
  obtain⟨hgi,hsi⟩:=hg l[i] (List.getElem_mem hil)
  have hstep:=jI XR hil
  have hle:=QE XR l (i+1)
  rw[hstep,List.length_append] at hle
  rw[hx,K6.r9 (h.L6 hcl) Z7 rfl]
  refine h.R8 (ds:=l[i].cs.toArray) JK rfl Z7 rfl (fun v hv=>Enc.one l[i] v hv) fun a w6 h=>?_
  have h:Rel B' w6 [bP B'.W.heap.size b (encI l.length++(l.take i).flatMap XR),O1 a R3 l[i].cs.toArray]:=h
  rw[h.r9 1 rfl Z7 rfl]
  refine h.ask (fun B2 own base2=>KA0 (base2 hB) hgi (by omega)) fun w7 h=>?_
  refine(h.take 1).VN (Nat.le_refl _) (by rw[Q_];simp only[List.length_append];omega) fun _ w11 h=>?_
  rw[Z5,E5 (by omega) (by omega)]
  refine hnext _ _ ⟨i+1,hil,rfl,?_⟩ (by simp only;omega)
  rw[hstep,←List.append_assoc]
  exact h
 ·refine h.gU (Nat.le_refl _) fun w7 h=>?_
  have hie:i=l.length:=by omega
  subst hie
  rw[List.take_length]
  exact k _ _ h
theorem eG0(hB:qC B)(hs:s.rest.length≤140737488355328):Does Tryz.prog B (rdD p s) (Z0 GU #[uS p]) (jV p (.agg (MW s).1.cs.toArray) (MW s).2):=by
 refine Does.rd fun B' w K base h k=>?_
 replace hB:=base hB
 refine tV.up ?_
 unfold tV.pt
 have a1:(H5 s).2.rest.length≤s.rest.length:=(zB (.inl rfl) _ s).1
 have a2:(H5 (H5 s).2).2.rest.length≤(H5 s).2.rest.length:=(zB (.inl rfl) _ (H5 s).2).1
 refine h.alloc JK fun o w1 h=>?_
 refine h.rd_ 0 rfl (fun B2 own base2=>mD (base2 hB) (by omega)) fun w2 h=>?_
 refine h.rd_ 0 rfl (fun B2 own base2=>mD (base2 hB) (by omega)) fun w3 h=>?_
 rw[YO]
 refine h.R8 (ds:=(⟨(H5 s).1,(H5 (H5 s).2).1,⟨#[]⟩⟩:OD).cs.toArray) JK rfl Z7 rfl (fun v hv=>Enc.one (⟨(H5 s).1,(H5 (H5 s).2).1,⟨#[]⟩⟩:OD) v hv) fun o2 w5 h=>?_
 refine h.rd_ 0 rfl (fun B2 own base2=>iR (base2 hB) (by omega)) fun w6 h=>?_
 simp -zeta only[U0 mM,Nat.zero_add]
 refine h.st 2 rfl U6 (show 2<3 by omega) rfl fun w7 h=>?_
 have h:Rel B' w7 [rdD p (MW s).2,O1 o R3 (Value.cells (.agg #[(.int .i64 0),(.int .i64 0),(.string ⟨#[]⟩)])),O1 o2 R3 (MW s).1.cs.toArray]:=h
 rw[h.r9 2 rfl Z7 rfl]
 refine h.YG 1 (ds:=(MW s).1.cs.toArray) rfl Z7 rfl rfl (fun v hv=>Enc.one (MW s).1 v hv) fun w8 h=>?_
 rw[qJ h 1 rfl Z7 rfl]
 exact k _ _ h
theorem kj0(hB:qC B){t:Bs}(ht:t.length≤1099511627776):Makes Tryz.prog B (Z0 EM #[.string (ofL t)]) fun u τ=>(∃l v,uO t=some l∧u = .tuple #[v,.bool true]∧τ=[Y3 R3 v l])∨(uO t=none∧u = .tuple #[.slice none 0 0,.bool false]∧τ=[]):=by
 refine Makes.intro fun B' w K base h k=>?_
 replace hB:=base hB
 refine NP.up ?_
 unfold NP.pt
 refine h.make (fun B2 own base2=>WT) fun u τ w1 hp h=>?_
 obtain⟨p,rfl,rfl⟩:=hp
 have h:Rel B' w1 [rdD p ⟨t,false⟩]:=h
 have hsn:WK ⟨t,false⟩:=fun hb=>by cases hb
 have l1:(qE ⟨t,false⟩).2.rest.length≤t.length:=(zB (.inl rfl:bE 59) 0 ⟨t,false⟩).1
 have n0:0≤(qE ⟨t,false⟩).1:=(zB (.inl rfl:bE 59) 0 ⟨t,false⟩).2.2 (Int.le_refl 0)
 have hin:=(zB (.inl rfl:bE 59) 0 ⟨t,false⟩).2.1
 have n1:(qE ⟨t,false⟩).1≤9223372036854775807:=hin.2
 have hs1:WK (qE ⟨t,false⟩).2:=Va0 hsn
 have no:uO t=none→∀w' τ,Rel B' w' τ→K (.tuple #[.slice none 0 0,.bool false]) w':=fun hn w' τ h=>k _ _ _ (.inr ⟨hn,rfl,rfl⟩) h.nil
 have yes:∀l v,uO t=some l→∀w',Rel B' w' [Y3 R3 v l]→K (.tuple #[v,.bool true]) w':=fun l v h1 w' h=>k _ _ _ (.inl ⟨l,v,h1,rfl,rfl⟩) h
 clear k hin
 unfold uO at no yes
 simp only at no yes
 refine h.rd_ 0 rfl (fun B2 own base2=>CY (base2 hB) (by show t.length≤_;omega)) fun w2 h=>?_
 generalize qE ⟨t,false⟩=n at *
 obtain⟨n,r1⟩:=n
 simp only at l1 n0 n1 hs1 no yes
 obtain⟨m,rfl⟩:∃m:Nat,n=m:=⟨n.toNat,by omega⟩
 rw[Int.toNat_natCast] at no yes
 have h:Rel B' w2 [rdD p r1]:=h
 have h:=h.VC OD R3
 refine F6 (fun x w'=>∃(j:Nat) (acc:List OD) (v:Value) (s':RS),j≤m∧x=(v,.int .i64 j,())∧IK MW j acc s'=IK MW m [] r1∧WK s'∧acc.length+s'.rest.length≤t.length ∧
   Rel B' w' [rdD p s',Y3 R3 v acc]) (fun x _=>match x.2.1 with | .int _ n=>n.toNat | _=>0)
  ⟨m,[],.slice none 0 0,r1,Nat.le_refl _,rfl,rfl,hs1,by simpa using l1,h⟩ ?_
 clear h
 rintro x w3 ⟨j,acc,v,s',hj,rfl,htab,hsa,hlen,h⟩ next hnext
 simp -zeta only[x9,K3]
 refine⟨fun hpos=>?_,fun hz=>?_⟩
 ·obtain⟨i,rfl⟩:∃i,j=i+1:=⟨j-1,by omega⟩
  refine h.ask (fun B2 own base2=>eX (own (i:=0) rfl)) fun w4 h=>?_
  rw[F7,K3]
  refine⟨fun hp=>?_,fun hp=>?_⟩
  ·have hr:s'.rest=[]:=List.eq_nil_of_length_eq_zero (by omega)
   have:=Mo0 (k:=i+1) (acc:=acc) (Nat.succ_pos i) hr
   rw[htab] at this
   exact no (if_neg (by rw[this];decide)) _ _ h
  ·have hr:s'.rest≠[]:=fun hh=>by rw[hh] at hp;exact hp rfl
   rw[IK] at htab
   have hsh:=Yo0 hsa hr
   have hs2:=Cj0 hsa
   refine h.rd_ 0 rfl (fun B2 own base2=>eG0 (base2 hB) (by omega)) fun w5 h=>?_
   generalize MW s'=y at *
   obtain⟨x,s2⟩:=y
   simp only at hsh hs2 htab
   have h:Rel B' w5 [rdD p s2,Y3 R3 v acc]:=h
   refine h.WS (α:=OD) 1 rfl x Q8 (by decide) (by omega) (by omega) fun v2 w7 h=>?_
   rw[TB,E5 (by omega) (by omega)]
   have e4:(((i+1:Nat):Int)-1)=(i:Int):=by omega
   rw[e4]
   exact hnext _ _ ⟨i,acc++[x],v2,s2,by omega,rfl,htab,hs2,by rw[List.length_append,List.length_singleton];omega,h⟩ (by simp only;omega)
 ·obtain rfl:j=0:=by omega
  rw[IK] at htab
  rw[←htab] at no yes
  simp only at no yes
  refine h.ask (fun B2 own base2=>dR (own (i:=0) rfl)) fun w8 h=>?_
  rw[V7,G5,R5]
  refine⟨fun cd=>?_,fun cd=>no (if_neg (by rw[cd];decide)) _ _ h⟩
  have h:=h.pick [1] (by decide)
  exact yes acc v (if_pos cd) _ h
end
end Go.Proofs.YtngbebnhegcokaaGreatDoor

namespace Go.Proofs.YtngbebnhegcokaaGreatDoor
open Go.RowKit
set_option maxRecDepth 100000
abbrev Val:=T9
def Cg0(x:Val):Bool:=if x.kind=0 then decide (x.s=⟨#[]⟩) else if x.kind=1 then decide (x.n=0)&&decide (x.s.size≤200) else decide (x.kind=2)&&(decide (x.n=0)||decide (x.n=1))&&decide (x.s=⟨#[]⟩)
def DK(l:List Val):Bool:=decide (l.length≤12)&&l.all Cg0
set_option maxRecDepth 100000
set_option maxRecDepth 100000 in
theorem Mv0(v:Val):xS v=Cg0 v:=by
 obtain⟨k,n,s⟩:=v
 unfold xS Cg0 LA0 Uo0 Vc0
 simp only[T9.mk.injEq]
 by_cases h0:k=0
 ·simp [h0]
 ·by_cases h1:k=1
  ·have hs:((s.size:Int)≤200)↔s.size≤200:=by omega
   simp [h1,hs]
  ·simp only[h0,h1,if_false]
   by_cases h2:k=2
   ·by_cases h3:n=0
    ·simp [h2,h3]
    ·simp [h2,h3]
   ·simp [h2]
set_option maxRecDepth 100000 in
theorem Oc0(l:List Val):wU l=DK l:=by
 unfold wU DK
 have:xS=Cg0:=by funext v;exact Mv0 v
 rw[this,show decide ((l.length:Int)≤12)=decide (l.length≤12) from decide_eq_decide.2 (by omega)]
set_option maxRecDepth 100000 in
theorem So0{B:Base}{v:Value}{l:List Val}(r:O4 v l B)(hs:∀x∈l,x.s.size≤9223372036854775807):Gives Tryz.prog B (Z0 gF #[v]) (.bool (DK l)):=by
 rw[←Oc0];exact Qc0 r
end Go.Proofs.YtngbebnhegcokaaGreatDoor

namespace Go.Proofs.YtngbebnhegcokaaGreatDoor
open Go.RowKit
set_option maxRecDepth 100000
structure Ev where
 part:Int
 pos:Int
 source:ByteArray
 schema:Int
 time:Int
 row:List Val
 deriving DecidableEq
def Ev.raw(e:Ev)(v:SV):Y7:=⟨e.part,e.pos,e.source,e.schema,e.time,v⟩
abbrev EvL:=List (Ev×SV)
def l_(L:EvL):List Y7:=L.map fun p=>p.1.raw p.2
def evs(L:EvL):List Ev:=L.map (·.1)
def sM(L:EvL):Dat:=Dat.all L fun p=>O4 p.2.1 p.1.row
def dN(p:Ev×SV):Dat:=Y3 R3 p.2.1 p.1.row
def Ux0(v:Value)(L:EvL)(B:Base):Prop:=O4 v (l_ L) B∧sM L B
section
variable {B:Base}
theorem Dk0(e:Ev)(v:SV)(r:O4 v.1 e.row B)(hl:e.row.length≤1000000):Makes Tryz.prog B (Z0 SH #[(e.raw v).v]) fun u τ=>∃v':SV,u=(e.raw v').v∧τ=[dN (e,v')]:=by
 refine Makes.intro fun B' w K base h k=>?_
 replace r:=base r
 refine mR.up ?_
 unfold mR.pt
 refine h.box fun b w1 h=>?_
 replace h:Rel B' w1 [O1 b Q3 (e.raw v).cs.toArray]:=by
  have e1:((e.raw v).v:Value).cells=(e.raw v).cs.toArray:=Enc.cells_val (e.raw v)
  rw[e1] at h
  exact h
 refine h.alloc TC fun b2 w2 h=>?_
 simp -zeta only[U0 lM,Nat.zero_add,h.ld 0 rfl H7 (o:=5) rfl]
 refine h.make (fun B2 own base2=>pM (base2 r) (by omega) (by omega)) fun v' τ w3 hp h=>?_
 subst hp
 have h1:v'.oneCell'=true:=h.oneCell (i:=2) rfl
 refine h.st 0 rfl H7 (show 5<6 by omega) h1 fun w4 h=>?_
 rw[h.r9 0 rfl Y8 rfl]
 refine h.mr0 1 rfl Y8 rfl (by decide) (fun u hu=>Enc.one (e.raw ⟨v',h1⟩) u hu) fun w5 h=>?_
 rw[qJ h 1 rfl Y8 rfl]
 exact k _ [dN (e,⟨v',h1⟩)] _ ⟨⟨v',h1⟩,rfl,rfl⟩ (h.pick [2] (by decide))
theorem Sx0(e:Ev)(v:SV)(r:O4 v.1 e.row B)(hl:e.row.length≤1000000):Makes Tryz.prog B (dA (.func (.func SH) #[] #[]) #[(e.raw v).v]) fun u τ=>∃v':SV,u=(e.raw v').v∧τ=[dN (e,v')]:=by
 intro w σ K h k
 exact YH (Dk0 e v r hl w σ K h k)
theorem ux0{v:Value}{L:EvL}(r:Ux0 v L B)(hn:L.length≤1000000)(hl:∀p∈L,p.1.row.length≤1000000) :
  Makes Tryz.prog B (Z0 aG #[v,.func (.func SH) #[] #[]]) fun u τ=>∃L':EvL,evs L'=evs L∧τ=Y3 Q3 u (l_ L') :: L'.map dN:=by
 refine Makes.intro fun B' w K base h k=>?_
 have r1:=base r.1
 have r2:=base r.2
 clear r
 refine kE.up ?_
 unfold kE.pt
 have hrl:(l_ L).length=L.length:=by simp [l_]
 simp -zeta only[O4.len r1 u7]
 rw[hrl]
 refine h.Qy0 (m:=0) (n:=L.length) (⟨0,0,⟨#[]⟩,0,0,⟨.slice none 0 0,rfl⟩⟩:Y7) u7 (by kernel_rfl) (Nat.zero_le _) (by omega) (by omega) fun u w1 h _=>?_
 refine F6 (fun x w'=>∃(i:Nat) (u:Value) (L':EvL),i≤L.length∧x=(u,.int .i64 i,())∧evs L'=(evs L).take i∧Rel B' w' (Y3 Q3 u (l_ L') :: L'.map dN)) (fun x _=>L.length-(match x.2.1 with | .int _ n=>n.toNat | _=>0)) ⟨0,u,[],Nat.zero_le _,rfl,rfl,h⟩ ?_
 clear h
 rintro x w2 ⟨i,u,L',hi,rfl,he,h⟩ next hnext
 have hl':L'.length=i:=by
  have:=congrArg List.length he
  simpa [evs,hi] using this
 simp -zeta only[G6,K3]
 refine⟨fun hlt=>?_,fun hge=>?_⟩
 ·have hil:i<L.length:=by omega
  obtain⟨g,o,hx,hc⟩:=O4.idx r1 u7 (i:=i) (by omega)
  have hel:(l_ L)[i]'(by omega)=L[i].1.raw L[i].2:=by simp [l_]
  rw[hel] at hc
  simp -zeta only[hx,K6.r9 (h.L6 hc) Y8 rfl]
  refine h.R8 (ds:=(L[i].1.raw L[i].2).cs.toArray) TC rfl Y8 rfl (fun v hv=>Enc.one (L[i].1.raw L[i].2) v hv) fun b w3 h=>?_
  rw[h.r9 _ kI Y8 rfl]
  refine h.make (fun B2 own base2=>Sx0 L[i].1 L[i].2 (base2 (r2 L[i] (List.getElem_mem hil))) (hl _ (List.getElem_mem hil))) fun y τ w4 hp h=>?_
  obtain⟨v',rfl,rfl⟩:=hp
  have h:Rel B' w4 ((Y3 Q3 u (l_ L') :: L'.map dN)++[dN (L[i].1,v')]):=h.mid
  refine h.WS (α:=Y7) 0 rfl (L[i].1.raw v') u7 (by decide) (by simp [l_];omega) (by simp [l_];omega) fun u' w5 h=>?_
  rw[Z5,E5 (by omega) (by omega)]
  refine hnext _ _ ⟨i+1,u',L'++[(L[i].1,v')],by omega,rfl,?_,?_⟩ (by simp only;omega)
  ·have:(evs L).take (i+1)=(evs L).take i++[L[i].1]:=by
    rw[List.take_succ_eq_append_getElem (by simpa [evs] using hil)]
    simp [evs]
   rw[this,←he]
   simp [evs]
  ·simpa [l_] using h
 ·have:i=L.length:=by omega
  subst this
  rw[List.take_of_length_le (by simp [evs])] at he
  exact k _ _ _ ⟨L',he,rfl⟩ h
end
structure St where
 part:Int
 first:Int
 horizon:Int
 events:List Ev
def St.next(s:St):Int:=s.first+s.events.length
def vQ(s:St)(e:Ev):Bool:=decide (e.part=s.part)&&(decide (e.source.size≤200)&&(decide (0≤e.schema)&&(decide (0≤e.time)&&decide (e.time≤1099511627776))))
def pQ(s:St)(e:Ev):Int×St:=if vQ s e=true then if DK e.row=true then if e.pos=s.next then if s.events.length<2000 then(0,{ s with events:=s.events++[e] }) else(6,s) else(25,s) else(16,s) else(1,s)
def ZB(s:St)(pos:Int):Nat:=(min (max pos s.first) s.next-s.first).toNat
def hor(h:Int)(l:List Ev):Int:=l.foldl (fun h e=>max h (e.time+1)) h
def Oe0(s:St)(n:Nat):St:=⟨s.part,s.first+n,hor s.horizon (s.events.take n),s.events.drop n⟩
def iY(s:St)(t:Int):Nat:=if jO (fun e=>decide (t≤e.time)) s.events<0 then s.events.length else(jO (fun e=>decide (t≤e.time)) s.events).toNat
def NY(s:St)(fr most:Int):List Ev:=(s.events.drop (ZB s fr)).take (max 0 (min most (s.events.length-ZB s fr))).toNat
def rf0(s:St)(t:Int):List Ev:=s.events.filter fun e=>decide (t≤e.time)
def okS(s:St):Prop:=0≤s.first∧s.first≤2305843009213693952∧s.events.length≤2000∧∀e∈s.events,e.row.length≤1000000 ∧ -1≤e.time∧e.time≤1099511627776
def XL(b:Nat)(s:St)(v:Value):Dat:=O1 b Q5 #[.int .i64 s.part,.int .i64 s.first,.int .i64 s.horizon,v]
def U7(b:Nat)(s:St):Dat:=Dat.ex fun p:SV×EvL=>(Dat.pure (evs p.2=s.events∧okS s)).and ((XL b s p.1.1).star ((Y3 Q3 p.1.1 (l_ p.2)).star (sM p.2)))
def wQ(b:Nat)(s:St)(B:Base):Prop:=∃(v:SV) (L:EvL),evs L=s.events∧okS s∧XL b s v.1 B∧Ux0 v.1 L B
theorem U7.read{b:Nat}{s:St}{B:Base}(h:U7 b s B):wQ b s B:=by
 obtain⟨⟨v,L⟩,⟨h1,h2⟩,h3⟩:=h
 exact⟨v,L,h1,h2,Dat.star.left h3,Y3.read (Dat.star.left (Dat.star.right h3)),Dat.star.right (Dat.star.right h3)⟩
theorem wQ.mono{b:Nat}{s:St}{B B':Base}(h:wQ b s B)(hb:∀{d:Dat},d B→d B'):wQ b s B':=by
 obtain⟨v,L,h1,h2,h3,h4,h5⟩:=h
 exact⟨v,L,h1,h2,hb h3,hb h4,hb h5⟩
theorem QY{B:Base}{w:World}{b:Nat}{s:St}(h:Rel B w [U7 b s]):∃(v:SV) (L:EvL),evs L=s.events∧okS s∧Rel B w [XL b s v.1,Y3 Q3 v.1 (l_ L),sM L]:=by
 obtain⟨⟨v,L⟩,h⟩:=h.ex (i:=0) rfl
 obtain⟨⟨h1,h2⟩,h⟩:=h.VS (i:=0) rfl
 have h:=h.split (i:=0) rfl
 have h:=Rel.split (i:=1) h rfl
 exact⟨v,L,h1,h2,h⟩
theorem zN{B:Base}{w:World}{b:Nat}{s:St}{v:Value}{L:EvL}{τ:List Dat}(h:Rel B w (XL b s v :: Y3 Q3 v (l_ L) :: sM L :: τ))(he:evs L=s.events)(ho:okS s):Rel B w (U7 b s :: τ):=by
 have hv:v.oneCell'=true:=h.oneCell (i:=1) rfl
 have h:=h.join 1 2 rfl rfl (by omega)
 have h:=h.join 0 1 rfl rfl (by omega)
 have h:=h.imp (i:=0) (e:=U7 b s) rfl fun B hB=>⟨⟨⟨v,hv⟩,L⟩,⟨he,ho⟩,hB⟩
 exact Rel.mid (σ:=[U7 b s]) (ρ:=[emp,emp]) h
section
variable {B:Base} {b:Nat} {s:St}
theorem Fk0(hs:wQ b s B):Gives Tryz.prog B (Z0 DD #[ptr b]) (.int .i64 s.first):=by
 refine Gives.intro fun B' w K base h k=>?_
 obtain⟨v,L,he,ho,hc,-⟩:=hs.mono base
 refine YI.up ?_
 unfold YI.pt
 simp -zeta only[J5,U0 mF,Nat.zero_add,O1.ld (h.L6 hc) Y2 (o:=1) rfl]
 exact k _ _ h
theorem Zu0(hs:wQ b s B):Gives Tryz.prog B (Z0 EI #[ptr b]) (.int .i64 s.horizon):=by
 refine Gives.intro fun B' w K base h k=>?_
 obtain⟨v,L,he,ho,hc,-⟩:=hs.mono base
 refine NG.up ?_
 unfold NG.pt
 simp -zeta only[J5,U0 gL,Nat.zero_add,O1.ld (h.L6 hc) Y2 (o:=2) rfl]
 exact k _ _ h
theorem CK{L:EvL}{l:List Ev}(h:evs L=l):(l_ L).length=l.length:=by subst h;simp [l_,evs]
theorem Wa0(hs:wQ b s B):Gives Tryz.prog B (Z0 v_ #[ptr b]) (.int .i64 s.next):=by
 refine Gives.intro fun B' w K base h k=>?_
 obtain⟨v,L,he,ho,hc,hr,-⟩:=hs.mono base
 obtain⟨o1,o2,o3,-⟩:=ho
 refine VJ.up ?_
 unfold VJ.pt
 simp -zeta only[J5,U0 mF,U0 XA,Nat.zero_add,O1.ld (h.tick.L6 hc) Y2 (o:=1) rfl,O1.ld (h.tick.L6 hc) q9 (o:=3) rfl,O4.len hr u7,Z5,CK he]
 rw[E5 (by omega) (by omega)]
 exact k _ _ h.tick
theorem Vs0(hs:wQ b s B)(pos:Int):Gives Tryz.prog B (Z0 rG #[ptr b,.int .i64 pos]) (.int .i64 (ZB s pos)):=by
 refine Gives.intro fun B' w K base h k=>?_
 have hs':=hs.mono base
 obtain⟨v,L,he,ho,hc,hr,-⟩:=hs'
 obtain⟨o1,o2,o3,-⟩:=ho
 refine aJ.up ?_
 unfold aJ.pt
 simp -zeta only[J5,U0 mF,Nat.zero_add,O1.ld (h.tick.L6 hc) Y2 (o:=1) rfl,II]
 refine h.tick.ask (fun B2 own base2=>Wa0 ((hs.mono base).mono base2)) fun w1 h=>⟨O1.is (h.L6 hc) Y2 (o:=1) rfl,O1.is (h.L6 hc) Y2 (o:=1) rfl,?_⟩
 simp -zeta only[YK,TB]
 unfold St.next
 rw[E5 (by omega) (by omega)]
 have:min (max pos s.first) (s.first+s.events.length)-s.first=(ZB s pos:Int):=by unfold ZB St.next;omega
 rw[this]
 exact k _ _ h
theorem SC0(hs:wQ b s B)(e:Ev)(v:SV):Gives Tryz.prog B (Z0 sK #[ptr b,(e.raw v).v]) (.bool (vQ s e)):=by
 refine Gives.intro fun B' w K base h k=>?_
 obtain⟨v',L,he,ho,hc,-⟩:=hs.mono base
 refine bJ.up ?_
 unfold bJ.pt
 refine h.box fun b1 w1 h=>?_
 have e1:((e.raw v).v:Value).cells=(e.raw v).cs.toArray:=Enc.cells_val (e.raw v)
 rw[e1] at h
 have h:=h.tick
 have hc:=h.L6 hc
 simp -zeta only[J5,U0 KX,U0 ET,U0 FT,U0 tJ,U0 eP,Nat.zero_add,O1.ld hc Y2 (o:=0) rfl,h.ld 0 rfl Y2 (o:=0) rfl,h.ld 0 rfl U6 (o:=2) rfl,h.ld 0 rfl Y2 (o:=3) rfl,h.ld 0 rfl Y2 (o:=4) rfl,LC K8,Z5,TB,Er0,G6,WC,x9,FC,F7,Q7,fZ,dx0,V7,YK,II,G5,K3,lC,d_,M9,D9,UU,Dd0,Ed0,decide_true,decide_false,Bool.not_true,Bool.not_false,J5]
 have kk:=fun b (hb:vQ s e=b)=>(show K (.bool b) (tick w1) by rw[←hb];exact k _ _ h)
 have hu:vQ s e=(decide (e.part=s.part)&&(decide (e.source.size≤200)&&(decide (0≤e.schema)&&(decide (0≤e.time)&&decide (e.time≤1099511627776))))):=rfl
 refine⟨fun h1=>⟨fun h2=>⟨fun h3=>⟨fun h4=>?_,fun h4=>?_⟩,fun h3=>?_⟩,fun h2=>?_⟩,fun h1=>?_⟩
 ·refine kk _ ?_
  have h1:e.part=s.part:=h1
  have h2:(e.source.size:Int)≤200:=h2
  rw[hu,decide_eq_true h1,decide_eq_true (show e.source.size≤200 by omega),decide_eq_true (show 0≤e.schema from h3),decide_eq_true (show 0≤e.time from h4)]
  simp only[Bool.true_and]
  rfl
 ·refine kk _ ?_
  rw[hu,decide_eq_false (p:=0≤e.time) h4];simp
 ·refine kk _ ?_
  rw[hu,decide_eq_false (p:=0≤e.schema) h3];simp
 ·refine kk _ ?_
  have h2:¬(e.source.size:Int)≤200:=h2
  rw[hu,decide_eq_false (p:=e.source.size≤200) (by omega)];simp
 ·refine kk _ ?_
  rw[hu,decide_eq_false (p:=e.part=s.part) h1];simp
end
end Go.Proofs.YtngbebnhegcokaaGreatDoor

namespace Go.Proofs.YtngbebnhegcokaaGreatDoor
open Go.RowKit
set_option maxRecDepth 100000
section
variable {B:Base} {b:Nat} {s:St}
theorem gz0(part:Int):Makes Tryz.prog B (Z0 LQ #[.int .i64 part]) fun u τ=>∃b,u=ptr b∧τ=[U7 b ⟨part,0,0,[]⟩]:=by
 refine Makes.intro fun B' w K base h k=>?_
 refine kV.up ?_
 unfold kV.pt
 simp -zeta only[eZ]
 refine h.box fun b w1 h=>?_
 have h:=h.VC Y7 Q3
 refine k _ _ _ ⟨b,rfl,rfl⟩ ?_
 have ho:okS ⟨part,0,0,[]⟩:=⟨Int.le_refl 0,by show (0:Int)≤_;decide,Nat.zero_le _,fun e he=>by cases he⟩
 have h:Rel B' w1 ([XL b ⟨part,0,0,[]⟩ (.slice none 0 0),Y3 Q3 (.slice none 0 0) (l_ [])]++([]:EvL).map dN):=h
 have h:=h.gather (g:=fun p=>O4 p.2.1 p.1.row) (fun x hx=>by cases hx)
 exact zN (τ:=[]) h rfl ho
theorem Qw0(e:Ev)(v:SV)(r:O4 v.1 e.row B)(hz:∀x∈e.row,x.s.size≤9223372036854775807) :
  Does Tryz.prog B (U7 b s) (Z0 tF #[ptr b,(e.raw v).v]) fun u e' τ=>u = .int .i64 (pQ s e).1∧e'=U7 b (pQ s e).2∧τ=[]:=by
 refine Does.intro fun B' w K base h k=>?_
 replace r:=base r
 obtain⟨v0,L,he,ho,h⟩:=QY h
 refine tL.up ?_
 unfold tL.pt
 refine h.box fun b1 w1 h=>?_
 have e1:((e.raw v).v:Value).cells=(e.raw v).cs.toArray:=Enc.cells_val (e.raw v)
 rw[e1] at h
 replace h:Rel B' w1 [XL b s v0.1,Y3 Q3 v0.1 (l_ L),sM L,O1 b1 Q3 (e.raw v).cs.toArray]:=h
 have same:∀w' c,(pQ s e)=(c,s)→Rel B' w' [XL b s v0.1,Y3 Q3 v0.1 (l_ L),sM L,O1 b1 Q3 (e.raw v).cs.toArray]→K (.int .i64 c) w':=fun w' c hc h=>by
  rw[hc] at k
  exact k _ _ _ _ ⟨rfl,rfl,rfl⟩ ((zN h he ho).take 1)
 rw[h.r9 3 rfl Y8 rfl]
 refine h.ask (fun B2 own base2=>SC0 ⟨v0,L,he,ho,own (i:=0) rfl,Y3.read (own (i:=1) rfl),own (i:=2) rfl⟩ e v) fun w2 h=>?_
 rw[V7,G5,R5]
 refine⟨fun hr=>?_,fun hr=>same _ _ (by unfold pQ;rw[if_neg (by rw[hr];decide)]) h⟩
 simp -zeta only[U0 lM,Nat.zero_add,h.ld 3 rfl H7 (o:=5) rfl]
 refine h.ask (fun B2 own base2=>So0 (base2 r) hz) fun w3 h=>?_
 rw[V7,G5,R5]
 refine⟨fun hrr=>?_,fun hrr=>same _ _ (by unfold pQ;rw[if_pos hr,if_neg (by rw[hrr];decide)]) h⟩
 have h:=h.tick
 simp -zeta only[U0 LX,Nat.zero_add,h.ld 3 rfl Y2 (o:=1) rfl]
 refine h.ask (fun B2 own base2=>Wa0 ⟨v0,L,he,ho,own (i:=0) rfl,Y3.read (own (i:=1) rfl),own (i:=2) rfl⟩) fun w4 h=>⟨h.is 3 rfl Y2 (o:=1) rfl,?_⟩
 simp -zeta only[Q7,G5,K3]
 refine⟨fun(hp:e.pos=s.next)=>?_,fun(hp:¬e.pos=s.next)=>same _ _ (by unfold pQ;rw[if_pos hr,if_pos hrr,if_neg hp]) h⟩
 obtain⟨o1,o2,o3,o4⟩:=ho
 have hrd:=Y3.read (h.here (i:=1) rfl)
 simp -zeta only[J5,U0 XA,Nat.zero_add,h.ld 0 rfl q9 (o:=3) rfl,O4.len hrd u7,CK he,FC,K3]
 refine⟨fun hf=>same _ _ (by unfold pQ;rw[if_pos hr,if_pos hrr,if_pos hp,if_neg (by omega)]) h,fun hf=>?_⟩
 have hok:pQ s e=(0,{ s with events:=s.events++[e] }):=by unfold pQ;rw[if_pos hr,if_pos hrr,if_pos hp,if_pos (by omega)]
 have h:=h.tick
 rw[h.ld 0 rfl q9 (o:=3) rfl,h.r9 3 rfl Y8 rfl]
 have hl:e.row.length≤1000000:=by
  have h12:=hrr
  unfold DK at h12
  rw[Bool.and_eq_true] at h12
  have:=of_decide_eq_true h12.1
  omega
 refine h.make (fun B2 own base2=>Dk0 e v (base2 r) hl) fun y τ w5 hp2 h=>?_
 obtain⟨v',rfl,rfl⟩:=hp2
 refine⟨h.is 0 rfl q9 (o:=3) rfl,?_⟩
 have hrl:=CK he
 refine h.XH (e.raw v') u7 (by decide) fun t w6 h=>⟨h.is 0 rfl q9 (o:=3) rfl,?_⟩
 refine h.append 1 rfl u7 (Rd.at 5 rfl) (by simp;omega) (by simp;omega) fun u w7 h=>?_
 have hu:u.oneCell'=true:=h.oneCell (i:=1) rfl
 refine h.st 0 rfl q9 (show 3<4 by omega) hu fun w8 h=>?_
 rw[hok] at k
 refine k _ _ _ _ ⟨rfl,rfl,rfl⟩ ?_
 have h:=h.pick [0,1,2,4] (by decide)
 have h:=h.join 2 3 rfl rfl (by omega)
 have h:=h.imp (i:=2) (e:=sM (L++[(e,v')])) rfl fun B hB=>Dat.all_append (Dat.star.left hB) (by
  intro p hp
  simp only[List.mem_cons,List.not_mem_nil,or_false] at hp
  subst hp
  exact Y3.read (Dat.star.right hB))
 have h:=h.take 3
 have hev:l_ L++[e.raw v']=l_ (L++[(e,v')]):=by simp [l_]
 have h:Rel B' w8 [XL b { s with events:=s.events++[e] } u,Y3 Q3 u (l_ L++[e.raw v']),sM (L++[(e,v')])]:=h
 rw[hev] at h
 refine zN (s:={ s with events:=s.events++[e] }) (τ:=[]) h (by simp [evs,←he]) ⟨o1,o2,by simp;omega,fun x hx=>?_⟩
 rcases List.mem_append.1 hx with hx | hx
 ·exact o4 x hx
 ·simp only[List.mem_cons,List.not_mem_nil,or_false] at hx
  subst hx
  simp only[vQ,Bool.and_eq_true,decide_eq_true_eq] at hr
  exact⟨hl,by omega,by omega⟩
theorem vG0(e:Ev)(v:SV)(r:O4 v.1 e.row B)(_:e.row.length≤1000000)(hz:∀x∈e.row,x.s.size≤9223372036854775807) :
  Does Tryz.prog B (U7 b s) (Z0 tF #[ptr b,(e.raw v).v]) fun u e' τ=>u = .int .i64 (pQ s e).1∧e'=U7 b (pQ s e).2∧τ=[]:=Qw0 e v r hz
theorem ku0{v:Value}{L:EvL}{n:Nat}(r:O4 v (l_ (L.drop n)) B)(hn:L.length≤2000):Makes Tryz.prog B (Z0 W_ #[v]) fun v' τ=>τ=[Y3 Q3 v' (l_ (L.drop n))] :=
 oM r (by simp [l_];omega) (by simp [l_];omega)
theorem vy0{l:List Ev}{i:Nat}(hi:i<l.length)(h0:Int):hor h0 (l.take (i+1))=max (hor h0 (l.take i)) (l[i].time+1):=by
 unfold hor
 rw[List.take_succ_eq_append_getElem hi,List.foldl_append]
 rfl
theorem aE0(n:Nat)(hn:n≤s.events.length)(hb:s.first+n≤2305843009213693952) :
  Does Tryz.prog B (U7 b s) (Z0 FI #[ptr b,.int .i64 n]) fun u e' τ=>u = .int .i64 n∧e'=U7 b (Oe0 s n)∧τ=[]:=by
 refine Does.intro fun B' w K base h k=>?_
 obtain⟨v0,L,he,ho,h⟩:=QY h
 obtain⟨o1,o2,o3,o4⟩:=ho
 have hLl:L.length=s.events.length:=by rw[←he];simp [evs]
 refine uL.up ?_
 unfold uL.pt
 refine F6 (fun x w'=>∃i:Nat,i≤n∧x=(.int .i64 i,())∧Rel B' w' [XL b { s with horizon:=hor s.horizon (s.events.take i) } v0.1,Y3 Q3 v0.1 (l_ L),sM L]) (fun x _=>n-(match x.1 with | .int _ n=>n.toNat | _=>0)) ⟨0,Nat.zero_le _,rfl,h⟩ ?_
 clear h
 rintro x w1 ⟨i,hi,rfl,h⟩ next hnext
 simp -zeta only[G6,K3]
 refine⟨fun hlt=>?_,fun hge=>?_⟩
 ·have h:=h.tick
  have hil:i<s.events.length:=by omega
  obtain⟨g,o,hx,hc⟩:=O4.idx (Y3.read (h.here (i:=1) rfl)) u7 (i:=i) (by rw[CK he];omega)
  have hel:(l_ L)[i]'(by rw[CK he];omega)=s.events[i].raw (L[i]'(by omega)).2:=by simp [l_,←he,evs]
  rw[hel] at hc
  simp -zeta only[J5,U0 gL,U0 XA,Nat.zero_add,h.ld 0 rfl Y2 (o:=2) rfl,h.ld 0 rfl q9 (o:=3) rfl,hx,U0 tJ,K6.ld hc Y2 (j:=4) rfl,Z5,II]
  have ht:=o4 _ (List.getElem_mem hil)
  have hw:IntKind.i64.wrap ((s.events[i].raw (L[i]'(by omega)).2).time+1)=s.events[i].time+1:=E5 (by show _≤s.events[i].time+1;omega) (by show s.events[i].time+1≤_;omega)
  rw[hw]
  refine h.st 0 rfl Y2 (show 2<4 by omega) rfl fun w2 h=>?_
  rw[E5 (by omega) (by omega)]
  refine hnext _ _ ⟨i+1,by omega,rfl,?_⟩ (by simp only;omega)
  rw[vy0 hil]
  exact h
 ·have:i=n:=by omega
  subst this
  clear hnext
  obtain⟨v1,hv1,hr1⟩:=O4.cut (Y3.read (h.here (i:=1) rfl)) u7 (P:=Tryz.prog) (lo:=i) (hi:=(l_ L).length) (lov:=some (.int .i64 i)) (hiv:=none) Bnd.some Bnd.none (by rw[CK he];omega) (Nat.le_refl _)
  have hd:(List.take (l_ L).length (l_ L)).drop i=l_ (L.drop i):=by rw[List.take_length];simp [l_]
  simp -zeta only[J5,U0 mF,U0 XA,Nat.zero_add,h.ld 0 rfl q9 (o:=3) rfl,hv1]
  refine h.make (fun B2 own base2=>?_) (post:=fun v' τ=>τ=[Y3 Q3 v' (l_ (L.drop i))]) fun u τ w2 hp h=>?_
  ·obtain⟨v2,hv2,hr2⟩:=O4.cut (Y3.read (own (i:=1) rfl)) u7 (P:=Tryz.prog) (lo:=i) (hi:=(l_ L).length) (lov:=some (.int .i64 i)) (hiv:=none) Bnd.some Bnd.none (by rw[CK he];omega) (Nat.le_refl _)
   have e2:v1=v2:=by
    have h1:=hv1 (Kp:=fun v=>v=v2)
    rw[hv2] at h1
    exact(h1.mp rfl)
   rw[hd] at hr2
   subst e2
   exact ku0 hr2 (by omega)
  ·subst hp
   have hu:u.oneCell'=true:=h.oneCell (i:=3) rfl
   refine h.st 0 rfl q9 (show 3<4 by omega) hu fun w3 h=>?_
   simp -zeta only[h.ld 0 rfl Y2 (o:=1) rfl,Z5]
   rw[E5 (by omega) (by omega)]
   refine h.st 0 rfl Y2 (show 1<4 by omega) rfl fun w4 h=>?_
   refine k _ _ _ _ ⟨rfl,rfl,rfl⟩ ?_
   have h:=h.pick [0,3,2] (by decide)
   have h:=h.imp (i:=2) (e:=sM (L.drop i)) rfl fun B hB p hp=>hB p (List.mem_of_mem_drop hp)
   have h:Rel B' w4 [XL b (Oe0 s i) u,Y3 Q3 u (l_ (L.drop i)),sM (L.drop i)]:=h
   refine zN (τ:=[]) h (by simp [evs,Oe0,←he,List.map_drop]) ⟨by show 0≤s.first+i;omega,hb,by show (s.events.drop i).length≤_;simp;omega,fun x hx=>o4 x (List.mem_of_mem_drop hx)⟩
theorem kb0(s:St)(pos:Int):ZB s pos≤s.events.length:=by unfold ZB St.next;omega
theorem TE0(pos:Int)(hb:s.first+s.events.length≤2305843009213693952) :
  Does Tryz.prog B (U7 b s) (Z0 KL #[ptr b,.int .i64 pos]) fun u e' τ=>u = .int .i64 (ZB s pos)∧e'=U7 b (Oe0 s (ZB s pos))∧τ=[]:=by
 refine Does.intro fun B' w K base h k=>?_
 refine TJ.up ?_
 unfold TJ.pt
 have hp:=kb0 s pos
 refine h.ask (fun B2 own base2=>Vs0 (U7.read (own (i:=0) rfl)) pos) fun w1 h=>?_
 refine h.act 0 rfl (fun B2 own base2=>aE0 (ZB s pos) hp (by omega)) fun u e' τ w2 hp h=>?_
 obtain⟨rfl,rfl,rfl⟩:=hp
 exact k _ _ _ _ ⟨rfl,rfl,rfl⟩ h
theorem ch0(s:St)(t:Int):iY s t≤s.events.length:=by
 unfold iY
 have:=(wZ (p:=fun e:Ev=>decide (t≤e.time)) (l:=s.events)).2
 split<;>omega
theorem BD0{B:Base}{t:Int}{tb:Nat}(hc:O1 tb Q0 #[.int .i64 t] B)(x:Y7):Gives Tryz.prog B (dA (.func (.func EJ) #[] #[ptr tb]) #[x.v]) (.bool (decide (t≤x.time))):=by
 refine Gives.intro fun B' w K base h k=>?_
 refine YH ?_
 show upK _ (Z0 _ #[x.v,ptr tb]) _ _
 refine FH.up ?_
 unfold FH.pt
 refine h.box fun b w1 h=>?_
 replace h:Rel B' w1 [O1 b Q3 x.cs.toArray]:=by
  have e1:(x.v:Value).cells=x.cs.toArray:=Enc.cells_val x
  rw[e1] at h
  exact h
 simp -zeta only[U0 tJ,Nat.zero_add,h.ld 0 rfl Y2 (o:=4) rfl,O1.ld (h.L6 (base hc)) Y2 (o:=0) rfl,FC]
 exact k _ _ h
theorem Gn0{α β:Type}(f:α→β)(p:β→Bool)(l:List α):jO p (l.map f)=jO (fun x=>p (f x)) l:=by
 unfold jO
 rw[List.findIdx?_map]
 rfl
theorem gG0(t:Int)(hb:s.first+s.events.length≤2305843009213693952) :
  Does Tryz.prog B (U7 b s) (Z0 NL #[ptr b,.int .i64 t]) fun u e' τ=>u = .int .i64 (iY s t)∧e'=U7 b (Oe0 s (iY s t))∧τ=[]:=by
 refine Does.intro fun B' w K base h k=>?_
 refine WJ.up ?_
 unfold WJ.pt
 obtain⟨v0,L,he,ho,h⟩:=QY h
 have ho3:=ho.2.2.1
 have hrl:=CK he
 refine h.box fun tb w1 h=>?_
 replace h:Rel B' w1 [XL b s v0.1,Y3 Q3 v0.1 (l_ L),sM L,O1 tb Q0 #[.int .i64 t]]:=h
 simp -zeta only[J5,U0 XA,Nat.zero_add,h.ld 0 rfl q9 (o:=3) rfl,TI]
 have eidx:jO (fun x:Y7=>decide (t≤x.time)) (l_ L)=jO (fun e:Ev=>decide (t≤e.time)) s.events:=by
  rw[←he]
  unfold l_ evs
  rw[Gn0,Gn0]
  rfl
 refine h.ask (fun B2 own base2=>dK (Y3.read (own (i:=1) rfl)) (by omega) (fun x=>decide (t≤x.time)) fun B3 base3 x _=>BD0 (base3 (own (i:=3) rfl)) x) fun w2 h=>?_
 rw[eidx]
 refine P6 fun J hJ=>?_
 have hJ2:∀w',Rel B' w' [XL b s v0.1,Y3 Q3 v0.1 (l_ L),sM L,O1 tb Q0 #[.int .i64 t]]→J (.int .i64 (iY s t),()) w':=by
  intro w' h
  refine hJ _ _ ?_
  have h:=zN h he ho
  refine h.act 0 rfl (fun B2 own base2=>aE0 (iY s t) (ch0 s t) (by have:=ch0 s t;omega)) fun u e' τ w2 hp h=>?_
  obtain⟨rfl,rfl,rfl⟩:=hp
  exact k _ _ _ _ ⟨rfl,rfl,rfl⟩ (h.take 1)
 have hrd:=Y3.read (h.here (i:=1) rfl)
 simp -zeta only[G6,K3,J5,U0 XA,Nat.zero_add,h.ld 0 rfl q9 (o:=3) rfl,O4.len hrd u7]
 refine⟨fun hlt=>?_,fun hge=>?_⟩
 ·have:iY s t=s.events.length:=by unfold iY;rw[if_pos hlt]
  rw[hrl,←this]
  exact hJ2 _ h
 ·have:(iY s t:Int)=jO (fun e:Ev=>decide (t≤e.time)) s.events:=by
   unfold iY;rw[if_neg hge];omega
  rw[←this]
  exact hJ2 _ h
def Uf0(u:Value)(es:List Ev)(τ:List Dat):Prop:=∃L':EvL,evs L'=es∧τ=Y3 Q3 u (l_ L') :: L'.map dN
theorem dD0(hs:wQ b s B)(fr most:Int):Makes Tryz.prog B (Z0 qK #[ptr b,.int .i64 fr,.int .i64 most]) fun u τ=>Uf0 u (NY s fr most) τ:=by
 refine Makes.intro fun B' w K base h k=>?_
 have hs':=hs.mono base
 obtain⟨v,L,he,ho,hc,hr,hrs⟩:=hs'
 obtain⟨o1,o2,o3,o4⟩:=ho
 have hrl:=CK he
 have hp:=kb0 s fr
 refine ZI.up ?_
 unfold ZI.pt
 refine h.ask (fun B2 own base2=>Vs0 ((hs.mono base).mono base2) fr) fun w1 h=>?_
 have h:=h.tick
 have hw1:IntKind.i64.wrap ((s.events.length:Int)-ZB s fr)=(s.events.length:Int)-ZB s fr:=E5 (by omega) (by omega)
 have hw2:IntKind.i64.wrap ((ZB s fr:Int)+max 0 (min most ((s.events.length:Int)-ZB s fr)))=((ZB s fr+(max 0 (min most ((s.events.length:Int)-ZB s fr))).toNat:Nat):Int):=by rw[E5 (by omega) (by omega)];omega
 obtain⟨v1,hv1,hr1⟩:=O4.cut hr u7 (P:=Tryz.prog) (lo:=ZB s fr) (hi:=ZB s fr+(max 0 (min most ((s.events.length:Int)-ZB s fr))).toNat)
  (lov:=some (.int .i64 (ZB s fr))) (hiv:=some (.int .i64 ((ZB s fr+(max 0 (min most ((s.events.length:Int)-ZB s fr))).toNat:Nat):Int))) Bnd.some Bnd.some (by omega) (by omega)
 have hd:((l_ L).take (ZB s fr+(max 0 (min most ((s.events.length:Int)-ZB s fr))).toNat)).drop (ZB s fr)=l_ ((L.drop (ZB s fr)).take (max 0 (min most ((s.events.length:Int)-ZB s fr))).toNat):=by
  simp [l_,List.drop_take]
 rw[hd] at hr1
 simp -zeta only[J5,U0 XA,Nat.zero_add,O1.ld (h.L6 hc) q9 (o:=3) rfl,O4.len hr u7,hrl,TB,hw1,YK,II,Z5,hw2,hv1]
 have hLl:L.length=s.events.length:=by rw[←he];simp [evs]
 refine h.make (fun B2 own base2=>ux0 (L:=(L.drop (ZB s fr)).take (max 0 (min most ((s.events.length:Int)-ZB s fr))).toNat) ⟨base2 hr1,base2 (Dat.mono _ (Base.le.refl _) (show (sM _) B' from fun p hp=>hrs p (List.mem_of_mem_drop (List.mem_of_mem_take hp))))⟩ (by simp;omega)
  fun p hp=>(o4 p.1 (by rw[←he];exact List.mem_map.2 ⟨p,List.mem_of_mem_drop (List.mem_of_mem_take hp),rfl⟩)).1) fun u τ w2 hp h=>⟨O1.is (h.L6 hc) q9 (o:=3) rfl,?_⟩
 obtain⟨L',he',rfl⟩:=hp
 refine k _ _ _ ⟨L',?_,rfl⟩ h
 rw[he']
 unfold NY
 rw[←he]
 simp [evs]
theorem eF0(hs:wQ b s B)(t:Int):Makes Tryz.prog B (Z0 ML #[ptr b,.int .i64 t]) fun u τ=>Uf0 u (rf0 s t) τ:=by
 refine Makes.intro fun B' w K base h k=>?_
 obtain⟨v,L,he,ho,hc,hr,hrs⟩:=hs.mono base
 obtain⟨o1,o2,o3,o4⟩:=ho
 have hrl:=CK he
 refine UJ.up ?_
 unfold UJ.pt
 simp -zeta only[J5,U0 XA,Nat.zero_add,O1.ld (h.L6 hc) q9 (o:=3) rfl,O4.len hr u7,hrl]
 refine F6 (fun x w'=>∃(i:Nat) (u:Value) (L':EvL),i≤s.events.length∧x=(u,.int .i64 i,())∧evs L'=(s.events.take i).filter (fun e=>decide (t≤e.time))∧Rel B' w' (Y3 Q3 u (l_ L') :: L'.map dN)) (fun x _=>s.events.length-(match x.2.1 with | .int _ n=>n.toNat | _=>0))
  ⟨0,_,[],Nat.zero_le _,rfl,rfl,h.VC Y7 Q3⟩ ?_
 clear h
 rintro x w1 ⟨i,u,L',hi,rfl,hev,h⟩ next hnext
 have hl':L'.length≤i:=by
  have h1:=congrArg List.length hev
  have h2:=List.length_filter_le (fun e:Ev=>decide (t≤e.time)) (s.events.take i)
  simp [evs] at h1 h2
  omega
 simp -zeta only[G6,K3]
 refine⟨fun hlt=>?_,fun hge=>?_⟩
 ·have hil:i<s.events.length:=by omega
  have hLl:L.length=s.events.length:=by rw[←he];simp [evs]
  refine P6 fun J hJ=>?_
  have hJ2:∀w' u (L':EvL),evs L'=(s.events.take (i+1)).filter (fun e=>decide (t≤e.time))→Rel B' w' (Y3 Q3 u (l_ L') :: L'.map dN)→J (u,()) w':=by
   intro w' u L' hev h
   refine hJ _ _ ?_
   show M0 _ _ _
   rw[Z5,E5 (by omega) (by omega)]
   exact hnext _ _ ⟨i+1,u,L',by omega,rfl,hev,h⟩ (by simp only;omega)
  clear hJ hnext
  obtain⟨g,o,hx,hcx⟩:=O4.idx hr u7 (i:=i) (by omega)
  have hel:(l_ L)[i]'(by omega)=s.events[i].raw (L[i]'(by omega)).2:=by simp [l_,←he,evs]
  rw[hel] at hcx
  simp -zeta only[hx,K6.r9 (h.L6 hcx) Y8 rfl]
  refine h.R8 (ds:=(s.events[i].raw (L[i]'(by omega)).2).cs.toArray) TC rfl Y8 rfl (fun v hv=>Enc.one (s.events[i].raw (L[i]'(by omega)).2) v hv) fun bb w3 h=>?_
  simp -zeta only[U0 tJ,Nat.zero_add,h.ld _ kI Y2 (o:=4) rfl,h.r9 _ kI Y8 rfl,FC,K3]
  have esucc:(s.events.take (i+1)).filter (fun e=>decide (t≤e.time))=evs L'++(if t≤s.events[i].time then [s.events[i]] else []):=by
   rw[List.take_succ_eq_append_getElem hil,List.filter_append,hev]
   congr 1
   by_cases hh:t≤s.events[i].time<;>simp [hh]
  refine⟨fun(hle:t≤s.events[i].time)=>?_,fun(hle:¬t≤s.events[i].time)=>?_⟩
  ·have hrow:O4 (L[i]'(by omega)).2.1 s.events[i].row B':=by
    have h1:O4 (L[i]'(by omega)).2.1 (L[i]'(by omega)).1.row B':=hrs (L[i]'(by omega)) (List.getElem_mem _)
    have h2:(L[i]'(by omega)).1=s.events[i]:=by simp [←he,evs]
    rw[h2] at h1
    exact h1
   refine h.make (fun B2 own base2=>Dk0 s.events[i] (L[i]'(by omega)).2 (base2 hrow) (o4 _ (List.getElem_mem hil)).1) fun y τ w4 hp h=>?_
   obtain⟨v',rfl,rfl⟩:=hp
   have h:Rel B' w4 ((Y3 Q3 u (l_ L') :: L'.map dN)++[dN (s.events[i],v')]):=h.mid
   refine h.WS (α:=Y7) 0 rfl (s.events[i].raw v') u7 (by decide) (by simp [l_];omega) (by simp [l_];omega) fun u' w5 h=>?_
   refine hJ2 _ u' (L'++[(s.events[i],v')]) ?_ ?_
   ·rw[esucc,if_pos hle]
    simp [evs]
   ·simpa [l_] using h
  ·refine hJ2 _ u L' ?_ h.drop
   rw[esucc,if_neg hle,List.append_nil]
 ·have:i=s.events.length:=by omega
  subst this
  rw[List.take_length] at hev
  exact k _ _ _ ⟨L',hev,rfl⟩ h
end
end Go.Proofs.YtngbebnhegcokaaGreatDoor

namespace Go.Proofs.YtngbebnhegcokaaGreatDoor
open Go.RowKit
set_option maxRecDepth 100000
def evB(e:Ev):Bs:=((yB (bl e.source)++encI e.schema)++encI e.time)++yB (dG e.row)
def Te0(s:St):Bs:=(((encI s.part++encI s.first)++encI s.horizon)++encI s.events.length)++s.events.flatMap evB
structure NR (s:St) (e:Ev):Prop where
 right:vQ s e=true
 row:DK e.row=true
 vals:∀v∈e.row,VK v
 schema:inI e.schema
 time:inI e.time
theorem NR.src{s:St}{e:Ev}(h:NR s e):(bl e.source).length≤200:=by
 have:=h.right
 unfold vQ at this
 simp only[Bool.and_eq_true,decide_eq_true_eq] at this
 rw[B_];exact this.2.1
theorem NR.part{s:St}{e:Ev}(h:NR s e):e.part=s.part:=by
 have:=h.right
 unfold vQ at this
 simp only[Bool.and_eq_true,decide_eq_true_eq] at this
 exact this.1
theorem NR.tm{s:St}{e:Ev}(h:NR s e):0≤e.time∧e.time≤1099511627776∧0≤e.schema:=by
 have:=h.right
 unfold vQ at this
 simp only[Bool.and_eq_true,decide_eq_true_eq] at this
 exact⟨this.2.2.2.1,this.2.2.2.2,this.2.2.1⟩
theorem NR.len{s:St}{e:Ev}(h:NR s e):e.row.length≤12∧∀v∈e.row,(bl v.s).length≤200:=by
 have:=h.row
 unfold DK at this
 rw[Bool.and_eq_true] at this
 refine⟨of_decide_eq_true this.1,fun v hv=>?_⟩
 have hv:=List.all_eq_true.1 this.2 v hv
 unfold Cg0 at hv
 by_cases h0:v.kind=0
 ·rw[if_pos h0] at hv
  rw[of_decide_eq_true hv];exact Nat.zero_le _
 rw[if_neg h0] at hv
 by_cases h1:v.kind=1
 ·rw[if_pos h1,Bool.and_eq_true] at hv
  rw[B_];exact of_decide_eq_true hv.2
 rw[if_neg h1,Bool.and_eq_true] at hv
 rw[of_decide_eq_true hv.2];exact Nat.zero_le _
theorem uY{l:List Val}(h1:l.length≤12)(h2:∀v∈l,(bl v.s).length≤200)(hg:∀v∈l,VK v):(dG l).length≤4000:=by
 have:=xE XR l 264 fun v hv=>ti0 (hg v hv) (h2 v hv)
 have h3:=Q6 (n:=(l.length:Int)) ⟨by omega,by omega⟩
 unfold dG
 rw[List.length_append]
 have:264 * l.length≤264 * 12:=Nat.mul_le_mul_left _ h1
 omega
theorem bs0{s:St}{e:Ev}(h:NR s e):(evB e).length≤5000:=by
 have h1:=wE (bl e.source) (by have:=h.src;omega)
 have h2:=Q6 h.schema
 have h3:=Q6 h.time
 have h4:=uY h.len.1 h.len.2 h.vals
 have h5:=wE (dG e.row) (by omega)
 have:=h.src
 unfold evB
 simp only[List.length_append]
 omega
structure tT (s:St):Prop where
 part:inI s.part
 first:0≤s.first∧s.first≤1152921504606846976
 horz:0≤s.horizon∧s.horizon≤1099511627777
 zero:s.horizon=0↔s.first=0
 count:s.events.length≤2000
 good:∀e∈s.events,NR s e
 pos:∀i (h:i<s.events.length),s.events[i].pos=s.first+i
noncomputable def evR(s:RS):(((Bs×Int)×Int)×Bs)×RS:=IQ (IQ (IQ D8 H5) H5) D8 s
theorem UE0:Rd2 (fun p:((Bs×Int)×Int)×Bs=>((yB p.1.1.1++encI p.1.1.2)++encI p.1.2)++yB p.2) (fun p=>((p.1.1.1.length≤9223372036854775807∧inI p.1.1.2)∧inI p.1.2)∧p.2.length≤9223372036854775807) evR :=
 ((PZ.seq mO).seq mO).seq PZ
noncomputable def IP:Nat→St→RS→Option St
 | 0,s,r=>if aO r=true then some s else none
 | k+1,s,r=>match uO (evR r).1.2 with
  | none=>none
  | some row=>if(pQ s ⟨s.part,s.next,ofL (evR r).1.1.1.1,(evR r).1.1.1.2,(evR r).1.1.2,row⟩).1=0 then IP k (pQ s ⟨s.part,s.next,ofL (evR r).1.1.1.1,(evR r).1.1.1.2,(evR r).1.1.2,row⟩).2 (evR r).2 else none
noncomputable def uZ(s:RS):(((Int×Int)×Int)×Int)×RS:=IQ (IQ (IQ H5 H5) H5) qE s
def Kd0(p:((Int×Int)×Int)×Int):Bool:=decide (p.1.1.2<0)||decide (1152921504606846976<p.1.1.2)||decide (p.1.2<0)||decide (1099511627777<p.1.2)||(decide (p.1.2=0) != decide (p.1.1.2=0))||decide (2000<p.2)
noncomputable def EY(b:Bs):Option St:=if Kd0 (uZ ⟨b,false⟩).1=true then none else
 IP (uZ ⟨b,false⟩).1.2.toNat ⟨(uZ ⟨b,false⟩).1.1.1.1,(uZ ⟨b,false⟩).1.1.1.2,(uZ ⟨b,false⟩).1.1.2,[]⟩ (uZ ⟨b,false⟩).2
theorem qy0:Rd2 (fun p:((Int×Int)×Int)×Int=>((encI p.1.1.1++encI p.1.1.2)++encI p.1.2)++encI p.2) (fun p=>((inI p.1.1.1∧inI p.1.1.2)∧inI p.1.2)∧(0≤p.2∧inI p.2)) uZ :=
 ((mO.seq mO).seq mO).seq Ns0
theorem oe0(s:St)(e:Ev):((pQ s e).1=0∧(pQ s e).2={ s with events:=s.events++[e] }∧vQ s e=true∧DK e.row=true∧e.pos=s.next∧s.events.length<2000)∨((pQ s e).1≠0∧(pQ s e).2=s):=by
 unfold pQ
 by_cases h1:vQ s e=true
 ·rw[if_pos h1]
  by_cases h2:DK e.row=true
  ·rw[if_pos h2]
   by_cases h3:e.pos=s.next
   ·rw[if_pos h3]
    by_cases h4:s.events.length<2000
    ·rw[if_pos h4];exact .inl ⟨rfl,rfl,h1,h2,h3,h4⟩
    ·rw[if_neg h4];exact .inr ⟨show (6:Int)≠0 by decide,rfl⟩
   ·rw[if_neg h3];exact .inr ⟨show (25:Int)≠0 by decide,rfl⟩
  ·rw[if_neg h2];exact .inr ⟨show (16:Int)≠0 by decide,rfl⟩
 ·rw[if_neg h1];exact .inr ⟨show (1:Int)≠0 by decide,rfl⟩
theorem wr0{s:St}{e:Ev}(h1:vQ s e=true)(h2:DK e.row=true)(h3:e.pos=s.next)(h4:s.events.length<2000):pQ s e=(0,{ s with events:=s.events++[e] }):=by
 unfold pQ
 rw[if_pos h1,if_pos h2,if_pos h3,if_pos h4]
theorem KZ:∀(l:List Ev) (s:St),(∀e∈l,NR s e)→s.events.length+l.length≤2000→(∀i (h:i<l.length),l[i].pos=s.first+(s.events.length+i:Nat)) →
  IP l.length s ⟨l.flatMap evB,false⟩=some { s with events:=s.events++l }
 | [],s,_,_,_=>by
  show IP 0 s ⟨[],false⟩=_
  rw[IP,if_pos (by rfl),List.append_nil]
 | e :: l,s,hg,hl,hp=>by
  have g:=hg e List.mem_cons_self
  rw[List.length_cons] at hl
  have hrow:=uY g.len.1 g.len.2 g.vals
  have hf:=UE0.fore (((bl e.source,e.schema),e.time),dG e.row) (l.flatMap evB) ⟨⟨⟨by have:=g.src;show (bl e.source).length≤_;omega,g.schema⟩,g.time⟩,by show (dG e.row).length≤_;omega⟩
  have e1:((e :: l).flatMap evB)=evB e++l.flatMap evB:=rfl
  rw[List.length_cons,IP,e1,show evR ⟨evB e++l.flatMap evB,false⟩=_ from hf]
  simp only
  rw[Mc0 (by have:=g.len.1;omega) g.vals]
  simp only
  have ee:(⟨s.part,s.next,ofL (bl e.source),e.schema,e.time,e.row⟩:Ev)=e:=by
   have h0:=hp 0 (Nat.succ_pos _)
   rw[fV]
   obtain⟨p,q,sr,sc,t,rw_⟩:=e
   have hpart:p=s.part:=g.part
   simp only[Nat.add_zero,List.getElem_cons_zero] at h0
   subst hpart
   rw[h0];rfl
  rw[ee]
  have hnext:e.pos=s.next:=by
   have h0:=hp 0 (Nat.succ_pos _)
   simp only[Nat.add_zero,List.getElem_cons_zero] at h0
   exact h0
  rw[wr0 g.right g.row hnext (by omega),if_pos rfl]
  have ih:=KZ l { s with events:=s.events++[e] } (fun x hx=>by
   have gx:=hg x (List.mem_cons_of_mem _ hx)
   exact⟨gx.right,gx.row,gx.vals,gx.schema,gx.time⟩) (by simp only[List.length_append,List.length_singleton];omega) (fun i hi=>by
   have:=hp (i+1) (by rw[List.length_cons];omega)
   simp only[List.getElem_cons_succ] at this
   rw[this]
   simp only[List.length_append,List.length_singleton]
   omega)
  rw[ih]
  simp
theorem Uq0{s:St}(h:tT s):EY (Te0 s)=some s:=by
 obtain⟨part,first,hor,evs⟩:=s
 have f1:inI first:=by have h1:0≤first∧first≤1152921504606846976:=h.first;constructor<;>omega
 have f2:inI hor:=by have h1:0≤hor∧hor≤1099511627777:=h.horz;constructor<;>omega
 have f3:inI (evs.length:Int):=by have h1:evs.length≤2000:=h.count;constructor<;>omega
 have hf:=qy0.fore (((part,first),hor),(evs.length:Int)) (evs.flatMap evB) ⟨⟨⟨h.part,f1⟩,f2⟩,by show (0:Int)≤evs.length;omega,f3⟩
 unfold EY
 rw[show uZ ⟨Te0 ⟨part,first,hor,evs⟩,false⟩=_ from hf]
 simp only
 have hb:Kd0 (((part,first),hor),(evs.length:Int))=false:=by
  unfold Kd0
  have h1:=h.first
  have h2:=h.horz
  have h3:=h.count
  have h4:decide (hor=0)=decide (first=0):=decide_eq_decide.2 h.zero
  simp only at h1 h2 h3 ⊢
  rw[h4,decide_eq_false (show ¬first<0 by omega),decide_eq_false (show ¬1152921504606846976<first by omega),decide_eq_false (show ¬hor<0 by omega),decide_eq_false (show ¬1099511627777<hor by omega),decide_eq_false (show ¬(2000:Int)<evs.length by omega)]
  simp
 rw[hb,if_neg (by decide),Int.toNat_natCast]
 have:=KZ evs ⟨part,first,hor,[]⟩ (fun e he=>by
  have g:=h.good e he
  exact⟨g.right,g.row,g.vals,g.schema,g.time⟩) (by have:=h.count;simpa using this) (fun i hi=>by
  have:=h.pos i hi
  rw[List.length_nil,Nat.zero_add]
  exact this)
 rw[this]
 simp
theorem dq0(h:Int):∀l:List Ev,h≤hor h l∧∀e∈l,e.time+1≤hor h l
 | []=>⟨Int.le_refl _,fun e he=>by cases he⟩
 | a :: l=>by
  obtain⟨h1,h2⟩:=dq0 (max h (a.time+1)) l
  show h≤hor (max h (a.time+1)) l∧∀e∈a :: l,e.time+1≤hor (max h (a.time+1)) l
  refine⟨by omega,fun e he=>?_⟩
  rcases List.mem_cons.1 he with rfl | he
  ·omega
  ·exact h2 e he
theorem ty0{M:Int}:∀(l:List Ev) (h:Int),h≤M→(∀e∈l,e.time+1≤M)→hor h l≤M
 | [],h,h1,_=>h1
 | a :: l,h,h1,h2=>ty0 l (max h (a.time+1)) (by have:=h2 a List.mem_cons_self;omega) fun e he=>h2 e (List.mem_cons_of_mem _ he)
theorem tT.add{s:St}(h:tT s)(e:Ev)(hv:∀v∈e.row,VK v)(hs:inI e.schema)(ht:inI e.time):tT (pQ s e).2:=by
 rcases oe0 s e with⟨_,e2,e3,e4,e5,e6⟩ | ⟨_,e2⟩
 ·rw[e2]
  refine⟨h.part,h.first,h.horz,h.zero,by simp only[List.length_append,List.length_singleton];omega,fun x hx=>?_,fun i hi=>?_⟩
  ·rcases List.mem_append.1 hx with hx | hx
   ·have g:=h.good x hx
    exact⟨g.right,g.row,g.vals,g.schema,g.time⟩
   ·rw[List.mem_singleton.1 hx];exact⟨e3,e4,hv,hs,ht⟩
  ·simp only[List.length_append,List.length_singleton] at hi
   by_cases c:i<s.events.length
   ·simp only[List.getElem_append_left c];exact h.pos i c
   ·have e7:i=s.events.length:=by omega
    subst e7
    simp only[List.getElem_append_right (Nat.le_refl _),Nat.sub_self,List.getElem_cons_zero]
    exact e5
 ·rw[e2];exact h
theorem tT.cut{s:St}(h:tT s){n:Nat}(hn:n≤s.events.length)(hb:s.first+s.events.length≤1152921504606846976):tT (Oe0 s n):=by
 have h1:=h.first
 have h2:=h.horz
 obtain⟨g1,g2⟩:=dq0 s.horizon (s.events.take n)
 have htm:∀e∈s.events.take n,0≤e.time∧e.time+1≤1099511627777:=fun e he=>by
  have:=(h.good e (List.mem_of_mem_take he)).tm
  omega
 refine⟨h.part,⟨by show 0≤s.first+n;omega,by show s.first+n≤_;omega⟩,⟨by show 0≤hor s.horizon (s.events.take n);omega,ty0 _ _ h2.2 fun e he=>(htm e he).2⟩,?_,by show (s.events.drop n).length≤_;rw[List.length_drop];have:=h.count;omega,fun e he=>?_,fun i hi=>?_⟩
 ·show hor s.horizon (s.events.take n)=0↔s.first+n=0
  by_cases c:n=0
  ·subst c
   rw[List.take_zero]
   show s.horizon=0↔s.first+0=0
   rw[Int.add_zero];exact h.zero
  ·have hm:s.events[0]'(by omega)∈s.events.take n:=by
    rw[List.mem_take_iff_getElem];exact⟨0,by omega,rfl⟩
   have:=g2 _ hm
   have:=(htm _ hm).1
   exact⟨fun hh=>by omega,fun hh=>by omega⟩
 ·have g:=h.good e (List.mem_of_mem_drop he)
  exact⟨g.right,g.row,g.vals,g.schema,g.time⟩
 ·have hi2:i<(s.events.drop n).length:=hi
  have e:(Oe0 s n).events[i]=(s.events.drop n)[i]'hi2:=rfl
  refine(congrArg Ev.pos e).trans ?_
  rw[List.getElem_drop,h.pos]
  show s.first+((n+i:Nat):Int)=s.first+n+i
  omega
theorem Ku0{s:St}(h:tT s):(Te0 s).length≤20000000:=by
 have:=xE evB s.events 5000 fun e hx=>bs0 (h.good e hx)
 have h1:=Q6 h.part
 have h2:=Q6 (n:=s.first) (by have:=h.first;constructor<;>omega)
 have h3:=Q6 (n:=s.horizon) (by have:=h.horz;constructor<;>omega)
 have h4:=Q6 (n:=(s.events.length:Int)) (by have:=h.count;constructor<;>omega)
 have:=h.count
 have:5000 * s.events.length≤5000 * 2000:=Nat.mul_le_mul_left _ h.count
 unfold Te0
 simp only[List.length_append]
 omega
end Go.Proofs.YtngbebnhegcokaaGreatDoor

namespace Go.Proofs.YtngbebnhegcokaaGreatDoor
open Go.RowKit
set_option maxRecDepth 100000
end Go.Proofs.YtngbebnhegcokaaGreatDoor

namespace Go.Proofs.YtngbebnhegcokaaGreatDoor
open Go.RowKit
set_option maxRecDepth 100000
section
variable {P:Program} {Kp:Value→Prop} {B:Base} {w:World} {σ:List Dat} {b:Nat} {s:St} {T:TypeId}
theorem ew0(h:Rel B w σ)(i:Nat)(hi:σ[i]? = some (U7 b s))(hs:scB P T=true):Y0 P (X0 T (.pointer (some ⟨b,0,none⟩))) w Kp=Kp (.int .i64 s.part):=by
 obtain⟨v,L,_,_,h3,_⟩:=U7.read (h.here hi)
 exact O1.ld h3 hs rfl
theorem EB(h:Rel B w σ)(i:Nat)(hi:σ[i]? = some (U7 b s))(hs:scB P T=true):Is P (X0 T (.pointer (some ⟨b,0,none⟩))) (.int .i64 s.part) w:=by
 obtain⟨v,L,_,_,h3,_⟩:=U7.read (h.here hi)
 exact O1.is h3 hs rfl
end
section
variable {B:Base} {w:World} {σ:List Dat}
theorem cw0{b:Nat}{s:St}(hB:qC B)(hs:wQ b s B)(hR:tT s):Gives Tryz.prog B (Z0 pK #[ptr b]) (.string (ofL (Te0 s))):=by
 refine Gives.wf0 fun B' w K base h start k=>?_
 replace hB:=base hB
 obtain⟨v,L,he,ho,hc,r,q⟩:=hs
 replace hc:=base hc
 replace r:=base r
 replace q:sM L B':=base q
 refine XI.up ?_
 unfold XI.pt
 have hlen:(l_ L).length=s.events.length:=CK he
 have hcount:=hR.count
 have hfi:=hR.first
 have hho:=hR.horz
 have hall:=xE evB s.events 5000 fun e hx=>bs0 (hR.good e hx)
 refine h.alloc PG fun bb w1 h=>?_
 have h:=start w1 bb h
 have h:=h.tick
 have hin:inI (s.events.length:Int):=⟨by omega,by omega⟩
 have f1:inI s.first:=⟨by omega,by omega⟩
 have f2:inI s.horizon:=⟨by omega,by omega⟩
 have l1:=Q6 hR.part
 have l2:=Q6 f1
 have l3:=Q6 f2
 have l4:=Q6 hin
 have en:gd0 (s.events.length:Int)=encI s.events.length:=by unfold gd0;rw[if_neg (by omega)]
 have ld:∀{w:World} {σ:List Dat} {o:Nat} {T:TypeId} {x:Value} {Kp:Value→Prop},Rel B' w σ→scB Tryz.prog T=true→(#[Value.int .i64 s.part,.int .i64 s.first,.int .i64 s.horizon,v.1]:Array Value).toList[o]? = some x→Y0 Tryz.prog (X0 T (.pointer (some ⟨b,o,none⟩))) w Kp=Kp x:=fun h ht hx=>O1.ld (h.L6 hc) ht hx
 have is:∀{w:World} {σ:List Dat} {o:Nat} {T:TypeId} {x:Value},Rel B' w σ→scB Tryz.prog T=true→(#[Value.int .i64 s.part,.int .i64 s.first,.int .i64 s.horizon,v.1]:Array Value).toList[o]? = some x→Is Tryz.prog (X0 T (.pointer (some ⟨b,o,none⟩))) x w:=fun h ht hx=>O1.is (h.L6 hc) ht hx
 have lenIs:∀{w:World} {σ:List Dat},Rel B' w σ→Is Tryz.prog (M5 .len #[M4] Q0 #[false] #[v.1]) (.int .i64 s.events.length) w:=fun _=>Cy0 fun {K}=>by rw[O4.len r u7,hlen]
 simp -zeta only[J5,U0 eP,U0 mF,U0 gL,U0 XA,Nat.add_zero,Nat.zero_add]
 rw[ld h Y2 (o:=0) rfl,ld h Y2 (o:=1) rfl,ld h Y2 (o:=2) rfl,ld h q9 (o:=3) rfl,O4.len r u7,hlen]
 refine h.ask (fun B2 own base2=>wC (base2 hB) hR.part) fun w2 h=>?_
 refine⟨lenIs h,is h q9 (o:=3) rfl,is h Y2 (o:=2) rfl,is h Y2 (o:=1) rfl,?_⟩
 refine h.ask (fun B2 own base2=>wC (base2 hB) f1) fun w3 h=>?_
 refine⟨lenIs h,is h q9 (o:=3) rfl,is h Y2 (o:=2) rfl,?_⟩
 rw[C9 (by omega)]
 refine h.ask (fun B2 own base2=>wC (base2 hB) f2) fun w4 h=>?_
 refine⟨lenIs h,is h q9 (o:=3) rfl,?_⟩
 rw[C9 (by simp only[List.length_append];omega)]
 refine h.ask (fun B2 own base2=>fh0 (base2 hB) hin) fun w5 h=>?_
 rw[en,C9 (by simp only[List.length_append];omega)]
 refine h.VN (Nat.le_refl _) (by rw[Q_];simp only[List.length_append,List.length_nil];omega) fun _ w6 h=>?_
 rw[GI,List.nil_append] at h
 rw[ld h q9 (o:=3) rfl,O4.len r u7,hlen]
 unfold Te0 at k
 generalize hhd:(((encI s.part++encI s.first)++encI s.horizon)++encI s.events.length)=hd at *
 have hhl:hd.length≤84:=by rw[←hhd];simp only[List.length_append];omega
 refine F6 (fun x w'=>∃i:Nat,i≤s.events.length∧x=(.int .i64 i,())∧Rel B' w' [bP B'.W.heap.size bb (hd++(s.events.take i).flatMap evB)]) (fun x _=>s.events.length-(match x.1 with | .int _ n=>n.toNat | _=>0))
  ⟨0,Nat.zero_le _,rfl,by simpa using h⟩ ?_
 clear h
 rintro x w7 ⟨i,hi,rfl,h⟩ next hnext
 simp -zeta only[G6,K3]
 refine⟨fun hlt=>?_,fun hge=>?_⟩
 ·have hil:i<s.events.length:=by omega
  have hiL:i<L.length:=by rw[←he,evs,List.length_map] at hil;exact hil
  obtain⟨g,o,hx,hcl⟩:=O4.idx r u7 (P:=Tryz.prog) (i:=i) (by rw[hlen];exact hil)
  have hev:s.events[i]=L[i].1:=by
   have:s.events[i]? = (evs L)[i]? := by rw[he]
   rw[List.getElem?_eq_getElem hil,evs,List.getElem?_map,List.getElem?_eq_getElem hiL] at this
   injection this
  have hraw:(l_ L)[i]'(by rw[hlen];exact hil)=L[i].1.raw L[i].2:=by simp [l_]
  rw[hraw] at hcl
  have hcl:K6 g o (L[i].1.raw L[i].2).cs B':=hcl
  have hq:O4 L[i].2.1 L[i].1.row B':=q _ (List.getElem_mem hiL)
  have hgd:=hR.good s.events[i] (List.getElem_mem hil)
  rw[hev] at hgd
  have hstep:=jI evB hil
  have hle:=QE evB s.events (i+1)
  rw[hstep,List.length_append,hev] at hle
  rw[hev] at hstep
  generalize L[i].1=e at *
  generalize L[i].2=ev at *
  have hsrc:=hgd.src
  have hrl:=uY hgd.len.1 hgd.len.2 hgd.vals
  have a1:=wE (bl e.source) (by omega)
  have a2:=Q6 hgd.schema
  have a3:=Q6 hgd.time
  have a4:=wE (dG e.row) (by omega)
  rw[hx,K6.r9 (h.L6 hcl) Y8 rfl]
  refine h.R8 (ds:=(e.raw ev).cs.toArray) TC rfl Y8 rfl (fun v hv=>Enc.one (e.raw ev) v hv) fun a w9 h=>?_
  have h:Rel B' w9 [bP B'.W.heap.size bb (hd++(s.events.take i).flatMap evB),O1 a Q3 (e.raw ev).cs.toArray]:=h
  have h:=h.tick
  simp -zeta only[U0 ET,U0 FT,U0 tJ,U0 lM,Nat.add_zero,Nat.zero_add]
  rw[h.ld 1 rfl U6 (o:=2) (v := .string e.source) rfl,h.ld 1 rfl Y2 (o:=3) (v := .int .i64 e.schema) rfl,h.ld 1 rfl Y2 (o:=4) (v := .int .i64 e.time) rfl,h.ld 1 rfl H7 (o:=5) (v:=ev.1) rfl]
  have es:e.source=ofL (bl e.source):=(fV e.source).symm
  refine h.ask (v := .string (ofL (yB (bl e.source)))) (fun B2 own base2=>by have:=gT (B:=B2) (base2 hB) (s:=bl e.source) (by omega);rw[←es] at this;exact this) fun w10 h=>?_
  refine⟨h.is 1 rfl H7 (o:=5) rfl,h.is 1 rfl Y2 (o:=4) rfl,h.is 1 rfl Y2 (o:=3) rfl,?_⟩
  refine h.ask (fun B2 own base2=>wC (base2 hB) hgd.schema) fun w11 h=>?_
  refine⟨h.is 1 rfl H7 (o:=5) rfl,h.is 1 rfl Y2 (o:=4) rfl,?_⟩
  rw[C9 (by omega)]
  refine h.ask (fun B2 own base2=>wC (base2 hB) hgd.time) fun w12 h=>?_
  refine⟨h.is 1 rfl H7 (o:=5) rfl,?_⟩
  rw[C9 (by simp only[List.length_append];omega)]
  refine h.ask (fun B2 own base2=>Dg0 (base2 hB) (base2 hq) (by have:=hgd.len.1;omega) fun v hv=>⟨hgd.vals v hv,by have:=hgd.len.2 v hv;omega⟩) fun w13 h=>?_
  refine h.ask (fun B2 own base2=>gT (base2 hB) (by omega)) fun w14 h=>?_
  rw[C9 (by simp only[List.length_append];omega)]
  have hevl:(evB e).length=(yB (bl e.source)).length+(encI e.schema).length+(encI e.time).length+(yB (dG e.row)).length:=by unfold evB;simp only[List.length_append]
  refine(h.take 1).VN (Nat.le_refl _) (by rw[Q_];simp only[List.length_append];omega) fun _ w15 h=>?_
  rw[GI] at h
  rw[Z5,E5 (by omega) (by omega)]
  refine hnext _ _ ⟨i+1,hil,rfl,?_⟩ (by simp only;omega)
  rw[hstep,←List.append_assoc]
  exact h
 ·refine h.gU (Nat.le_refl _) fun w7 h=>?_
  have hie:i=s.events.length:=by omega
  subst hie
  rw[List.take_length]
  exact k _ _ h
theorem BA0 (hB : qC B) {t : Bs} (ht : t.length ≤ 1099511627776) : Makes Tryz.prog B (Z0 kT #[.string (ofL t)]) fun u τ => (∃ s b, EY t = some s ∧ u = .tuple #[ptr b, .bool true] ∧ τ = [U7 b s]) ∨ (EY t = none ∧ u = .tuple #[.pointer none, .bool false] ∧ τ = []) := by
  refine Makes.intro fun B' w K base h k => ?_
  replace hB := base hB
  refine aT.up ?_
  unfold aT.pt
  refine h.make (fun B2 own base2 => WT) fun u τ w1 hp h => ?_
  obtain ⟨p, rfl, rfl⟩ := hp
  have h : Rel B' w1 [rdD p ⟨t, false⟩] := h
  have no : EY t = none → ∀ w' τ, Rel B' w' τ → K (.tuple #[.pointer none, .bool false]) w' := fun hn w' τ h => k _ _ _ (.inr ⟨hn, rfl, rfl⟩) h.nil
  have yes : ∀ s b, EY t = some s → ∀ w', Rel B' w' [U7 b s] → K (.tuple #[ptr b, .bool true]) w' := fun s b h1 w' h => k _ _ _ (.inl ⟨s, b, h1, rfl, rfl⟩) h
  clear k
  unfold EY at no yes
  have hsn : WK ⟨t, false⟩ := fun hb => by cases hb
  have q1 := YD ⟨t, false⟩
  have q2 := YD (H5 ⟨t, false⟩).2
  have q3 := YD (H5 (H5 ⟨t, false⟩).2).2
  have q4 := Od0 (H5 (H5 (H5 ⟨t, false⟩).2).2).2
  have q0 : (⟨t, false⟩ : RS).rest.length = t.length := rfl
  have s4 := Va0 (iG (iG (iG hsn)))
  have i1 : inI (H5 ⟨t, false⟩).1 := (zB (.inl rfl : bE 59) zF0 ⟨t, false⟩).2.1
  have i2 : inI (H5 (H5 ⟨t, false⟩).2).1 := (zB (.inl rfl : bE 59) zF0 (H5 ⟨t, false⟩).2).2.1
  have i3 : inI (H5 (H5 (H5 ⟨t, false⟩).2).2).1 := (zB (.inl rfl : bE 59) zF0 (H5 (H5 ⟨t, false⟩).2).2).2.1
  have n0 : 0 ≤ (qE (H5 (H5 (H5 ⟨t, false⟩).2).2).2).1 := (zB (.inl rfl : bE 59) 0 (H5 (H5 (H5 ⟨t, false⟩).2).2).2).2.2 (Int.le_refl 0)
  refine h.rd_ 0 rfl (fun B2 own base2 => mD (base2 hB) (by omega)) fun w2 h => ?_
  refine h.make (fun B2 own base2 => gz0 _) fun u τ w3 hp h => ?_
  obtain ⟨b, rfl, rfl⟩ := hp
  refine h.rd_ 0 rfl (fun B2 own base2 => mD (base2 hB) (by omega)) fun w4 h => ?_
  refine h.rd_ 0 rfl (fun B2 own base2 => mD (base2 hB) (by omega)) fun w5 h => ?_
  have hdef : uZ ⟨t, false⟩ = ((((( H5 ⟨t, false⟩).1, (H5 (H5 ⟨t, false⟩).2).1), (H5 (H5 (H5 ⟨t, false⟩).2).2).1), (qE (H5 (H5 (H5 ⟨t, false⟩).2).2).2).1), (qE (H5 (H5 (H5 ⟨t, false⟩).2).2).2).2) := rfl
  rw [hdef] at no yes
  simp only at no yes
  have hn4 : ∀ {K : Value → World → Prop} {w : World} {σ : List Dat}, Rel B' w (rdD p (H5 (H5 (H5 ⟨t, false⟩).2).2).2 :: σ) → (∀ w', Rel B' w' (rdD p (qE (H5 (H5 (H5 ⟨t, false⟩).2).2).2).2 :: σ) → K (.int .i64 (qE (H5 (H5 (H5 ⟨t, false⟩).2).2).2).1) w') → upK Tryz.prog (Z0 qA #[uS p]) w K := fun h kk =>
    h.rd_ 0 rfl (fun B2 own base2 => CY (base2 hB) (by omega)) fun w' h => kk w' h
  have h : Rel B' w5 [rdD p (H5 (H5 (H5 ⟨t, false⟩).2).2).2, U7 b ⟨(H5 ⟨t, false⟩).1, 0, 0, []⟩] := h
  have e4 : (qE (H5 (H5 (H5 ⟨t, false⟩).2).2).2).2.rest.length ≤ t.length := by omega
  generalize (qE (H5 (H5 (H5 ⟨t, false⟩).2).2).2) = nn at *
  generalize (H5 (H5 (H5 ⟨t, false⟩).2).2) = hh at *
  generalize (H5 (H5 ⟨t, false⟩).2) = ff at *
  generalize (H5 ⟨t, false⟩) = pp at *
  obtain ⟨n, r4⟩ := nn
  obtain ⟨hz, r3⟩ := hh
  obtain ⟨f, r2⟩ := ff
  obtain ⟨pt, r1⟩ := pp
  simp only at no yes h hn4 s4 e4 i1 i2 i3 n0
  obtain ⟨⟨v0, L0⟩, h⟩ := h.ex (i := 1) rfl
  obtain ⟨⟨hL0, _⟩, h⟩ := h.VS (i := 1) rfl
  have h := Rel.split (i := 1) h rfl
  have h := Rel.split (i := 2) h rfl
  have h := h.pick [1, 2, 3, 0] (by decide)
  have h : Rel B' w5 [XL b ⟨pt, 0, 0, []⟩ v0.1, Y3 Q3 v0.1 (l_ L0), sM L0, rdD p r3] := h
  simp -zeta only [J5, U0 eP, U0 mF, U0 gL, U0 XA, Nat.add_zero, Nat.zero_add]
  refine h.st 0 rfl Y2 (show 1 < 4 by omega) rfl fun w6 h => ?_
  refine h.st 0 rfl Y2 (show 2 < 4 by omega) rfl fun w7 h => ?_
  have h : Rel B' w7 [XL b ⟨pt, f, hz, []⟩ v0.1, Y3 Q3 v0.1 (l_ L0), sM L0, rdD p r3] := h
  refine hn4 (h.pick [3, 0, 1, 2] (by decide)) fun w8 h => ?_
  have h := h.tick
  have h : Rel B' (tick w8) [rdD p r4, XL b ⟨pt, f, hz, []⟩ v0.1, Y3 Q3 v0.1 (l_ L0), sM L0] := h
  simp -zeta only [h.ld 1 rfl Y2 (o := 1) (v := .int .i64 f) rfl, h.ld 1 rfl Y2 (o := 2) (v := .int .i64 hz) rfl]
  unfold Kd0 at no yes
  simp only at no yes
  rw [G6, K3]
  refine ⟨fun c => no (if_pos (by rw [decide_eq_true c]; simp)) _ _ h, fun c1 => ?_⟩
  rw [x9, K3]
  refine ⟨fun c => no (if_pos (by rw [decide_eq_true c]; simp)) _ _ h, fun c2 => ?_⟩
  rw [G6, K3]
  refine ⟨fun c => no (if_pos (by rw [decide_eq_true c]; simp)) _ _ h, fun c3 => ?_⟩
  rw [x9, K3]
  refine ⟨fun c => no (if_pos (by rw [decide_eq_true c]; simp)) _ _ h, fun c4 => ?_⟩
  rw [F7, F7, kk0 Fw0, G5, R5]
  refine ⟨fun c5 => ?_, fun c => no (if_pos (by have : (decide (hz = 0) != decide (f = 0)) = true := by rw [bne, c]; rfl
                                                rw [this]; simp)) _ _ h⟩
  rw [x9, K3]
  refine ⟨fun c => no (if_pos (by rw [decide_eq_true c]; simp)) _ _ h, fun c6 => ?_⟩
  have hbad : ¬ (decide (f < 0) || decide (1152921504606846976 < f) || decide (hz < 0) || decide (1099511627777 < hz) || (decide (hz = 0) != decide (f = 0)) || decide (2000 < n)) = true := by
    have : (decide (hz = 0) != decide (f = 0)) = false := by rw [bne, c5]; rfl
    rw [this, decide_eq_false c1, decide_eq_false c2, decide_eq_false c3, decide_eq_false c4, decide_eq_false c6]; decide
  rw [if_neg hbad] at no yes
  obtain ⟨m, rfl⟩ : ∃ m : Nat, n = m := ⟨n.toNat, by omega⟩
  rw [Int.toNat_natCast] at no yes
  have h := h.pick [1, 2, 3, 0] (by decide)
  have h : Rel B' (tick w8) [XL b ⟨pt, f, hz, []⟩ v0.1, Y3 Q3 v0.1 (l_ L0), sM L0, rdD p r4] := h
  have h := zN h hL0 ⟨by show 0 ≤ f; omega, by show f ≤ _; omega, Nat.zero_le _, fun e he => (by cases he)⟩
  clear c5 hbad hn4
  refine F6 (fun x w' => ∃ (i : Nat) (s : St) (r : RS), i ≤ m ∧ x = (.int .i64 i, ()) ∧ IP (m - i) s r = IP m ⟨pt, f, hz, []⟩ r4 ∧ WK r ∧ r.rest.length ≤ t.length ∧ s.part = pt ∧ Rel B' w' [U7 b s, rdD p r]) (fun x _ => m - (match x.1 with | .int _ n => n.toNat | _ => 0))
    ⟨0, ⟨pt, f, hz, []⟩, r4, Nat.zero_le _, rfl, rfl, s4, by omega, rfl, h⟩ ?_
  clear h
  rintro x w9 ⟨i, s, r, hi, rfl, hev, hsa, hrl, hpt, h9⟩ next hnext
  rw [G6, K3]
  refine ⟨fun hlt => ?_, fun hge => ?_⟩
  case refine_2 =>
    have e0 : m - i = 0 := by omega
    rw [e0, IP] at hev
    refine h9.ask (fun B2 own base2 => dR (own (i := 1) rfl)) fun w8 h => ?_
    rw [V7, G5, R5]
    refine ⟨fun cd => ?_, fun cd => no (by rw [← hev]; exact if_neg (by rw [cd]; decide)) _ _ h⟩
    exact yes s b (by rw [← hev]; exact if_pos cd) _ (h.pick [0] (by decide))
  obtain ⟨k, hk⟩ : ∃ k, m - i = k + 1 := ⟨m - i - 1, by omega⟩
  rw [hk, IP] at hev
  subst hpt
  have z1 := AU r
  have z2 := YD (D8 r).2
  have z3 := YD (H5 (D8 r).2).2
  have z4 := AU (H5 (H5 (D8 r).2).2).2
  have z5 := RY hsa
  have z6 := RY (iG (iG z5))
  have rev : evR r = ((((((D8 r).1), (H5 (D8 r).2).1), (H5 (H5 (D8 r).2).2).1), (D8 (H5 (H5 (D8 r).2).2).2).1), (D8 (H5 (H5 (D8 r).2).2).2).2) := rfl
  rw [rev] at hev
  simp only at hev
  have rd1 : ∀ {K : Value → World → Prop} {w : World} {σ : List Dat}, Rel B' w (U7 b s :: rdD p r :: σ) → (∀ w', Rel B' w' (U7 b s :: rdD p (D8 r).2 :: σ) → K (.string (ofL (D8 r).1)) w') → upK Tryz.prog (Z0 y8 #[uS p]) w K := fun h kk => h.rd_ 1 rfl (fun B2 own base2 => iR (base2 hB) (by omega)) kk
  have rd2 : ∀ {K : Value → World → Prop} {w : World} {σ : List Dat}, Rel B' w (U7 b s :: rdD p (D8 r).2 :: σ) → (∀ w', Rel B' w' (U7 b s :: rdD p (H5 (D8 r).2).2 :: σ) → K (.int .i64 (H5 (D8 r).2).1) w') → upK Tryz.prog (Z0 Q4 #[uS p]) w K := fun h kk => h.rd_ 1 rfl (fun B2 own base2 => mD (base2 hB) (by omega)) kk
  have rd3 : ∀ {K : Value → World → Prop} {w : World} {σ : List Dat}, Rel B' w (U7 b s :: rdD p (H5 (D8 r).2).2 :: σ) → (∀ w', Rel B' w' (U7 b s :: rdD p (H5 (H5 (D8 r).2).2).2 :: σ) → K (.int .i64 (H5 (H5 (D8 r).2).2).1) w') → upK Tryz.prog (Z0 Q4 #[uS p]) w K := fun h kk => h.rd_ 1 rfl (fun B2 own base2 => mD (base2 hB) (by omega)) kk
  have rd4 : ∀ {K : Value → World → Prop} {w : World} {σ : List Dat}, Rel B' w (U7 b s :: rdD p (H5 (H5 (D8 r).2).2).2 :: σ) → (∀ w', Rel B' w' (U7 b s :: rdD p (D8 (H5 (H5 (D8 r).2).2).2).2 :: σ) → K (.string (ofL (D8 (H5 (H5 (D8 r).2).2).2).1)) w') → upK Tryz.prog (Z0 y8 #[uS p]) w K := fun h kk => h.rd_ 1 rfl (fun B2 own base2 => iR (base2 hB) (by omega)) kk
  have z7 : (D8 (H5 (H5 (D8 r).2).2).2).1.length ≤ t.length := by omega
  have z8 : (D8 (H5 (H5 (D8 r).2).2).2).2.rest.length ≤ t.length := by omega
  clear z1 z2 z3 z4 rev
  generalize D8 (H5 (H5 (D8 r).2).2).2 = y4 at *
  generalize H5 (H5 (D8 r).2).2 = y3 at *
  generalize H5 (D8 r).2 = y2 at *
  generalize D8 r = y1 at *
  obtain ⟨x4, q4⟩ := y4
  obtain ⟨x3, q3⟩ := y3
  obtain ⟨x2, q2⟩ := y2
  obtain ⟨x1, q1⟩ := y1
  simp only at hev rd1 rd2 rd3 rd4 z5 z6 z7 z8
  refine P6 fun J1 hJ1 => ?_
  replace hJ1 : ∀ e7 w', Rel B' w' [U7 b s, rdD p q3, O1 e7 Q3 ((⟨s.part, s.next, ofL x1, x2, x3, ⟨.slice none 0 0, rfl⟩⟩ : Y7).cs.toArray)] → J1 (.pointer (some ⟨e7, 0, none⟩), ()) w' := fun e7 w' h => by
    refine hJ1 _ _ ?_
    refine rd4 h fun w11 h => ?_
    refine h.make (fun B2 own base2 => kj0 (base2 hB) (by omega)) fun u τ w12 hp h => ?_
    simp -zeta only [U0 lM, Nat.zero_add]
    rcases hp with ⟨row, v, hrow, rfl, rfl⟩ | ⟨hn, rfl, rfl⟩
    · simp -zeta only [M9, D9]
      have h : Rel B' w12 [U7 b s, rdD p q4, O1 e7 Q3 ((⟨s.part, s.next, ofL x1, x2, x3, ⟨.slice none 0 0, rfl⟩⟩ : Y7).cs.toArray), Y3 R3 v row] := h
      have hv1 : v.oneCell' = true := h.oneCell (i := 3) rfl
      refine h.st 2 rfl H7 (show 5 < 6 by omega) hv1 fun w13 h => ?_
      rw [V7, Bool.not_true, d_]
      have h : Rel B' w13 [U7 b s, rdD p q4, O1 e7 Q3 (((⟨s.part, s.next, ofL x1, x2, x3, row⟩ : Ev).raw ⟨v, hv1⟩).cs.toArray), Y3 R3 v row] := h
      rw [h.r9 2 rfl Y8 rfl]
      rw [hrow] at hev
      simp only at hev
      obtain ⟨g1, g2⟩ := ol0 hrow
      have hg := oe0 s ⟨s.part, s.next, ofL x1, x2, x3, row⟩
      refine h.act 0 rfl (fun B2 own base2 => Qw0 ⟨s.part, s.next, ofL x1, x2, x3, row⟩ ⟨v, hv1⟩ (Y3.read (own (j := 3) (by decide) rfl)) fun y hy => by have := (g2 y hy).s; rw [B_] at this; exact this) fun u e' τ w14 hp h => ?_
      obtain ⟨rfl, rfl, rfl⟩ := hp
      rw [Q7, G5, K3]
      refine ⟨fun c => ?_, fun c => no (by rw [← hev]; exact if_neg c) _ _ h⟩
      rw [if_pos c] at hev
      rw [Z5, E5 (by omega) (by omega)]
      refine hnext _ _ ⟨i + 1, _, q4, by omega, rfl, by rw [show m - (i + 1) = k by omega]; exact hev, z6, z8, ?_, h.pick [0, 1] (by decide)⟩ (by simp only; omega)
      rcases hg with ⟨_, hg, _⟩ | ⟨_, hg⟩ <;> rw [hg]
    · simp -zeta only [M9, D9]
      have h : Rel B' w12 [U7 b s, rdD p q4, O1 e7 Q3 ((⟨s.part, s.next, ofL x1, x2, x3, ⟨.slice none 0 0, rfl⟩⟩ : Y7).cs.toArray)] := h
      refine h.st 2 rfl H7 (show 5 < 6 by omega) rfl fun w13 h => ?_
      rw [V7, Bool.not_false, lC]
      rw [hn] at hev
      exact no hev.symm _ _ h
  have put : ∀ (e7 : Nat) (cs : Array Value) (w' : World), cs.size = 6 → Rel B' w' [U7 b s, rdD p q3, O1 e7 Q3 cs] →
      upK Tryz.prog (I4 Q3 (.pointer (some ⟨e7, 0, none⟩)) ((⟨s.part, s.next, ofL x1, x2, x3, ⟨.slice none 0 0, rfl⟩⟩ : Y7).v)) w' fun _ w'' => J1 (.pointer (some ⟨e7, 0, none⟩), ()) w'' := fun e7 cs w' hcs h => by
    refine h.YG 2 (ds := (⟨s.part, s.next, ofL x1, x2, x3, ⟨.slice none 0 0, rfl⟩⟩ : Y7).cs.toArray) rfl Y8 rfl hcs (fun v hv => Enc.one (⟨s.part, s.next, ofL x1, x2, x3, ⟨.slice none 0 0, rfl⟩⟩ : Y7) v hv) fun w13 h => ?_
    exact hJ1 e7 _ h
  have bd : ∀ {Kp : Value → Prop}, M0 Tryz.prog (H6 Q3 #[(0, .int .i64 s.part), (1, .int .i64 s.next), (2, .string (ofL x1)), (3, .int .i64 x2), (4, .int .i64 x3)]) Kp = Kp ((⟨s.part, s.next, ofL x1, x2, x3, ⟨.slice none 0 0, rfl⟩⟩ : Y7).v) := fun {Kp} => LU
  have nx : ∀ {K : Value → World → Prop} {w : World} {σ : List Dat}, Rel B' w (U7 b s :: σ) → (∀ w', Rel B' w' (U7 b s :: σ) → K (.int .i64 s.next) w') → upK Tryz.prog (Z0 v_ #[ptr b]) w K := fun h kk => h.ask (fun B2 own base2 => Wa0 (U7.read (own (i := 0) rfl))) kk
  clear hJ1 hnext
  have h := h9.tick
  rw [ew0 h 0 rfl Y2]
  refine ⟨?_, ?_⟩
  · refine nx h fun w15 h => ⟨EB h 0 rfl Y2, ?_, ?_⟩
    · refine rd1 h fun w16 h => ⟨EB h 0 rfl Y2, ?_, ?_⟩
      · refine rd2 h fun w17 h => ⟨EB h 0 rfl Y2, ?_, ?_⟩
        · refine rd3 h fun w18 h => ⟨EB h 0 rfl Y2, ?_⟩
          rw [bd]
          refine h.alloc TC fun e7 w19 h => ⟨EB h 0 rfl Y2, ?_⟩
          exact put e7 _ _ rfl h
        · refine h.alloc TC fun e7 w19 h => ⟨EB h 0 rfl Y2, ?_⟩
          refine rd3 h fun w18 h => ⟨EB h 0 rfl Y2, ?_⟩
          rw [bd]
          exact put e7 _ _ rfl h
      · refine h.alloc TC fun e7 w19 h => ⟨EB h 0 rfl Y2, ?_⟩
        refine rd2 h fun w17 h => ⟨EB h 0 rfl Y2, ?_⟩
        refine rd3 h fun w18 h => ⟨EB h 0 rfl Y2, ?_⟩
        rw [bd]
        exact put e7 _ _ rfl h
    · refine h.alloc TC fun e7 w19 h => ⟨EB h 0 rfl Y2, ?_⟩
      refine rd1 h fun w16 h => ⟨EB h 0 rfl Y2, ?_⟩
      refine rd2 h fun w17 h => ⟨EB h 0 rfl Y2, ?_⟩
      refine rd3 h fun w18 h => ⟨EB h 0 rfl Y2, ?_⟩
      rw [bd]
      exact put e7 _ _ rfl h
  · refine h.alloc TC fun e7 w19 h => ⟨EB h 0 rfl Y2, ?_⟩
    refine nx h fun w15 h => ⟨EB h 0 rfl Y2, ?_⟩
    refine rd1 h fun w16 h => ⟨EB h 0 rfl Y2, ?_⟩
    refine rd2 h fun w17 h => ⟨EB h 0 rfl Y2, ?_⟩
    refine rd3 h fun w18 h => ⟨EB h 0 rfl Y2, ?_⟩
    rw [bd]
    exact put e7 _ _ rfl h
end
end Go.Proofs.YtngbebnhegcokaaGreatDoor

namespace Go.Proofs.YtngbebnhegcokaaGreatDoor
open Go.RowKit
set_option maxRecDepth 100000
section
variable {B:Base}
theorem Uf0.read{σ:List Dat}{u:Value}{L':EvL}{B2:Base}(own:∀{i:Nat} {d:Dat},(σ++Y3 Q3 u (l_ L') :: L'.map dN)[i]? = some d→d B2):Ux0 u L' B2:=by
 refine⟨Y3.read (E:=Q3) (own (i:=σ.length) (by rw[List.getElem?_append_right (Nat.le_refl _)];simp)),fun p hp=>?_⟩
 obtain⟨m,hm,rfl⟩:=List.getElem_of_mem hp
 have:dN L'[m] B2:=own (i:=σ.length+(m+1)) (by rw[List.getElem?_append_right (by omega)];simp [hm])
 exact Y3.read (E:=R3) (v:=L'[m].2.1) (l:=L'[m].1.row) this
end
end Go.Proofs.YtngbebnhegcokaaGreatDoor

namespace Go.Proofs.YtngbebnhegcokaaGreatDoor
open Go.RowKit
set_option maxRecDepth 100000
theorem UpS:Tryz.prog.underlying Y6=some (.pointer (Tryz.prog.pointee Y6)):=by kernel_rfl
end Go.Proofs.YtngbebnhegcokaaGreatDoor

namespace Go.Proofs.YtngbebnhegcokaaGreatDoor
open Go.RowKit
set_option maxRecDepth 100000
end Go.Proofs.YtngbebnhegcokaaGreatDoor

namespace Go.Proofs.YtngbebnhegcokaaGreatDoor
open Go.RowKit
set_option maxRecDepth 100000
structure EnP where
 kind:Int
 producer:Int
 epoch:Int
 seq:Int
 source:ByteArray
 schema:Int
 time:Int
 row:List OD
 deriving DecidableEq
def EnP.raw(e:EnP)(v:SV):EnD:=⟨e.kind,e.producer,e.epoch,e.seq,e.source,e.schema,e.time,v⟩
def rW:EnP:=⟨4,0,0,0,⟨#[]⟩,0,0,[]⟩
def wa0(e:EnP):Bs:=encI e.kind++encI e.producer++encI e.epoch++encI e.seq++yB (bl e.source)++encI e.schema++encI e.time++yB (dG e.row)
noncomputable def Qq0(a:Int)(b:Int)(c:Int)(d:Int)(src:Bs)(e:Int)(f:Int)(x:Bs×RS):EnP:=match uO x.1 with
 | some r=>if aO x.2=true then⟨a,b,c,d,ofL src,e,f,r⟩ else rW
 | none=>rW
noncomputable def Oq0(a b c d:Int)(x:Bs×RS):EnP:=Qq0 a b c d x.1 (H5 x.2).1 (H5 (H5 x.2).2).1 (D8 (H5 (H5 x.2).2).2)
noncomputable def Nq0(x1 x2 x3 x4:Int×RS):EnP:=Oq0 x1.1 x2.1 x3.1 x4.1 (D8 x4.2)
noncomputable def ij0(t:Bs):EnP:=Nq0 (H5 ⟨t,false⟩) (H5 (H5 ⟨t,false⟩).2) (H5 (H5 (H5 ⟨t,false⟩).2).2) (H5 (H5 (H5 (H5 ⟨t,false⟩).2).2).2)
structure yE0 (e:EnP):Prop where
 kind:inI e.kind
 producer:inI e.producer
 epoch:inI e.epoch
 seq:inI e.seq
 schema:inI e.schema
 time:inI e.time
 source:e.source.size≤1000
 len:e.row.length≤100
 row:∀v∈e.row,VK v∧(bl v.s).length≤1000
theorem Dl0{l:List OD}(hl:l.length≤100)(hg:∀v∈l,VK v∧(bl v.s).length≤1000):(dG l).length≤200000:=by
 unfold dG
 have h1:=Q6 (n:=(l.length:Int)) (by unfold inI;omega)
 have h2:=xE XR l 1100 fun v hv=>by
  obtain⟨h1,h2⟩:=hg v hv
  have:=Q6 h1.kind
  have:=Q6 h1.n
  have:=wE (bl v.s) (by omega)
  unfold XR
  rw[List.length_append,List.length_append]
  omega
 rw[List.length_append]
 omega
theorem jj0{e:EnP}(h:yE0 e):ij0 (wa0 e)=e:=by
 have hr:=Dl0 h.len h.row
 have hs:(bl e.source).length≤1000:=by rw[aP];exact h.source
 have e1:wa0 e=encI e.kind++(encI e.producer++(encI e.epoch++(encI e.seq++(yB (bl e.source)++(encI e.schema++(encI e.time++yB (dG e.row))))))):=by
  unfold wa0
  simp only[List.append_assoc]
 unfold ij0
 rw[e1,yE h.kind]
 simp only
 rw[yE h.producer]
 simp only
 rw[yE h.epoch]
 simp only
 rw[yE h.seq]
 unfold Nq0
 simp only
 rw[BR (by omega)]
 unfold Oq0
 simp only
 rw[yE h.schema]
 simp only
 rw[yE h.time]
 simp only
 have:=BR (t:=dG e.row) (by omega) []
 rw[List.append_nil] at this
 rw[this]
 unfold Qq0
 simp only
 rw[Mc0 (by have:=h.len;omega) fun v hv=>(h.row v hv).1]
 simp only
 rw[if_pos (by rfl),pO]
def ksL:List Kn:=[⟨⟨#[115]⟩,1,[⟨⟨#[97]⟩,0,⟨#[]⟩⟩]⟩]
section
variable {B:Base} {w:World} {σ τ:List Dat} {K:Value→World→Prop}
theorem Dc0:Makes Tryz.prog B (Z0 BF #[]) fun u τ=>τ=[JA u ksL]:=by
 refine Makes.intro fun B' w K base h k=>?_
 refine gH.up ?_
 unfold gH.pt
 rw[jk0]
 refine h.XH (α:=zw0) ⟨⟨#[97]⟩,0,⟨#[]⟩⟩ wO (by decide) fun v w1 h=>?_
 obtain⟨x,n,c,rfl⟩:=EW h 0 rfl
 rw[mY]
 refine h.XH (α:=KnD) ⟨⟨#[115]⟩,1,⟨.slice x n c,rfl⟩⟩ ND (by decide) fun v2 w2 h=>?_
 refine k _ _ _ rfl (Rel.wrap (σ:=[]) (c:=JA v2 ksL) h fun B2 own=>?_)
 refine⟨[(⟨⟨#[115]⟩,1,[⟨⟨#[97]⟩,0,⟨#[]⟩⟩]⟩,⟨.slice x n c,rfl⟩)],rfl,Y3.read (own (i:=1) rfl),fun q hq=>?_⟩
 rw[List.mem_singleton.1 hq]
 exact Y3.read (own (i:=0) rfl)
set_option maxHeartbeats 1000000 in
theorem QS(hB:VI B){e:EnP}{v:SV}(he:yE0 e)(q:O4 v.1 e.row B):Gives Tryz.prog B (Z0 OB #[(e.raw v).v]) (.string (ofL (wa0 e))):=by
 refine Gives.intro fun B' w K base h k=>?_
 replace hB:=base hB
 replace q:=base q
 refine fH.up ?_
 unfold fH.pt
 have hr:=Dl0 he.len he.row
 have hs:(bl e.source).length≤1000:=by rw[aP];exact he.source
 have l1:=Q6 he.kind
 have l2:=Q6 he.producer
 have l3:=Q6 he.epoch
 have l4:=Q6 he.seq
 have l5:=wE (bl e.source) (by omega)
 have l6:=Q6 he.schema
 have l7:=Q6 he.time
 have l8:=wE (dG e.row) (by omega)
 refine h.box fun o w1 h=>?_
 have h:Rel B' w1 [O1 o U1 (e.raw v).cs.toArray]:=h
 have h:=h.tick
 generalize tick w1=w1 at *
 simp -zeta only[U0 yT,U0 jM,U0 zT,U0 DT,U0 sJ,U0 kM,U0 UG,U0 aF,Nat.zero_add]
 rw[h.ld 0 rfl Y2 (o:=0) (v := .int .i64 e.kind) rfl,h.ld 0 rfl Y2 (o:=1) (v := .int .i64 e.producer) rfl,h.ld 0 rfl Y2 (o:=2) (v := .int .i64 e.epoch) rfl,h.ld 0 rfl Y2 (o:=3) (v := .int .i64 e.seq) rfl,h.ld 0 rfl U6 (o:=4) (v := .string e.source) rfl,h.ld 0 rfl Y2 (o:=5) (v := .int .i64 e.schema) rfl,h.ld 0 rfl Y2 (o:=6) (v := .int .i64 e.time) rfl,h.ld 0 rfl H7 (o:=7) (v:=v.1) rfl]
 have is:∀{w':World} {T:TypeId} {o':Nat} {x:Value},Rel B' w' [O1 o U1 (e.raw v).cs.toArray]→scB Tryz.prog T=true→(e.raw v).cs.toArray.toList[o']? = some x→Is Tryz.prog (X0 T (.pointer (some ⟨o,o',none⟩))) x w':=fun h ht hx=>h.is 0 rfl ht hx
 refine h.ask (fun B2 own base2=>wC (base2 hB) he.kind) fun w2 h=>?_
 refine⟨is h H7 rfl,is h Y2 rfl,is h Y2 rfl,is h U6 rfl,is h Y2 rfl,is h Y2 rfl,is h Y2 rfl,?_⟩
 refine h.ask (fun B2 own base2=>wC (base2 hB) he.producer) fun w2 h=>?_
 refine⟨is h H7 rfl,is h Y2 rfl,is h Y2 rfl,is h U6 rfl,is h Y2 rfl,is h Y2 rfl,?_⟩
 rw[C9 (by omega)]
 refine h.ask (fun B2 own base2=>wC (base2 hB) he.epoch) fun w2 h=>?_
 refine⟨is h H7 rfl,is h Y2 rfl,is h Y2 rfl,is h U6 rfl,is h Y2 rfl,?_⟩
 rw[C9 (by simp only[List.length_append];omega)]
 refine h.ask (fun B2 own base2=>wC (base2 hB) he.seq) fun w2 h=>?_
 refine⟨is h H7 rfl,is h Y2 rfl,is h Y2 rfl,is h U6 rfl,?_⟩
 rw[C9 (by simp only[List.length_append];omega)]
 refine h.ask (v := .string (ofL (yB (bl e.source)))) (fun B2 own base2=>by
  have:=gT (base2 hB) (s:=bl e.source) (by omega)
  rw[pO] at this
  exact this) fun w2 h=>?_
 refine⟨is h H7 rfl,is h Y2 rfl,is h Y2 rfl,?_⟩
 rw[C9 (by simp only[List.length_append];omega)]
 refine h.ask (fun B2 own base2=>wC (base2 hB) he.schema) fun w2 h=>?_
 refine⟨is h H7 rfl,is h Y2 rfl,?_⟩
 rw[C9 (by simp only[List.length_append];omega)]
 refine h.ask (fun B2 own base2=>wC (base2 hB) he.time) fun w2 h=>?_
 refine⟨is h H7 rfl,is h Y2 rfl,?_⟩
 rw[C9 (by simp only[List.length_append];omega)]
 refine h.ask (fun B2 own base2=>Dg0 (base2 hB) (base2 q) (by have:=he.len;omega) fun x hx=>⟨(he.row x hx).1,by have:=(he.row x hx).2;omega⟩) fun w2 h=>?_
 refine⟨is h Y2 rfl,is h Y2 rfl,?_⟩
 refine h.ask (fun B2 own base2=>gT (base2 hB) (by omega)) fun w2 h=>?_
 refine⟨is h Y2 rfl,is h Y2 rfl,is h Y2 rfl,?_⟩
 rw[C9 (by simp only[List.length_append];omega)]
 exact k _ _ h.nil
end
end Go.Proofs.YtngbebnhegcokaaGreatDoor

namespace Go.Proofs.YtngbebnhegcokaaGreatDoor
open Go.RowKit
set_option maxRecDepth 100000
def PE(L:List (EnP×SV)):List EnD:=L.map fun x=>x.1.raw x.2
def as0(L:List (EnP×SV)):Dat:=Dat.all L fun x=>O4 x.2.1 x.1.row
def zP(e:EnP):Bool:=decide (e.row.length≤3)&&(decide (e.source.size≤20)&&e.row.all fun v=>decide (v.s.size≤20))
def KB0(l:List EnP)(n:Int):Bool:=decide ((l.length:Int)≤n)&&l.all zP
section
variable {B:Base} {w:World} {σ τ:List Dat} {K:Value→World→Prop}
set_option maxHeartbeats 2000000 in
theorem Mf0(hB:qC B){t:Bs}(ht:t.length≤100000000):Makes Tryz.prog B (Z0 nG #[.string (ofL t)]) fun u τ=>∃v:SV,u=((ij0 t).raw v).v∧τ=[Y3 R3 v.1 (ij0 t).row]:=by
 refine Makes.intro fun B' w K base h k=>?_
 replace hB:=base hB
 refine KI.up ?_
 unfold KI.pt
 refine h.alloc fQ fun t2 w1 h=>?_
 refine h.make (fun B2 own base2=>WT) fun u τ w2 hp h=>?_
 obtain⟨p,rfl,rfl⟩:=hp
 rw[LV]
 refine h.R8 (ds:=(rW.raw nC).cs.toArray) fQ rfl M8 rfl (fun v hv=>Enc.one (rW.raw nC) v hv) fun o4 w3 h=>?_
 have h:Rel B' w3 [O1 t2 U1 (((⟨0,0,0,0,⟨#[]⟩,0,0,[]⟩:EnP).raw nC).cs.toArray),rdD p ⟨t,false⟩,O1 o4 U1 (rW.raw nC).cs.toArray]:=h
 rw[OA cd0,d_]
 have fail:ij0 t=rW→∀(s:RS) (ρ:List Dat) w',Rel B' w' ([O1 t2 U1 (((⟨0,0,0,0,⟨#[]⟩,0,0,[]⟩:EnP).raw nC).cs.toArray),rdD p s,O1 o4 U1 (rW.raw nC).cs.toArray]++ρ) →
   Y0 Tryz.prog (X0 U1 (.pointer (some ⟨o4,0,none⟩))) w' fun t50=>upK Tryz.prog (I4 U1 (.pointer (some ⟨t2,0,none⟩)) t50) w' fun _ w24=>U9 Tryz.prog (do loadVar U1 (←asAddr (.pointer (some ⟨t2,0,none⟩)))) w24 fun t2_2=>K t2_2 w24:=by
  intro e s ρ w' h
  rw[e] at k
  have h:Rel B' w' [O1 t2 U1 (((⟨0,0,0,0,⟨#[]⟩,0,0,[]⟩:EnP).raw nC).cs.toArray),rdD p s,O1 o4 U1 (rW.raw nC).cs.toArray]:=h.drop
  rw[h.r9 2 rfl M8 rfl]
  refine h.YG 0 rfl M8 rfl rfl (fun v hv=>Enc.one (rW.raw nC) v hv) fun w8 h=>?_
  rw[qJ h 0 rfl M8 rfl]
  refine k _ _ _ ⟨nC,rfl,rfl⟩ ?_
  exact(h.nil).VC OD R3
 unfold ij0 at k fail
 have q1:(H5 ⟨t,false⟩).2.rest.length≤t.length:=YD ⟨t,false⟩
 refine h.rd_ 1 rfl (fun B2 own base2=>mD (base2 hB) (show t.length≤_ by omega)) fun w4 h=>?_
 generalize H5 ⟨t,false⟩=x1 at *
 rw[LV]
 refine h.R8 (ds:=((⟨x1.1,0,0,0,⟨#[]⟩,0,0,[]⟩:EnP).raw nC).cs.toArray) fQ rfl M8 rfl (fun v hv=>Enc.one ((⟨x1.1,0,0,0,⟨#[]⟩,0,0,[]⟩:EnP).raw nC) v hv) fun e5 w5 h=>?_
 simp -zeta only[U0 jM,U0 zT,U0 DT,U0 sJ,U0 kM,U0 UG,U0 aF,Nat.zero_add]
 have q2:=YD x1.2
 refine h.rd_ 1 rfl (fun B2 own base2=>mD (base2 hB) (by omega)) fun w6 h=>?_
 generalize H5 x1.2=x2 at *
 refine h.st 3 rfl Y2 (o:=1) (show 1<8 by omega) rfl fun w7 h=>?_
 have q3:=YD x2.2
 refine h.rd_ 1 rfl (fun B2 own base2=>mD (base2 hB) (by omega)) fun w6 h=>?_
 generalize H5 x2.2=x3 at *
 refine h.st 3 rfl Y2 (o:=2) (show 2<8 by omega) rfl fun w7 h=>?_
 have q4:=YD x3.2
 refine h.rd_ 1 rfl (fun B2 own base2=>mD (base2 hB) (by omega)) fun w6 h=>?_
 generalize H5 x3.2=x4 at *
 refine h.st 3 rfl Y2 (o:=3) (show 3<8 by omega) rfl fun w7 h=>?_
 have q5:=AU x4.2
 unfold Nq0 at k fail
 refine h.rd_ 1 rfl (fun B2 own base2=>iR (base2 hB) (by omega)) fun w6 h=>?_
 generalize D8 x4.2=x5 at *
 refine h.st 3 rfl U6 (o:=4) (show 4<8 by omega) rfl fun w7 h=>?_
 unfold Oq0 at k fail
 have q6:=YD x5.2
 refine h.rd_ 1 rfl (fun B2 own base2=>mD (base2 hB) (by omega)) fun w6 h=>?_
 generalize H5 x5.2=x6 at *
 refine h.st 3 rfl Y2 (o:=5) (show 5<8 by omega) rfl fun w7 h=>?_
 have q7:=YD x6.2
 refine h.rd_ 1 rfl (fun B2 own base2=>mD (base2 hB) (by omega)) fun w6 h=>?_
 generalize H5 x6.2=x7 at *
 refine h.st 3 rfl Y2 (o:=6) (show 6<8 by omega) rfl fun w7 h=>?_
 have q8:=AU x7.2
 refine h.rd_ 1 rfl (fun B2 own base2=>iR (base2 hB) (by omega)) fun w6 h=>?_
 generalize D8 x7.2=x8 at *
 unfold Qq0 at k fail
 have h:Rel B' w6 [O1 t2 U1 (((⟨0,0,0,0,⟨#[]⟩,0,0,[]⟩:EnP).raw nC).cs.toArray),rdD p x8.2,O1 o4 U1 (rW.raw nC).cs.toArray,O1 e5 U1 ((⟨x1.1,x2.1,x3.1,x4.1,ofL x5.1,x6.1,x7.1,[]⟩:EnP).raw nC).cs.toArray]:=h
 refine h.make (fun B2 own base2=>kj0 (base2 hB) (t:=x8.1) (by omega)) fun u τ w8 hp h=>?_
 rcases hp with⟨r,v,er,rfl,rfl⟩ | ⟨er,rfl,rfl⟩
 ·rw[er] at k fail
  simp only at k fail
  rw[M9,D9]
  have hv:v.oneCell'=true:=h.oneCell (i:=4) rfl
  refine h.st 3 rfl H7 (o:=7) (show 7<8 by omega) hv fun w9 h=>?_
  have h:Rel B' w9 [O1 t2 U1 (((⟨0,0,0,0,⟨#[]⟩,0,0,[]⟩:EnP).raw nC).cs.toArray),rdD p x8.2,O1 o4 U1 (rW.raw nC).cs.toArray,O1 e5 U1 ((⟨x1.1,x2.1,x3.1,x4.1,ofL x5.1,x6.1,x7.1,r⟩:EnP).raw ⟨v,hv⟩).cs.toArray,Y3 R3 v r]:=h
  rw[V7,G5,R5]
  refine⟨fun _=>?_,fun c=>by cases c⟩
  refine h.ask (fun B2 own base2=>dR (own (i:=1) rfl)) fun w10 h=>?_
  rw[V7,G5,R5]
  refine⟨fun c=>?_,fun c=>?_⟩
  ·rw[if_pos c] at k
   rw[h.r9 3 rfl M8 rfl]
   refine h.YG 0 rfl M8 rfl rfl (fun x hx=>Enc.one ((⟨x1.1,x2.1,x3.1,x4.1,ofL x5.1,x6.1,x7.1,r⟩:EnP).raw ⟨v,hv⟩) x hx) fun w11 h=>?_
   rw[qJ h 0 rfl M8 rfl]
   exact k _ _ _ ⟨⟨v,hv⟩,rfl,rfl⟩ (h.pick [4] (by decide))
  ·exact fail (by rw[if_neg (by rw[c];decide)]) x8.2 _ _ h
 ·rw[er] at k fail
  simp only at k fail
  rw[M9,D9]
  refine h.st 3 rfl H7 (o:=7) (show 7<8 by omega) rfl fun w9 h=>?_
  rw[V7,G5,R5]
  refine⟨fun c=>(by cases c),fun _=>?_⟩
  exact fail trivial x8.2 _ _ h
theorem mv0{v:Value}{L:List (EnP×SV)}(q:O4 v (PE L) B)(qs:as0 L B)(hl:L.length≤9223372036854775807){n:Int}(hn:0≤n∧n≤1000000):Gives Tryz.prog B (Z0 GL #[v,.int .i64 n]) (.bool (KB0 (L.map (·.1)) n)):=by
 refine Gives.intro fun B' w K base h k=>?_
 replace q:=base q
 replace qs:=base qs
 refine LJ.up ?_
 unfold LJ.pt
 have hel:(PE L).length=L.length:=List.length_map ..
 have hml:(L.map (·.1)).length=L.length:=List.length_map ..
 unfold KB0 at k
 rw[hml] at k
 refine P6 fun J hJ=>?_
 replace hJ:((∀i (hi:i<L.length),(i:Int)≤n→zP (L[i]).1=true))→∀w',Rel B' w' []→J () w':=by
  intro hall w' h
  refine hJ _ _ ?_
  rw[O4.len q iA,hel,WC]
  have e:(decide ((L.length:Int)≤n)&&(L.map (·.1)).all zP)=decide ((L.length:Int)≤n):=by
   by_cases c:(L.length:Int)≤n
   ·rw[decide_eq_true c,Bool.true_and,List.all_eq_true]
    intro x hx
    obtain⟨y,hy,rfl⟩:=List.mem_map.1 hx
    obtain⟨i,hi,rfl⟩:=List.getElem_of_mem hy
    exact hall i hi (by omega)
   ·rw[decide_eq_false c,Bool.false_and]
  rw[e] at k
  exact k _ _ h
 have bad:∀i (hi:i<L.length),zP (L[i]).1=false→∀w',Rel B' w' []→K (.bool false) w':=by
  intro i hi hb w' h
  have e:(decide ((L.length:Int)≤n)&&(L.map (·.1)).all zP)=false:=by
   have:(L.map (·.1)).all zP=false:=by
    rw[List.all_eq_false]
    exact⟨(L[i]).1,List.mem_map.2 ⟨L[i],List.getElem_mem hi,rfl⟩,by rw[hb];decide⟩
   rw[this,Bool.and_false]
  rw[e] at k
  exact k _ _ h
 clear k
 refine F6 (fun z w'=>∃i:Nat,i≤L.length∧z=(.int .i64 i,())∧(∀j (hj:j<L.length),j<i→zP (L[j]).1=true)∧Rel B' w' [])
  (fun z _=>L.length-(match z.1 with | .int _ n=>n.toNat | _=>0)) ⟨0,Nat.zero_le _,rfl,fun j _ hj=>absurd hj (by omega),h⟩ ?_
 clear h
 rintro z w1 ⟨i,hi,rfl,hal,h⟩ next hnext
 rw[O4.len q iA,hel,G6,K3]
 refine⟨fun hlt=>?_,fun hge=>hJ (fun j hj _=>hal j hj (by omega)) _ h⟩
 rw[WC,K3]
 refine⟨fun hle=>?_,fun hgt=>hJ (fun j hj hjn=>hal j hj (by omega)) _ h⟩
 have hil:i<L.length:=by omega
 have hil2:i<(PE L).length:=by omega
 refine P6 fun J2 hJ2=>?_
 replace hJ2:zP (L[i]).1=true→∀w',Rel B' w' []→J2 () w':=by
  intro hs w' h
  refine hJ2 _ _ ?_
  rw[Z5,E5 (by omega) (by omega)]
  refine hnext _ _ ⟨i+1,hil,rfl,fun j hj hji=>?_,h⟩ (by simp only;omega)
  by_cases c:j=i
  ·subst c;exact hs
  ·exact hal j hj (by omega)
 clear hnext
 obtain⟨g,o,hx,hc⟩:=O4.idx q iA (P:=Tryz.prog) hil2
 have hc:K6 g o ((L[i]).1.raw (L[i]).2).cs B':=by
  have e:(PE L)[i]=(L[i]).1.raw (L[i]).2:=List.getElem_map ..
  rw[e] at hc
  exact hc
 have hrow:O4 (L[i]).2.1 (L[i]).1.row B':=qs _ (List.getElem_mem hil)
 have bad:=bad i hil
 clear hal hJ
 generalize L[i]=x at *
 obtain⟨e,rv⟩:=x
 simp only at hc hrow bad hJ2
 rw[hx,U0 aF,K6.ld (h.L6 hc) H7 (j:=7) (v:=rv.1) rfl,O4.len hrow Q8,x9,K3]
 unfold zP at bad hJ2
 refine⟨fun c=>bad (by rw[decide_eq_false (by omega),Bool.false_and]) _ h,fun c=>?_⟩
 rw[decide_eq_true (p:=e.row.length≤3) (by omega),Bool.true_and] at bad hJ2
 rw[hx,U0 sJ,K6.ld (h.L6 hc) U6 (j:=4) (v := .string e.source) rfl,LC K8,x9,K3]
 refine⟨fun c=>bad (by rw[decide_eq_false (by omega),Bool.false_and]) _ h,fun c=>?_⟩
 rw[decide_eq_true (p:=e.source.size≤20) (by omega),Bool.true_and] at bad hJ2
 refine F6 (fun z w'=>∃i:Nat,i≤e.row.length∧z=(.int .i64 i,())∧(∀j (hj:j<e.row.length),j<i→(e.row[j]).s.size≤20)∧Rel B' w' [])
  (fun z _=>e.row.length-(match z.1 with | .int _ n=>n.toNat | _=>0)) ⟨0,Nat.zero_le _,rfl,fun j _ hj=>absurd hj (by omega),h⟩ ?_
 clear h
 rintro z w1 ⟨k2,hk2,rfl,hal,h⟩ next hnext
 rw[hx,U0 aF,K6.ld (h.L6 hc) H7 (j:=7) (v:=rv.1) rfl,O4.len hrow Q8,G6,K3]
 refine⟨fun hlt=>?_,fun hge=>hJ2 (by
  rw[List.all_eq_true]
  intro y hy
  obtain⟨j,hj,rfl⟩:=List.getElem_of_mem hy
  exact decide_eq_true (hal j hj (by omega))) _ h⟩
 have hkl:k2<e.row.length:=by omega
 rw[hx,U0 aF,K6.ld (h.L6 hc) H7 (j:=7) (v:=rv.1) rfl]
 obtain⟨g2,o2,hx2,hc2⟩:=O4.idx hrow Q8 (P:=Tryz.prog) hkl
 have hc2:K6 g2 o2 (e.row[k2]).cs B':=hc2
 rw[hx2,U0 mM,K6.ld (h.L6 hc2) U6 (j:=2) (v := .string (e.row[k2]).s) rfl,LC K8,x9,K3]
 refine⟨fun c=>bad (by
  rw[List.all_eq_false]
  exact⟨e.row[k2],List.getElem_mem hkl,by rw[decide_eq_false (by omega)];decide⟩) _ h,fun c=>?_⟩
 rw[Z5,E5 (by omega) (by omega)]
 refine hnext _ _ ⟨k2+1,hkl,rfl,fun j hj hji=>?_,h⟩ (by simp only;omega)
 by_cases c2:j=k2
 ·subst c2;omega
 ·exact hal j hj (by omega)
end
end Go.Proofs.YtngbebnhegcokaaGreatDoor

namespace Go.Proofs.YtngbebnhegcokaaGreatDoor
open Go.RowKit
set_option maxRecDepth 100000
structure LS where
 x:IS
 s:St
 done:List EnD
def evL(pos:Int)(e:EnP):Ev:=⟨0,pos,e.source,e.schema,e.time,e.row⟩
def op0(l:LS)(e:EnP)(v:SV)(a:(Int×Int)×IS):LS×Bool :=
 if e.kind≠0∨a.1.2≠0 then({ l with x:=a.2 },true)
 else(⟨a.2,(pQ l.s (evL a.1.1 e)).2,l.done++[e.raw v]⟩,decide ((pQ l.s (evL a.1.1 e)).1=0))
def OE(l:LS)(e:EnP)(v:SV):LS×Bool:=op0 l e v (GD l.x (e.raw v) e.row)
def lsL(pl:Nat)(l:LS)(q:Nat×Nat)(v:SV):List Dat:=[O1 pl F4 #[ptr q.1,ptr q.2,v.1],intD q.1 l.x,U7 q.2 l.s,Y3 U1 v.1 l.done]
def lsD(pl:Nat)(l:LS):Dat:=Dat.ex fun x:(Nat×Nat)×SV=>eF (lsL pl l x.1 x.2)
structure LOk (l:LS):Prop where
 x:RN l.x
 next:l.x.next<1000000
 refused:l.x.refused<1000000
 known:l.x.known.length≤1000000
 done:l.done.length≤1000000
section
variable {B:Base} {w:World} {σ τ:List Dat} {pl:Nat} {l:LS} {K:Value→World→Prop}
theorem lsD.open(h:Rel B w (lsD pl l :: τ)):∃q v,Rel B w (lsL pl l q v++τ):=by
 obtain⟨x,h⟩:=h.ex (i:=0) rfl
 exact⟨x.1,x.2,Rel.nS h⟩
theorem lsD.close{q:Nat×Nat}{v:SV}(h:Rel B w (lsL pl l q v++τ)):Rel B w (lsD pl l :: τ) :=
 (Rel.RL h).imp (i:=0) (e:=lsD pl l) rfl fun B hB=>⟨(q,v),hB⟩
theorem dE0:iB0 ksL:=⟨by show 1≤1000000;omega,fun x hx=>by rw[List.mem_singleton.1 hx];show 1≤1000000;omega⟩
theorem Oi0(c:CfD):Makes Tryz.prog B (Z0 aH #[.agg c.cs.toArray]) fun u τ=>(uF c∧∃pl,u=ptr pl∧τ=[lsD pl ⟨YP c ksL,⟨0,0,0,[]⟩,[]⟩])∨(¬uF c∧u = .pointer none∧τ=[]):=by
 refine Makes.intro fun B' w K base h k=>?_
 refine MJ.up ?_
 unfold MJ.pt
 refine h.box fun o w1 h=>?_
 have h:Rel B' w1 [O1 o V4 c.cs.toArray]:=h
 have h:=h.tick
 generalize tick w1=w1 at *
 rw[h.r9 0 rfl uD rfl]
 refine h.make (fun B2 own base2=>Dc0) fun kv τ w2 hp h=>?_
 subst hp
 refine⟨h.bV 0 rfl uD rfl,?_⟩
 refine h.make (fun B2 own base2=>TD0 c (ks:=ksL) (own (i:=1) rfl) dE0) fun u τ w3 hp h=>?_
 rcases hp with⟨hr,p,rfl,rfl⟩ | ⟨hr,rfl,rfl⟩
 ·refine h.make (fun B2 own base2=>gz0 0) fun u τ w4 hp h=>?_
  obtain⟨b,rfl,rfl⟩:=hp
  rw[tK]
  refine h.box fun pl w5 h=>?_
  have h:Rel B' w5 [O1 o V4 c.cs.toArray,JA kv ksL,intD p (YP c ksL),U7 b ⟨0,0,0,[]⟩,O1 pl F4 #[ptr p,ptr b,.slice none 0 0]]:=h
  simp -zeta only[J5,U0 jC,U0 A9,Nat.zero_add]
  rw[h.ld 4 rfl KA (o:=0) (v:=ptr p) rfl,OA uG,d_,h.ld 4 rfl O7 (o:=1) (v:=ptr b) rfl,OA ca0,d_]
  have h:=h.VC EnD U1
  have h:Rel B' w5 (lsL pl ⟨YP c ksL,⟨0,0,0,[]⟩,[]⟩ (p,b) ⟨.slice none 0 0,rfl⟩++[]):=h.pick [4,2,3,5] (by decide)
  exact k _ _ _ (.inl ⟨hr,pl,rfl,rfl⟩) (lsD.close h)
 ·refine h.make (fun B2 own base2=>gz0 0) fun u τ w4 hp h=>?_
  obtain⟨b,rfl,rfl⟩:=hp
  rw[tK]
  refine h.box fun pl w5 h=>?_
  simp -zeta only[J5,U0 jC,U0 A9,Nat.zero_add]
  have h:Rel B' w5 [O1 o V4 c.cs.toArray,JA kv ksL,U7 b ⟨0,0,0,[]⟩,O1 pl F4 #[.pointer none,ptr b,.slice none 0 0]]:=h
  rw[h.ld 3 rfl KA (o:=0) (v := .pointer none) rfl,wT uG,lC]
  exact k _ [] _ (.inr ⟨hr,rfl,rfl⟩) h.nil
set_option maxHeartbeats 2000000 in
theorem tm0(hok:LOk l){e:EnP}{v:SV}(q:O4 v.1 e.row B)(hrl:e.row.length≤1000000)(hrs:∀x∈e.row,x.s.size≤9223372036854775807):Does Tryz.prog B (lsD pl l) (Z0 rC #[ptr pl,(e.raw v).v]) fun u e' τ=>u = .bool (OE l e v).2∧e'=lsD pl (OE l e v).1∧τ=[]:=by
 refine Does.intro fun B' w K base h k=>?_
 replace q:=base q
 refine XC.up ?_
 unfold XC.pt
 have hn:=hok.next
 have hrf:=hok.refused
 have hkn:=hok.known
 have hdn:=hok.done
 obtain⟨⟨px,ps⟩,dv,h⟩:=lsD.open h
 have h:Rel B' w [O1 pl F4 #[ptr px,ptr ps,dv.1],intD px l.x,U7 ps l.s,Y3 U1 dv.1 l.done]:=h
 refine h.box fun e3 w1 h=>?_
 have h:Rel B' w1 [O1 pl F4 #[ptr px,ptr ps,dv.1],intD px l.x,U7 ps l.s,Y3 U1 dv.1 l.done,O1 e3 U1 (e.raw v).cs.toArray]:=h
 have h:=h.tick
 generalize tick w1=w1 at *
 simp -zeta only[J5,U0 jC,U0 A9,U0 VD,U0 yT,U0 sJ,U0 kM,U0 UG,U0 aF,Nat.zero_add]
 rw[h.ld 0 rfl KA (o:=0) (v:=ptr px) rfl,h.r9 4 rfl M8 rfl]
 refine h.act 1 rfl (fun B2 own base2=>Br0 (en:=e.raw v) (r:=e.row) hok.x (by omega) (by omega) (base2 q) (by omega) (by omega)) fun u e' τ w2 hp h=>?_
 obtain⟨rfl,rfl,rfl⟩:=hp
 unfold OE at k
 generalize GD l.x (e.raw v) e.row=a at *
 obtain⟨⟨n,f⟩,x2⟩:=a
 unfold op0 at k
 simp only at h k ⊢
 have h:Rel B' w2 [O1 pl F4 #[ptr px,ptr ps,dv.1],intD px x2,U7 ps l.s,Y3 U1 dv.1 l.done,O1 e3 U1 (e.raw v).cs.toArray]:=h
 rw[M9,D9,h.ld 4 rfl Y2 (o:=0) (v := .int .i64 e.kind) rfl,Q7,G5,K3]
 refine⟨fun c1=>?_,fun c1=>?_⟩
 case refine_2 =>
  rw[if_pos (.inl c1)] at k
  exact k _ _ [] _ ⟨rfl,rfl,rfl⟩ (lsD.close (l:={ l with x:=x2 }) (q:=(px,ps)) (v:=dv) (h.take 4))
 rw[Q7,G5,K3]
 refine⟨fun c2=>?_,fun c2=>?_⟩
 case refine_2 =>
  rw[if_pos (.inr c2)] at k
  exact k _ _ [] _ ⟨rfl,rfl,rfl⟩ (lsD.close (l:={ l with x:=x2 }) (q:=(px,ps)) (v:=dv) (h.take 4))
 rw[if_neg (fun hh=>hh.elim (fun h=>h c1) fun h=>h c2)] at k
 have h:=h.tick
 generalize tick w2=w2 at *
 rw[h.ld 0 rfl fA (o:=2) (v:=dv.1) rfl,h.r9 4 rfl M8 rfl]
 refine h.XH (α:=EnD) (e.raw v) iA (by decide) fun v1 w3 h=>?_
 refine⟨h.is 0 rfl fA (o:=2) rfl,?_⟩
 refine h.append (α:=EnD) 3 rfl iA (Rd.at 5 rfl) (show (l.done.length+1) * _≤_ by omega) (show l.done.length+1≤_ by omega) fun v2 w4 h=>?_
 have hv2:v2.oneCell'=true:=h.oneCell (i:=3) rfl
 refine h.st 0 rfl fA (o:=2) (show 2<3 by omega) hv2 fun w5 h=>?_
 have h:=h.tick
 generalize tick w5=w5 at *
 rw[h.ld 0 rfl O7 (o:=1) (v:=ptr ps) rfl,h.ld 4 rfl U6 (o:=4) (v := .string e.source) rfl,h.ld 4 rfl Y2 (o:=5) (v := .int .i64 e.schema) rfl,h.ld 4 rfl Y2 (o:=6) (v := .int .i64 e.time) rfl,h.ld 4 rfl H7 (o:=7) (v:=v.1) rfl]
 obtain⟨vx,vn,vc,hvs⟩:∃x n c,v.1 = .slice x n c:=by obtain⟨x,c,hx,_⟩:=q;exact⟨x,_,c,hx⟩
 rw[hvs,UN]
 have hev:(Value.agg #[(.int .i64 0),.int .i64 n,.string e.source,.int .i64 e.schema,.int .i64 e.time,.slice vx vn vc])=((evL n e).raw v).v:=by
  show _=Value.agg #[.int .i64 0,.int .i64 n,.string e.source,.int .i64 e.schema,.int .i64 e.time,v.1]
  rw[hvs]
 rw[hev]
 refine h.act 2 rfl (fun B2 own base2=>vG0 (evL n e) v (base2 q) hrl hrs) fun u e' τ w6 hp h=>?_
 obtain⟨rfl,rfl,rfl⟩:=hp
 rw[F7]
 exact k _ _ [] _ ⟨rfl,rfl,rfl⟩ (lsD.close (l:=⟨x2,(pQ l.s (evL n e)).2,l.done++[e.raw v]⟩) (q:=(px,ps)) (v:=⟨v2,hv2⟩) (h.take 4))
end
end Go.Proofs.YtngbebnhegcokaaGreatDoor

namespace Go.Proofs.YtngbebnhegcokaaGreatDoor
open Go.RowKit
set_option maxRecDepth 100000
def evD(D:List (EnP×SV)):List Ev:=D.mapIdx fun i p=>evL i p.1
theorem rZ(D:List (EnP×SV)):(evD D).length=D.length:=by unfold evD;rw[List.length_mapIdx]
theorem ks0{D:List (EnP×SV)}{i:Nat}(h:i<D.length):(evD D)[i]'(by rw[rZ];exact h)=evL i (D[i]).1:=by
 unfold evD
 rw[List.getElem_mapIdx]
theorem Qp0(D:List (EnP×SV))(p:EnP×SV):evD (D++[p])=evD D++[evL D.length p.1]:=by
 unfold evD
 rw[List.mapIdx_concat]
structure ge0 (s:St) (D:List (EnP×SV)):Prop where
 ev:s.events=(evD D).drop s.first.toNat
 first:0≤s.first∧s.first≤D.length
 hz:∀i (h:i<D.length),(i:Int)<s.first→(D[i]).1.time<s.horizon
 right:tT s
 part:s.part=0
structure nB0 (l:LS) (D:List (EnP×SV)):Prop where
 done:l.done=PE D
 next:l.x.next=D.length
 good:RN l.x
 fin:∃times,Oj0 l.x times
 known:l.x.known=ksL
theorem ge0.next{s:St}{D:List (EnP×SV)}(h:ge0 s D):s.next=D.length∧(s.events.length:Int)=D.length-s.first:=by
 have h1:=congrArg List.length h.ev
 rw[List.length_drop,rZ] at h1
 have:=h.first
 unfold St.next
 omega
theorem QC0:ge0 ⟨0,0,0,[]⟩ []:=⟨rfl,by show (0:Int)≤0∧(0:Int)≤(0:Nat);omega,fun i h=>(by cases h),
 ⟨by show inI 0;unfold inI;omega,by show (0:Int)≤0∧(0:Int)≤_;omega,by show (0:Int)≤0∧(0:Int)≤_;omega,Iff.rfl,Nat.zero_le _,fun e he=>(by cases he),fun i h=>(by cases h)⟩,rfl⟩
theorem GC0{c:CfD}(h:uF c):nB0 ⟨YP c ksL,⟨0,0,0,[]⟩,[]⟩ []:=⟨rfl,rfl,ao0 h _,⟨[],SB0 h _⟩,rfl⟩
theorem ge0.cut{s:St}{D:List (EnP×SV)}(h:ge0 s D){n:Nat}(hn:n≤s.events.length)(hD:D.length≤1000000):ge0 (Oe0 s n) D:=by
 obtain⟨h1,h2⟩:=h.next
 have h3:=h.first
 obtain⟨g1,g2⟩:=dq0 s.horizon (s.events.take n)
 refine⟨?_,?_,fun i hi hlt=>?_,h.right.cut hn (by omega),h.part⟩
 ·show s.events.drop n=(evD D).drop (s.first+n).toNat
  rw[h.ev,List.drop_drop,show (s.first+(n:Int)).toNat=s.first.toNat+n by omega]
 ·show 0≤s.first+n∧s.first+n≤(D.length:Int)
  omega
 ·have hlt:(i:Int)<s.first+n:=hlt
  show (D[i]).1.time<hor s.horizon (s.events.take n)
  by_cases c:(i:Int)<s.first
  ·have:=h.hz i hi c
   omega
  ·have hj:i-s.first.toNat<s.events.length:=by omega
   have hm:s.events[i-s.first.toNat]'hj∈s.events.take n:=by
    rw[List.mem_take_iff_getElem]
    exact⟨i-s.first.toNat,by omega,rfl⟩
   have e:s.events[i-s.first.toNat]'hj=evL i (D[i]).1:=by
    rw[←ks0 hi]
    have h5:s.events[i-s.first.toNat]'hj=((evD D).drop s.first.toNat)[i-s.first.toNat]'(by rw[←h.ev];exact hj):=by congr 1;exact h.ev
    rw[h5,List.getElem_drop]
    congr 1
    omega
   have:=g2 _ hm
   rw[e] at this
   have:(evL (↑i) (D[i]).1).time=(D[i]).1.time:=rfl
   omega
theorem qp0{s:IS}{e:EnD}{r:List OD}(h:¬(e.kind=0∧(GD s e r).1.2=0)):(GD s e r).2.next=s.next:=by
 unfold GD at h ⊢
 by_cases c0:e.kind=0
 ·rw[if_pos c0] at h ⊢
  unfold ES at h ⊢
  simp only at h ⊢
  by_cases c:(BX s e r).2≠0
  ·rw[if_pos c]
   simp only
   split<;>rfl
  ·rw[if_neg c] at h
   exact absurd ⟨c0,Decidable.of_not_not c⟩ h
 rw[if_neg c0]
 by_cases c1:e.kind=1
 ·rw[if_pos c1]
  simp only
  split<;>rfl
 rw[if_neg c1]
 split
 ·split
  ·rfl
  ·split
   ·rfl
   ·split<;>rfl
 ·rfl
theorem eu0{s:IS}{e:EnD}{r:List OD}(h0:e.kind=0)(h:(GD s e r).1.2=0):(GD s e r).1.1=s.next∧(GD s e r).2.next=s.next+1∧YE e.time∧VX s.known e.source e.schema r=0∧O9 s<e.time:=by
 unfold GD at h ⊢
 rw[if_pos h0] at h ⊢
 unfold ES at h ⊢
 simp only at h ⊢
 by_cases c:(BX s e r).2≠0
 ·rw[if_pos c] at h
  exact absurd h c
 ·rw[if_neg c]
  obtain⟨_,p2,p3,p4,_,_,p7⟩:=Vd0 (Decidable.of_not_not c)
  exact⟨p7,rfl,p2,p3,p4⟩
theorem dy0{src:ByteArray}{schema:Int}{r:List OD}(h:VX ksL src schema r=0):DK r=true∧schema=1∧src.size≤200:=by
 unfold VX at h
 cases hf:ksL.find? (nq0 src schema) with
 | none=>rw[hf] at h;cases h
 | some k =>
  rw[hf] at h
  simp only at h
  split at h
  ·rename_i hh
   refine⟨by rw[←Oc0];exact hh.2,?_⟩
   have h1:=List.find?_some hf
   have h2:=List.mem_of_find?_eq_some hf
   unfold nq0 at h1
   rw[Bool.and_eq_true,decide_eq_true_eq,decide_eq_true_eq] at h1
   have h2:=List.mem_singleton.1 h2
   rw[←h1.2,←h1.1,h2]
   exact⟨rfl,by decide⟩
  ·cases h
structure Ew0 (e:EnP):Prop where
 vals:∀v∈e.row,VK v
theorem um0{l:LS}{D:List (EnP×SV)}(hr:ge0 l.s D)(hp:nB0 l D){e:EnP}(v:SV)(he:Ew0 e)(hn:D.length<2000)(hrf:l.x.refused<1000000000) :
  (OE l e v).2=true∧(OE l e v).1.x.cfg=l.x.cfg∧(OE l e v).1.x.refused≤l.x.refused+1∧∃D',(D'=D∨D'=D++[(e,v)])∧ge0 (OE l e v).1.s D'∧nB0 (OE l e v).1 D':=by
 have hnx:=hp.next
 obtain⟨g1,g2,g3,g4,g5⟩:=lY hp.good (e.raw v) e.row (by omega) hrf
 obtain⟨times,hfin⟩:=hp.fin
 have hF:=vm0 hfin (e.raw v) e.row
 have hnext:=fun h=>qp0 (s:=l.x) (e:=e.raw v) (r:=e.row) h
 have hput:=fun h0 h=>eu0 (s:=l.x) (e:=e.raw v) (r:=e.row) h0 h
 unfold OE
 generalize GD l.x (e.raw v) e.row=a at *
 unfold op0
 by_cases c:e.kind≠0∨a.1.2≠0
 ·rw[if_pos c]
  have hno:¬((e.raw v).kind=0∧a.1.2=0):=fun hh=>c.elim (fun h=>h hh.1) fun h=>h hh.2
  exact⟨rfl,g2,g5,D,.inl rfl,hr,hp.done,(hnext hno).trans hnx,g1,⟨_,hF.no hno⟩,g3.trans hp.known⟩
 ·rw[if_neg c]
  have c0:e.kind=0:=Classical.byContradiction fun h=>c (.inl h)
  have c1:a.1.2=0:=Classical.byContradiction fun h=>c (.inr h)
  obtain⟨p1,p2,p3,p4,p5⟩:=hput c0 c1
  rw[hp.known] at p4
  obtain⟨q1,q2,q3⟩:=dy0 p4
  have q3:e.source.size≤200:=q3
  have q2:e.schema=1:=q2
  have p3:YE e.time:=p3
  obtain⟨n1,n2⟩:=hr.next
  have hfs:=hr.first
  have hpos:a.1.1=l.s.next:=by rw[p1,hnx,n1]
  have hadd:pQ l.s (evL a.1.1 e)=(0,{ l.s with events:=l.s.events++[evL a.1.1 e] }):=by
   refine wr0 ?_ q1 hpos (by omega)
   unfold YE at p3
   show (decide ((0:Int)=l.s.part)&&(decide (e.source.size≤200)&&(decide (0≤e.schema)&&(decide (0≤e.time)&&decide (e.time≤1099511627776)))))=true
   rw[hr.part,decide_eq_true rfl,decide_eq_true q3,decide_eq_true (show 0≤e.schema by omega),decide_eq_true p3.1,decide_eq_true p3.2]
   rfl
  have hR:=hr.right.add (evL a.1.1 e) he.vals (show inI e.schema by unfold inI;omega) (show inI e.time by unfold YE at p3;unfold inI;omega)
  rw[hadd] at hR ⊢
  refine⟨rfl,g2,g5,D++[(e,v)],.inr rfl,⟨?_,?_,fun i hi hlt=>?_,hR,hr.part⟩,?_,?_,g1,⟨_,(hF.yes c0 c1).2.2⟩,g3.trans hp.known⟩
  ·show l.s.events++[evL a.1.1 e]=(evD (D++[(e,v)])).drop l.s.first.toNat
   rw[Qp0,List.drop_append_of_le_length (by rw[rZ];omega),←hr.ev,p1,hnx]
  ·show 0≤l.s.first∧l.s.first≤((D++[(e,v)]).length:Int)
   rw[List.length_append,List.length_singleton]
   omega
  ·have hlt:(i:Int)<l.s.first:=hlt
   show ((D++[(e,v)])[i]).1.time<l.s.horizon
   rw[List.getElem_append_left (by omega)]
   exact hr.hz i (by omega) hlt
  ·show l.done++[e.raw v]=PE (D++[(e,v)])
   unfold PE
   rw[List.map_append,hp.done]
   rfl
  ·show a.2.next=((D++[(e,v)]).length:Int)
   rw[p2,hnx,List.length_append,List.length_singleton]
   omega
theorem Tz0{s:St}{D:List (EnP×SV)}(h:ge0 s D){t:Int}(ht:s.horizon≤t):rf0 s t=(evD D).filter fun e=>decide (t≤e.time):=by
 unfold rf0
 rw[h.ev]
 conv=>rhs;rw[←List.take_append_drop s.first.toNat (evD D)]
 rw[List.filter_append]
 have hz:((evD D).take s.first.toNat).filter (fun e=>decide (t≤e.time))=[]:=by
  rw[List.filter_eq_nil_iff]
  intro e hm hd
  obtain⟨i,hi,rfl⟩:=List.mem_take_iff_getElem.1 hm
  have hf:=h.first
  rw[rZ] at hi
  have hi2:i<D.length:=by omega
  rw[ks0 hi2] at hd
  have h1:=h.hz i hi2 (by omega)
  have h2:t≤(D[i]).1.time:=of_decide_eq_true hd
  omega
 rw[hz,List.nil_append]
theorem lj0{s:St}{D:List (EnP×SV)}(h:ge0 s D)(hD:D.length≤10000):NY s 0 10000=(evD D).drop s.first.toNat:=by
 obtain⟨h1,h2⟩:=h.next
 have hf:=h.first
 have hp:ZB s 0=0:=by unfold ZB;omega
 unfold NY
 rw[hp,List.drop_zero,List.take_of_length_le (by omega),h.ev]
def evP(D:List (EnP×SV)):EvL:=D.mapIdx fun i p=>(evL i p.1,p.2)
theorem qs0(D:List (EnP×SV)):evs (evP D)=evD D:=by
 unfold evs evP evD
 refine List.ext_getElem (by rw[List.length_map,List.length_mapIdx,List.length_mapIdx]) fun i h1 h2=>?_
 rw[List.getElem_map,List.getElem_mapIdx,List.getElem_mapIdx]
theorem KS(D:List (EnP×SV)):(evP D).length=D.length:=by unfold evP;rw[List.length_mapIdx]
theorem Ck0{D:List (EnP×SV)}{i:Nat}(h:i<D.length):(evP D)[i]'(by rw[KS];exact h)=(evL i (D[i]).1,(D[i]).2):=by
 unfold evP
 rw[List.getElem_mapIdx]
theorem Jp0{s:IS}(hf:fe0 s):(oZ s).length≤1000000:=by
 have htop:=hf.top
 have hlk:=Ia0 (s:=s) hf.cfg
 have a1:=Q6 hf.now
 have a2:=Q6 (n:=s.top) (by constructor<;>omega)
 have a3:=Q6 hf.next
 have a4:=Q6 hf.refused
 have a5:=TU hf.prods
 have a6:=wE (bI s.prods) (by omega)
 have a8:=Q6 (n:=((CE s).length:Int)) ⟨by omega,by omega⟩
 have a9:=xE (nZ s) (CE s) 42 fun t ht=>by
  have h1:=Q6 (hf.key ht).1
  have h2:=Q6 (hf.key ht).2
  unfold nZ
  rw[List.length_append]
  omega
 unfold oZ Kx0
 simp only[List.length_append]
 omega
structure BS (c:CfD) (L:List (EnP×SV)) (i:Nat) (l:LS) (D:List (EnP×SV)):Prop where
 par:nB0 l D
 ret:ge0 l.s D
 cfg:l.x.cfg=c
 refused:l.x.refused≤i
 len:D.length≤i
 sub:∀p∈D,p∈L
theorem BS.ok{c:CfD}{L D:List (EnP×SV)}{i:Nat}{l:LS}(h:BS c L i l D)(hi:i≤999999):LOk l:=by
 have h1:=h.par.next
 have h2:=h.refused
 have h3:=h.len
 refine⟨h.par.good,by omega,by omega,?_,?_⟩
 ·rw[h.par.known];show 1≤1000000;omega
 ·rw[h.par.done];unfold PE;rw[List.length_map];omega
theorem BS.cut{c:CfD}{L D:List (EnP×SV)}{i:Nat}{l:LS}(h:BS c L i l D)(hi:i≤999999){n:Nat}(hn:n≤l.s.events.length):BS c L i { l with s:=Oe0 l.s n } D :=
 ⟨⟨h.par.done,h.par.next,h.par.good,h.par.fin,h.par.known⟩,h.ret.cut hn (by have:=h.len;omega),h.cfg,h.refused,h.len,h.sub⟩
theorem BS.step{c:CfD}{L D:List (EnP×SV)}{i:Nat}{l:LS}(h:BS c L i l D)(hi:i<2000){p:EnP×SV}(hp:p∈L)(he:Ew0 p.1):(OE l p.1 p.2).2=true∧∃D',BS c L (i+1) (OE l p.1 p.2).1 D':=by
 have h2:=h.refused
 have h3:=h.len
 obtain⟨a,b,d,D',e,f,g⟩:=um0 h.ret h.par p.2 he (by omega) (by omega)
 refine⟨a,D',g,f,b.trans h.cfg,by omega,?_,fun q hq=>?_⟩
 ·rcases e with rfl | rfl
  ·omega
  ·rw[List.length_append,List.length_singleton];omega
 ·rcases e with rfl | rfl
  ·exact h.sub q hq
  ·rcases List.mem_append.1 hq with hq | hq
   ·exact h.sub q hq
   ·rw[List.mem_singleton.1 hq];exact hp
theorem BS.up{c:CfD}{L D:List (EnP×SV)}{i:Nat}{l:LS}(h:BS c L i l D):BS c L (i+1) l D :=
 ⟨h.par,h.ret,h.cfg,by have:=h.refused;omega,by have:=h.len;omega,h.sub⟩
end Go.Proofs.YtngbebnhegcokaaGreatDoor

namespace Go.Proofs.YtngbebnhegcokaaGreatDoor
open Go.RowKit
set_option maxRecDepth 100000
section
variable {B:Base}
theorem va0(l:List UInt8):Op.bytesLess l l=false:=by
 induction l with
 | nil=>rfl
 | cons a l ih=>simp [Op.bytesLess,ih]
def qY(a b:Val):Int:=if a.kind<b.kind then -1 else if b.kind<a.kind then 1 else if a.n<b.n then -1 else if b.n<a.n then 1 else if Op.bytesLess a.s.toList b.s.toList=true then -1 else if a.s=b.s then 0 else 1
theorem yd0{a b:Val}:qY a b=0↔a=b:=by
 unfold qY
 constructor
 ·intro h
  repeat' split at h
  all_goals first | (cases h;done) | skip
  obtain⟨k,n,s⟩:=a
  obtain⟨k',n',s'⟩:=b
  simp_all
  omega
 ·rintro rfl
  rw[if_neg (by omega),if_neg (by omega),if_neg (by omega),if_neg (by omega),if_neg (by simp [va0]),if_pos rfl]
theorem lu0(x y:Val):Gives Tryz.prog B (Z0 wJ #[x.v,y.v]) (.int .i64 (qY x y)):=by
 refine Gives.intro fun B' w K base h k=>?_
 refine eH.up ?_
 unfold eH.pt
 refine h.box fun a w1 h=>?_
 refine h.box fun b w2 h=>?_
 replace h:Rel B' w2 [O1 a R3 #[.int .i64 x.kind,.int .i64 x.n,.string x.s],O1 b R3 #[.int .i64 y.kind,.int .i64 y.n,.string y.s]]:=h
 have e1:(x.s.toList == y.s.toList)=decide (x.s=y.s):=qV
 simp -zeta only[U0 vP,U0 KT,U0 mM,Nat.zero_add,h.ld 0 rfl Y2 (o:=0) rfl,h.ld 0 rfl Y2 (o:=1) rfl,h.ld 0 rfl U6 (o:=2) rfl,h.ld 1 rfl Y2 (o:=0) rfl,h.ld 1 rfl Y2 (o:=1) rfl,h.ld 1 rfl U6 (o:=2) rfl,
  G6,x9,nD0,lD0,e1,K3]
 have kk:=fun c (hc:qY x y=c)=>(show K (.int .i64 c) w2 by rw[←hc];exact k _ _ h)
 refine⟨fun h1=>kk _ (by unfold qY;rw[if_pos h1]),fun h1=>⟨fun h2=>kk _ (by unfold qY;rw[if_neg h1,if_pos h2]),fun h2=>⟨fun h3=>kk _ (by unfold qY;rw[if_neg h1,if_neg h2,if_pos h3]),fun h3=>⟨fun h4=>kk _ (by unfold qY;rw[if_neg h1,if_neg h2,if_neg h3,if_pos h4]),fun h4=>?_⟩⟩⟩⟩
 rw[R5]
 refine⟨fun h5=>kk _ (by unfold qY;rw[if_neg h1,if_neg h2,if_neg h3,if_neg h4,if_pos h5]),fun h5=>?_⟩
 rw[h5]
 simp -zeta only[Bool.false_or,G5,K3]
 refine⟨fun h6=>kk _ (by unfold qY;rw[if_neg h1,if_neg h2,if_neg h3,if_neg h4,if_neg (by rw[h5];decide),if_pos h6]),fun h6=>kk _ (by unfold qY;rw[if_neg h1,if_neg h2,if_neg h3,if_neg h4,if_neg (by rw[h5];decide),if_neg h6])⟩
def JJ:List Val→List Val→Int
 | [],[]=>0
 | [],_ :: _ => -1
 | _ :: _,[]=>1
 | a :: l,b :: m=>if qY a b≠0 then qY a b else JJ l m
theorem sp0{l m:List Val}:JJ l m=0↔l=m:=by
 induction l generalizing m with
 | nil=>cases m<;>simp [JJ]
 | cons a l ih=>cases m with
  | nil=>simp [JJ]
  | cons b m =>
   simp only[JJ]
   split
   ·rename_i h
    constructor
    ·intro h';exact absurd h' h
    ·intro h';cases h';exact absurd (yd0.2 rfl) h
   ·rename_i h
    have h:qY a b=0:=Classical.not_not.1 h
    rw[ih]
    have:=yd0.1 h
    subst this
    simp
theorem gZ{l m:List Val}{i:Nat}(h:l.take i=m.take i)(hi:i≤l.length)(hm:i≤m.length):JJ l m=JJ (l.drop i) (m.drop i):=by
 induction i generalizing l m with
 | zero=>simp
 | succ i ih=>cases l with
  | nil=>simp at hi
  | cons a l=>cases m with
   | nil=>simp at hm
   | cons b m =>
    simp only[List.take_succ_cons,List.cons.injEq] at h
    obtain⟨rfl,h⟩:=h
    simp only[List.length_cons] at hi hm
    have:JJ (a :: l) (a :: m)=JJ l m:=by simp only[JJ];rw[if_neg (by simp [yd0])]
    rw[this,ih h (by omega) (by omega)]
    rfl
theorem Dh0{va vb:Value}{l m:List Val}(ra:O4 va l B)(rb:O4 vb m B)(hl:l.length≤4611686018427387904):Gives Tryz.prog B (Z0 XF #[va,vb]) (.int .i64 (JJ l m)):=by
 refine Gives.intro fun B' w K base h k=>?_
 replace ra:=base ra
 replace rb:=base rb
 refine UD.up ?_
 unfold UD.pt
 refine P6 fun J hJ=>?_
 have hJ2:∀w' (i:Nat),l.take i=m.take i→i≤l.length→i≤m.length→(i=l.length∨i=m.length)→Rel B' w' []→J () w':=by
  intro w' i h1 h2 h3 h4 h
  refine hJ _ _ ?_
  simp -zeta only[O4.len ra Q8,O4.len rb Q8,G6,x9,K3]
  have hd:=gZ h1 h2 h3
  rw[hd] at k
  refine⟨fun e=>?_,fun e=>⟨fun e'=>?_,fun e'=>?_⟩⟩
  ·have:i=l.length:=by omega
   subst this
   rw[List.drop_length,List.drop_eq_getElem_cons (by omega)] at k
   exact k _ _ h
  ·have:i=m.length:=by omega
   subst this
   rw[List.drop_length,List.drop_eq_getElem_cons (by omega)] at k
   exact k _ _ h
  ·rw[List.drop_of_length_le (by omega),List.drop_of_length_le (by omega)] at k
   exact k _ _ h
 clear hJ
 refine F6 (fun x w'=>∃i:Nat,i≤l.length∧i≤m.length∧x=(.int .i64 i,())∧l.take i=m.take i∧Rel B' w' []) (fun x _=>l.length-(match x.1 with | .int _ n=>n.toNat | _=>0)) ⟨0,Nat.zero_le _,Nat.zero_le _,rfl,rfl,h⟩ ?_
 clear h
 rintro x w1 ⟨i,hi,hi',rfl,he,h⟩ next hnext
 simp -zeta only[O4.len ra Q8,O4.len rb Q8,G6,K3]
 refine⟨fun h1=>⟨fun h2=>?_,fun h2=>hJ2 _ i he hi hi' (by omega) h⟩,fun h1=>hJ2 _ i he hi hi' (by omega) h⟩
 have hil:i<l.length:=by omega
 have him:i<m.length:=by omega
 have h:=h.tick
 obtain⟨g,o,hx,hc⟩:=O4.idx ra Q8 hil
 obtain⟨g',o',hx',hc'⟩:=O4.idx rb Q8 him
 simp -zeta only[hx,hx',K6.r9 (h.L6 hc) Z7 rfl,K6.r9 (h.L6 hc') Z7 rfl]
 refine h.ask (fun _ _ _=>lu0 l[i] m[i]) fun w2 h=>?_
 simp -zeta only[Q7,G5,K3]
 have hd:=gZ he hi hi'
 rw[List.drop_eq_getElem_cons hil,List.drop_eq_getElem_cons him] at hd
 refine⟨fun e=>?_,fun e=>?_⟩
 ·rw[Z5,E5 (by omega) (by omega)]
  refine hnext _ _ ⟨i+1,by omega,by omega,rfl,?_,h⟩ (by simp only;omega)
  rw[List.take_succ_eq_append_getElem hil,List.take_succ_eq_append_getElem him,he,yd0.1 e]
 ·have:JJ l m=qY l[i] m[i]:=by rw[hd];simp only[JJ];rw[if_pos e]
  rw[this] at k
  exact k _ _ h
theorem Ov0{va vb:Value}{l m:List Val}(ra:O4 va l B)(rb:O4 vb m B)(hl:l.length≤4611686018427387904):Gives Tryz.prog B (Z0 UM #[va,vb]) (.bool (decide (l=m))):=by
 refine Gives.intro fun B' w K base h k=>?_
 refine aL.up ?_
 unfold aL.pt
 refine h.ask (fun _ _ base2=>Dh0 (base2 (base ra)) (base2 (base rb)) hl) fun w1 h=>?_
 rw[F7]
 have:decide (JJ l m=0)=decide (l=m):=by rw[decide_eq_decide];exact sp0
 rw[this]
 exact k _ _ h
theorem Ev.dH0{a b:Ev}(h0:a.part=b.part)(h1:a.pos=b.pos)(h2:a.source=b.source)(h3:a.schema=b.schema)(h4:a.time=b.time)(h5:a.row=b.row):a=b:=by
 cases a;cases b;simp_all
theorem to0{va vb:Value}{L M:EvL}(ra:Ux0 va L B)(rb:Ux0 vb M B)(hl:L.length≤4611686018427387904)(hrl:∀p∈L,p.1.row.length≤4611686018427387904):Gives Tryz.prog B (Z0 vI #[va,vb]) (.bool (decide (evs L=evs M))):=by
 refine Gives.intro fun B' w K base h k=>?_
 have ra1:=base ra.1
 have rb1:=base rb.1
 have ra2:=base ra.2
 have rb2:=base rb.2
 refine bL.up ?_
 unfold bL.pt
 have hL:(l_ L).length=L.length:=by simp [l_]
 have hM:(l_ M).length=M.length:=by simp [l_]
 simp -zeta only[O4.len ra1 u7,O4.len rb1 u7,hL,hM,Q7,G5,K3]
 have no:∀w',Rel B' w' []→evs L≠evs M→K (.bool false) w':=fun w' h hne=>by
  rw[decide_eq_false hne] at k
  exact k _ _ h
 refine⟨fun e=>?_,fun e=>no _ h fun he=>e (by have:=congrArg List.length he;simp [evs] at this;omega)⟩
 have hlm:L.length=M.length:=by omega
 refine F6 (fun x w'=>∃i:Nat,i≤L.length∧x=(.int .i64 i,())∧(evs L).take i=(evs M).take i∧Rel B' w' []) (fun x _=>L.length-(match x.1 with | .int _ n=>n.toNat | _=>0)) ⟨0,Nat.zero_le _,rfl,rfl,h⟩ ?_
 clear h
 rintro x w1 ⟨i,hi,rfl,he,h⟩ next hnext
 simp -zeta only[G6,K3]
 refine⟨fun h1=>?_,fun h1=>?_⟩
 ·have hil:i<L.length:=by omega
  have him:i<M.length:=by omega
  obtain⟨g,o,hx,hc⟩:=O4.idx ra1 u7 (i:=i) (by omega)
  obtain⟨g',o',hx',hc'⟩:=O4.idx rb1 u7 (i:=i) (by omega)
  have hel:(l_ L)[i]'(by omega)=L[i].1.raw L[i].2:=by simp [l_]
  have hem:(l_ M)[i]'(by omega)=M[i].1.raw M[i].2:=by simp [l_]
  rw[hel] at hc
  rw[hem] at hc'
  have rr1:O4 L[i].2.1 L[i].1.row B':=ra2 L[i] (List.getElem_mem hil)
  have rr2:O4 M[i].2.1 M[i].1.row B':=rb2 M[i] (List.getElem_mem him)
  simp -zeta only[hx,K6.r9 (h.L6 hc) Y8 rfl]
  refine h.R8 (ds:=(L[i].1.raw L[i].2).cs.toArray) TC rfl Y8 rfl (fun v hv=>Enc.one (L[i].1.raw L[i].2) v hv) fun bx w2 h=>?_
  simp -zeta only[hx',K6.r9 (h.L6 hc') Y8 rfl]
  refine h.R8 (ds:=(M[i].1.raw M[i].2).cs.toArray) TC rfl Y8 rfl (fun v hv=>Enc.one (M[i].1.raw M[i].2) v hv) fun by' w3 h=>?_
  have q:∀(h':(evs L).take (i+1)≠(evs M).take (i+1)),evs L≠evs M:=fun h' e=>h' (by rw[e])
  have s1:(evs L).take (i+1)=(evs L).take i++[L[i].1]:=by rw[List.take_succ_eq_append_getElem (by simpa [evs] using hil)];simp [evs]
  have s2:(evs M).take (i+1)=(evs M).take i++[M[i].1]:=by rw[List.take_succ_eq_append_getElem (by simpa [evs] using him)];simp [evs]
  have ne:L[i].1≠M[i].1→evs L≠evs M:=fun hne=>q (by rw[s1,s2,he];simpa using hne)
  simp -zeta only[U0 KX,U0 LX,U0 ET,U0 FT,U0 tJ,U0 lM,Nat.zero_add,
   h.ld 0 rfl Y2 (o:=0) rfl,h.ld 0 rfl Y2 (o:=1) rfl,h.ld 0 rfl U6 (o:=2) rfl,h.ld 0 rfl Y2 (o:=3) rfl,h.ld 0 rfl Y2 (o:=4) rfl,h.ld 0 rfl H7 (o:=5) rfl,
   h.ld 1 rfl Y2 (o:=0) rfl,h.ld 1 rfl Y2 (o:=1) rfl,h.ld 1 rfl U6 (o:=2) rfl,h.ld 1 rfl Y2 (o:=3) rfl,h.ld 1 rfl Y2 (o:=4) rfl,h.ld 1 rfl H7 (o:=5) rfl,Q7,DZ,G5,K3]
  have no':L[i].1≠M[i].1→K (.bool false) w3:=fun hne=>no _ h.nil (ne hne)
  refine⟨fun(p0:L[i].1.part=M[i].1.part)=>⟨fun(p1:L[i].1.pos=M[i].1.pos)=>⟨fun(p2:L[i].1.source=M[i].1.source)=>⟨fun(p3:L[i].1.schema=M[i].1.schema)=>⟨fun(p4:L[i].1.time=M[i].1.time)=>?_,fun(p:¬L[i].1.time=M[i].1.time)=>no' fun e=>p (by rw[e])⟩,fun(p:¬L[i].1.schema=M[i].1.schema)=>no' fun e=>p (by rw[e])⟩,
   fun(p:¬L[i].1.source=M[i].1.source)=>no' fun e=>p (by rw[e])⟩,fun(p:¬L[i].1.pos=M[i].1.pos)=>no' fun e=>p (by rw[e])⟩,fun(p:¬L[i].1.part=M[i].1.part)=>no' fun e=>p (by rw[e])⟩
  refine h.ask (fun _ _ base2=>Ov0 (base2 rr1) (base2 rr2) (hrl _ (List.getElem_mem hil))) fun w4 h=>?_
  simp -zeta only[V7,G5,K3]
  refine⟨fun p5=>?_,fun p=>no _ h.nil (ne fun e=>p (by rw[e]))⟩
  rw[Z5,E5 (by omega) (by omega)]
  refine hnext _ _ ⟨i+1,by omega,rfl,?_,h.nil⟩ (by simp only;omega)
  rw[s1,s2,he]
  rw[Ev.dH0 p0 p1 p2 p3 p4 p5]
 ·have:i=L.length:=by omega
  subst this
  rw[List.take_of_length_le (by simp [evs]),List.take_of_length_le (by simp [evs];omega)] at he
  rw[decide_eq_true he] at k
  exact k _ _ h
end
end Go.Proofs.YtngbebnhegcokaaGreatDoor

namespace Go.Proofs.YtngbebnhegcokaaGreatDoor
open Go.RowKit
set_option maxRecDepth 100000
abbrev OpD:=fF
structure OpP where
 kind:Int
 id:Int
 n:Int
 data:ByteArray
 keep:List Int
def OpP.raw(o:OpP)(v:SV):OpD:=⟨o.kind,o.id,o.n,o.data,v⟩
section
variable {B:Base} {w:World} {σ τ:List Dat} {K:Value→World→Prop}
theorem om0{a b:Value}{l m:List ByteArray}(ra:O4 a l B)(rb:O4 b m B)(hl:l.length≤4611686018427387904):Gives Tryz.prog B (Z0 MH #[a,b]) (.bool (decide (l=m))):=by
 refine Gives.intro fun B' w K base h k=>?_
 replace ra:=base ra
 replace rb:=base rb
 refine LF.up ?_
 unfold LF.pt
 have no:∀w' τ,Rel B' w' τ→l≠m→K (.bool false) w':=fun w' τ h hn=>by rw[decide_eq_false hn] at k;exact k _ _ h
 simp -zeta only[O4.len ra K7,O4.len rb K7,Q7,G5,K3]
 refine⟨fun he=>?_,fun hne=>no _ _ h fun hh=>hne (by rw[hh])⟩
 refine F6 (fun x w'=>∃i:Nat,i≤l.length∧x=(.int .i64 i,())∧(∀j (h1:j<l.length) (h2:j<m.length),j<i→l[j]=m[j])∧Rel B' w' []) (fun x _=>l.length-(match x.1 with | .int _ n=>n.toNat | _=>0))
  ⟨0,Nat.zero_le _,rfl,fun j _ _ hj=>absurd hj (Nat.not_lt_zero j),h⟩ ?_
 clear h
 rintro x w1 ⟨i,hi,rfl,hin,h⟩ next hnext
 simp -zeta only[G6,K3]
 refine⟨fun hlt=>?_,fun hge=>?_⟩
 ·have hil:i<l.length:=by omega
  have him:i<m.length:=by omega
  have h:=h.tick
  obtain⟨q,q1,q2⟩:=O4.cZ ra h K7 hil U6 (x := .string l[i]) rfl
  obtain⟨q',q3,q4⟩:=O4.cZ rb h K7 him U6 (x := .string m[i]) rfl
  simp -zeta only[q1,q2,q3,q4,DZ,G5,K3]
  refine⟨fun c=>?_,fun c=>no _ _ h fun hh=>c (by simp only[hh])⟩
  rw[Z5,E5 (by omega) (by omega)]
  refine hnext _ _ ⟨i+1,hil,rfl,fun j h1 h2 hj=>?_,h⟩ (by simp only;omega)
  by_cases e:j=i
  ·subst e;exact c
  ·exact hin j h1 h2 (by omega)
 ·have:l=m:=List.ext_getElem (by omega) fun j h1 h2=>hin j h1 h2 (by omega)
  rw[decide_eq_true this] at k
  exact k _ _ h
end
end Go.Proofs.YtngbebnhegcokaaGreatDoor

namespace Go.Proofs.YtngbebnhegcokaaGreatDoor
open Go.RowKit
set_option maxRecDepth 100000
end Go.Proofs.YtngbebnhegcokaaGreatDoor

namespace Go.Proofs.YtngbebnhegcokaaGreatDoor
open Go.RowKit
set_option maxRecDepth 100000
end Go.Proofs.YtngbebnhegcokaaGreatDoor

namespace Go.Proofs.YtngbebnhegcokaaGreatDoor
open Go.RowKit
set_option maxRecDepth 100000
def smE:EnP:=⟨0,1,0,0,⟨#[115]⟩,1,7,[⟨0,3,⟨#[]⟩⟩]⟩
def smC:CfD:=⟨0,0,5,50,1,0⟩
def smL:LS:=⟨YP smC ksL,⟨0,0,0,[]⟩,[]⟩
theorem vj0:uF smC:=by decide
theorem yA0:LOk smL:=⟨ao0 vj0 ksL,by show (0:Int)<1000000;omega,by show (0:Int)<1000000;omega,by show 1≤1000000;omega,Nat.zero_le _⟩
theorem ZJ:yE0 smE:=⟨by unfold inI;decide,by unfold inI;decide,by unfold inI;decide,by unfold inI;decide,by unfold inI;decide,by unfold inI;decide,by decide,by decide,fun v hv=>by
 rw[List.mem_singleton.1 hv]
 exact⟨⟨by unfold inI;decide,by unfold inI;decide,by decide⟩,by decide⟩⟩
theorem AA0(v:SV):(OE smL smE v).2=true∧(OE smL smE v).1.done.length=1∧(OE smL smE v).1.s.next=1∧O9 (OE smL smE v).1.x=1:=⟨rfl,rfl,rfl,rfl⟩
theorem zA0(v v':SV):(GD (OE smL smE v).1.x (smE.raw v') smE.row).1=(0,5)∧O9 (GD (OE smL smE v).1.x (smE.raw v') smE.row).2=1:=⟨rfl,rfl⟩
end Go.Proofs.YtngbebnhegcokaaGreatDoor

namespace Go.Proofs.YtngbebnhegcokaaGreatDoor
open Go.RowKit
set_option maxRecDepth 100000
def smD:ByteArray:=ofL (wa0 smE)
noncomputable def fr0:nA:=jX Vh0 0 99
noncomputable def ir0:nA:=(oJ fr0 0 smD).g
noncomputable def wA0:nA:=(oJ ir0 0 smD).g
noncomputable def Ng0:nA:=jX wA0 0 99
theorem Rc0:∀(k:Nat) {g:nA},GOk g→GOk (rJ k g)
 | 0,_,h=>h
 | k+1,g,h=>by
  rw[rJ]
  split
  ·exact h
  ·exact Rc0 k (QV h 0 _)
theorem dY:∀(k:Nat) (g:nA),E_ g (rJ k g)
 | 0,g=>E_.refl g
 | k+1,g=>by
  rw[rJ]
  split
  ·exact E_.refl g
  ·exact(GX g 0 _).trans (dY k _)
theorem KY{g:nA}(h:GOk g)(id most:Int):GOk (jX g id most):=Rc0 _ (QZ h id)
theorem Sl0(g:nA)(id most:Int):E_ g (jX g id most):=(TY g id oI).trans (dY _ _)
theorem bY(g:nA)(id:Int)(data:ByteArray):E_ g (oJ g id data).g:=by
 unfold oJ
 split
 ·exact E_.refl g
 rename_i c
 obtain⟨hi,u,hu⟩:=BU (Classical.byContradiction c)
 rw[hu]
 show E_ g (ZP g id u (U8 u.r data)).g
 have h1:E_ g (pI g id u (U8 u.r data).r):=E_.XG g hi ⟨rfl,rfl⟩
 have h2:E_ (pI g id u (U8 u.r data).r) (doS (pI g id u (U8 u.r data).r) id { u with r:=(U8 u.r data).r } (U8 u.r data).o).1:=Ym0 _ hi _ _
 unfold ZP
 split
 ·exact h1
 split
 ·exact h1.trans h2
 ·exact h1.trans h2
section
variable {B:Base} {w:World} {σ τ:List Dat} {K:Value→World→Prop}
set_option maxHeartbeats 4000000 in
theorem Rn0(hT:VT B)(hW:qC B)(hP:VI B)(hcom:Ng0.committed=[wa0 smE,wa0 smE]):Gives Tryz.prog B (Z0 CF #[]) (.bool true):=by
 refine Gives.intro fun B' w K base h k=>?_
 replace hT:=base hT
 replace hW:=base hW
 replace hP:=base hP
 refine iH.up ?_
 unfold iH.pt
 have ok0:=kl0.1
 have ke0:=kl0.2 B'
 have ok1:GOk fr0:=KY ok0 0 99
 have ke1:bG fr0.mem B':=(Sl0 Vh0 0 99).keep ke0
 have ok2:GOk ir0:=TS ok1 0 smD
 have ke2:bG ir0.mem B':=(bY fr0 0 smD).keep ke1
 have ok3:GOk wA0:=TS ok2 0 smD
 have ke3:bG wA0.mem B':=(bY ir0 0 smD).keep ke2
 have ok4:GOk Ng0:=KY ok3 0 99
 refine h.make (fun B2 own base2=>DF0 (base2 hT) (base2 hW) (base2 hP)) fun u τ w1 hp h=>?_
 obtain⟨pg,rfl,rfl⟩:=hp
 rw[tX]
 refine h.make (fun B2 own base2=>Oi0 smC) fun u τ w2 hp h=>?_
 rcases hp with⟨_,pl,rfl,rfl⟩ | ⟨hr,_,_⟩
 case inr=>exact absurd vj0 hr
 have h:Rel B' w2 [kC pg Vh0,lsD pl smL]:=h
 rw[OA Zc0,d_,OA WH,d_,De0]
 refine h.XH (α:=OD) ⟨0,3,⟨#[]⟩⟩ Q8 (by decide) fun rv w3 h=>?_
 have hrv:rv.oneCell'=true:=h.oneCell (i:=2) rfl
 obtain⟨rx,rn,rc,rfl⟩:=EW h 2 rfl
 rw[KU]
 refine h.R8 (ds:=(smE.raw ⟨.slice rx rn rc,rfl⟩).cs.toArray) fQ rfl M8 rfl (fun v hv=>Enc.one (smE.raw ⟨.slice rx rn rc,rfl⟩) v hv) fun e3 w4 h=>?_
 have h:Rel B' w4 [kC pg Vh0,lsD pl smL,Y3 R3 (.slice rx rn rc) smE.row,O1 e3 U1 (smE.raw ⟨.slice rx rn rc,rfl⟩).cs.toArray]:=h
 refine h.act 0 rfl (fun B2 own base2=>tj0 (base2 hT) (base2 hW) (base2 hP) ok0 (ke0.mono base2) 0 99 (by omega)) fun v e' τ w5 hp h=>?_
 obtain⟨rfl,rfl⟩:=hp
 have h:Rel B' w5 [kC pg fr0,lsD pl smL,Y3 R3 (.slice rx rn rc) smE.row,O1 e3 U1 (smE.raw ⟨.slice rx rn rc,rfl⟩).cs.toArray]:=h
 rw[h.r9 3 rfl M8 rfl]
 refine h.ask (fun B2 own base2=>QS (base2 hP) ZJ (v:=⟨.slice rx rn rc,rfl⟩) (Y3.read (own (i:=2) rfl))) fun w6 h=>?_
 refine h.act 0 rfl (fun B2 own base2=>ig0 (base2 hT) (base2 hP) ok1 (ke1.mono base2) 0 smD) fun v e' τ w7 hp h=>?_
 obtain⟨_,rfl,rfl⟩:=hp
 have h:Rel B' w7 [kC pg ir0,lsD pl smL,Y3 R3 (.slice rx rn rc) smE.row,O1 e3 U1 (smE.raw ⟨.slice rx rn rc,rfl⟩).cs.toArray]:=h
 rw[h.r9 3 rfl M8 rfl]
 refine h.ask (fun B2 own base2=>QS (base2 hP) ZJ (v:=⟨.slice rx rn rc,rfl⟩) (Y3.read (own (i:=2) rfl))) fun w6 h=>?_
 refine h.act 0 rfl (fun B2 own base2=>ig0 (base2 hT) (base2 hP) ok2 (ke2.mono base2) 0 smD) fun v e' τ w7 hp h=>?_
 obtain⟨_,rfl,rfl⟩:=hp
 refine h.act 0 rfl (fun B2 own base2=>tj0 (base2 hT) (base2 hW) (base2 hP) ok3 (ke3.mono base2) 0 99 (by omega)) fun v e' τ w8 hp h=>?_
 obtain⟨rfl,rfl⟩:=hp
 have h:Rel B' w8 [kC pg Ng0,lsD pl smL,Y3 R3 (.slice rx rn rc) smE.row,O1 e3 U1 (smE.raw ⟨.slice rx rn rc,rfl⟩).cs.toArray]:=h
 refine h.make (fun B2 own base2=>Lm0 (own (i:=0) rfl) ok4.com) fun cv τ w9 hp h=>?_
 subst hp
 rw[hcom] at h
 have h:Rel B' w9 [kC pg Ng0,lsD pl smL,Y3 R3 (.slice rx rn rc) smE.row,O1 e3 U1 (smE.raw ⟨.slice rx rn rc,rfl⟩).cs.toArray,Y3 M3 cv ([smD,smD]:List ByteArray)]:=h
 rw[O4.len (Y3.read (h.here (i:=4) rfl)) K7,Q7,G5,K3]
 refine⟨fun _=>?_,fun c=>absurd rfl c⟩
 have i0:∀{Kp:Value→Prop} {w':World} {τ:List Dat},Rel B' w' (kC pg Ng0 :: lsD pl smL :: Y3 R3 (.slice rx rn rc) smE.row :: O1 e3 U1 (smE.raw ⟨.slice rx rn rc,rfl⟩).cs.toArray :: Y3 M3 cv ([smD,smD]:List ByteArray) :: τ)→(M0 Tryz.prog (I5 Z4 cv (.int .i64 0)) fun t39=>Y0 Tryz.prog (X0 M3 t39) w' Kp)=Kp (.string smD):=by
  intro Kp w' τ h
  obtain⟨g,o,hx,hc⟩:=O4.idx (Y3.read (h.here (i:=4) rfl)) K7 (P:=Tryz.prog) (i:=0) (show 0<2 by omega)
  rw[show ((0:Int))=((0:Nat):Int) from rfl,hx,K6.ld0 hc U6 (v := .string smD) rfl]
 rw[i0 h]
 clear i0
 have hsl:(wa0 smE).length≤100000000:=by
  have hr:=Dl0 ZJ.len ZJ.row
  have l1:=Q6 ZJ.kind
  have l2:=Q6 ZJ.producer
  have l3:=Q6 ZJ.epoch
  have l4:=Q6 ZJ.seq
  have l5:=wE (bl smE.source) (by decide)
  have l6:=Q6 ZJ.schema
  have l7:=Q6 ZJ.time
  have l8:=wE (dG smE.row) (by omega)
  have l9:(bl smE.source).length≤20:=by decide
  unfold wa0
  simp only[List.length_append]
  omega
 refine h.make (fun B2 own base2=>Mf0 (base2 hW) hsl) fun u τ w10 hp h=>?_
 obtain⟨v1,rfl,rfl⟩:=hp
 rw[jj0 ZJ] at h ⊢
 have h:Rel B' w10 [kC pg Ng0,lsD pl smL,Y3 R3 (.slice rx rn rc) smE.row,O1 e3 U1 (smE.raw ⟨.slice rx rn rc,rfl⟩).cs.toArray,Y3 M3 cv ([smD,smD]:List ByteArray),Y3 R3 v1.1 smE.row]:=h
 refine h.act 1 rfl (fun B2 own base2=>tm0 yA0 (Y3.read (own (j:=5) (by decide) rfl)) (by decide) (fun x hx=>by rw[List.mem_singleton.1 hx];decide)) fun u e' τ w11 hp h=>?_
 obtain⟨rfl,rfl,rfl⟩:=hp
 obtain⟨f1,f2,f3,f4⟩:=AA0 v1
 have f5:=fun v'=>zA0 v1 v'
 have hgood:=(lY yA0.x (smE.raw v1) smE.row (by show (0:Int)<_;omega) (by show (0:Int)<_;omega))
 have hxe:(OE smL smE v1).1.x=(GD smL.x (smE.raw v1) smE.row).2:=rfl
 rw[←hxe] at hgood
 have hnx:(OE smL smE v1).1.x.next<1000000000:=by have:=hgood.2.2.2.1;have e:smL.x.next=0:=rfl;omega
 have hrx:(OE smL smE v1).1.x.refused<1000000000:=by have:=hgood.2.2.2.2;have e:smL.x.refused=0:=rfl;omega
 have hkx:(OE smL smE v1).1.x.known.length≤4611686018427387904:=by rw[hgood.2.2.1];decide
 rw[f1]
 generalize (OE smL smE v1).1=l1 at *
 have h:Rel B' w11 (lsD pl l1 :: [kC pg Ng0,Y3 R3 (.slice rx rn rc) smE.row,O1 e3 U1 (smE.raw ⟨.slice rx rn rc,rfl⟩).cs.toArray,Y3 M3 cv ([smD,smD]:List ByteArray),Y3 R3 v1.1 smE.row]):=h.pick [1,0,2,3,4,5] (by decide)
 obtain⟨⟨px,ps⟩,dv,h⟩:=lsD.open h
 have h:Rel B' w11 [O1 pl F4 #[ptr px,ptr ps,dv.1],intD px l1.x,U7 ps l1.s,Y3 U1 dv.1 l1.done,kC pg Ng0,Y3 R3 (.slice rx rn rc) smE.row,O1 e3 U1 (smE.raw ⟨.slice rx rn rc,rfl⟩).cs.toArray,Y3 M3 cv ([smD,smD]:List ByteArray),Y3 R3 v1.1 smE.row]:=h
 have h:=h.tick
 generalize tick w11=w11 at *
 simp -zeta only[J5,U0 jC,U0 A9,U0 VD,Nat.zero_add]
 rw[h.ld 0 rfl KA (o:=0) (v:=ptr px) rfl]
 obtain⟨g,o,hx,hc⟩:=O4.idx (Y3.read (h.here (i:=7) rfl)) K7 (P:=Tryz.prog) (i:=1) (show 1<2 by omega)
 rw[show ((1:Int))=((1:Nat):Int) from rfl,hx,K6.ld0 hc U6 (v := .string smD) rfl]
 clear hx hc
 refine h.make (fun B2 own base2=>Mf0 (base2 hW) hsl) fun u τ w12 hp h=>?_
 obtain⟨v2,rfl,rfl⟩:=hp
 rw[jj0 ZJ] at h ⊢
 refine⟨h.is 0 rfl KA (o:=0) rfl,?_⟩
 refine h.act 1 rfl (fun B2 own base2=>Br0 (en:=smE.raw v2) (r:=smE.row) hgood.1 hnx hrx (Y3.read (own (j:=9) (by decide) rfl)) (by decide) hkx) fun u e' τ w13 hp h=>?_
 obtain⟨rfl,rfl,rfl⟩:=hp
 obtain⟨f6,f7⟩:=f5 v2
 have hg2:=(lY hgood.1 (smE.raw v2) smE.row hnx hrx).1
 generalize GD l1.x (smE.raw v2) smE.row=a at *
 obtain⟨⟨n,f⟩,x2⟩:=a
 simp only[Prod.mk.injEq] at f6
 obtain⟨rfl,rfl⟩:=f6
 rw[M9,D9,lC]
 have h:Rel B' w13 [O1 pl F4 #[ptr px,ptr ps,dv.1],intD px x2,U7 ps l1.s,Y3 U1 dv.1 l1.done,kC pg Ng0,Y3 R3 (.slice rx rn rc) smE.row,O1 e3 U1 (smE.raw ⟨.slice rx rn rc,rfl⟩).cs.toArray,Y3 M3 cv ([smD,smD]:List ByteArray),Y3 R3 v1.1 smE.row,Y3 R3 v2.1 smE.row]:=h
 have h:=h.tick
 generalize tick w13=w13 at *
 have isl:∀{w':World} {ρ:List Dat},Rel B' w' (O1 pl F4 #[ptr px,ptr ps,dv.1] :: intD px x2 :: U7 ps l1.s :: Y3 U1 dv.1 l1.done :: ρ)→Is Tryz.prog (M5 .len #[D6] Q0 #[false] #[dv.1]) (.int .i64 l1.done.length) w':=by
  intro w' ρ h
  have:=O4.len (P:=Tryz.prog) (w:=w') (T:=D6) (U:=Q0) (bs:=#[false]) (Kp:=fun x=>x = .int .i64 l1.done.length) (Y3.read (h.here (i:=3) rfl)) iA
  obtain⟨x,h1,rfl⟩:=this.mpr rfl
  exact h1
 rw[h.ld 0 rfl fA (o:=2) (v:=dv.1) rfl,O4.len (Y3.read (h.here (i:=3) rfl)) iA,F7,K3]
 refine⟨fun _=>?_,fun c=>absurd (show (l1.done.length:Int)=1 by omega) c⟩
 rw[h.ld 0 rfl O7 (o:=1) (v:=ptr ps) rfl]
 refine h.ask (fun B2 own base2=>Wa0 (U7.read (own (i:=2) rfl))) fun w14 h=>?_
 rw[F7,K3]
 refine⟨fun _=>?_,fun c=>absurd f3 c⟩
 rw[F7,K3]
 refine⟨fun _=>?_,fun c=>absurd rfl c⟩
 rw[F7,K3]
 refine⟨fun _=>?_,fun c=>absurd rfl c⟩
 rw[h.ld 0 rfl KA (o:=0) (v:=ptr px) rfl]
 refine h.ask (fun B2 own base2=>av0 (own (i:=1) rfl) hg2) fun w15 h=>?_
 refine⟨isl h,h.is 0 rfl fA (o:=2) rfl,?_⟩
 rw[F7,K3]
 refine⟨fun _=>?_,fun c=>absurd f7 c⟩
 rw[h.r9 6 rfl M8 rfl,h.r9 6 rfl M8 rfl]
 refine h.ask (fun B2 own base2=>QS (base2 hP) ZJ (v:=⟨.slice rx rn rc,rfl⟩) (Y3.read (own (i:=5) rfl))) fun w16 h=>?_
 refine⟨h.bV 6 rfl M8 rfl,h.is 0 rfl O7 (o:=1) rfl,isl h,h.is 0 rfl fA (o:=2) rfl,?_⟩
 refine h.ask (fun B2 own base2=>QS (base2 hP) ZJ (v:=⟨.slice rx rn rc,rfl⟩) (Y3.read (own (i:=5) rfl))) fun w17 h=>?_
 refine⟨h.is 0 rfl O7 (o:=1) rfl,isl h,h.is 0 rfl fA (o:=2) rfl,?_⟩
 refine h.NV ([smD,smD]:List ByteArray) K7 fun v5 w18 h=>?_
 refine⟨h.is 0 rfl O7 (o:=1) rfl,isl h,h.is 0 rfl fA (o:=2) rfl,?_⟩
 refine h.ask (fun B2 own base2=>om0 (Y3.read (own (i:=7) rfl)) (Y3.read (own (i:=10) rfl)) (show 2≤_ by omega)) fun w19 h=>?_
 refine⟨h.is 0 rfl O7 (o:=1) rfl,isl h,h.is 0 rfl fA (o:=2) rfl,?_⟩
 rw[decide_eq_true rfl]
 exact k _ _ h.nil
end
end Go.Proofs.YtngbebnhegcokaaGreatDoor

namespace Go.Proofs.YtngbebnhegcokaaGreatDoor
open Go.RowKit
set_option maxRecDepth 100000
end Go.Proofs.YtngbebnhegcokaaGreatDoor

namespace Go.Proofs.YtngbebnhegcokaaGreatDoor
open Go.RowKit
set_option maxRecDepth 100000
theorem iM{a b:Int}{r s:Bs}(ha:inI a)(hb:inI b)(h:encI a++r=encI b++s):a=b∧r=s:=by
 have h1:=yE ha r false
 rw[h,yE hb s false] at h1
 cases h1
 exact⟨rfl,rfl⟩
theorem Ox0{a b r s:Bs}(ha:a.length≤9223372036854775807)(hb:b.length≤9223372036854775807)(h:yB a++r=yB b++s):a=b∧r=s:=by
 have h1:=BR ha r
 rw[h,BR hb s] at h1
 cases h1
 exact⟨rfl,rfl⟩
theorem Np0{x y:uB}{r s:Bs}(hx:MR x)(hy:MR y)(h:d9 x++r=d9 y++s):x=y∧r=s:=by
 unfold d9 at h
 rw[List.append_assoc,List.append_assoc] at h
 obtain⟨h1,h2⟩:=iM hx.term hy.term h
 have l1:=hx.data
 have l2:=hy.data
 obtain⟨h3,h4⟩:=Ox0 (by rw[aP];omega) (by rw[aP];omega) h2
 refine⟨?_,h4⟩
 obtain⟨a,b⟩:=x
 obtain⟨c,d⟩:=y
 simp only at h1 h3
 rw[h1,←pO b,h3,pO]
theorem no0:∀{l m:List uB},(∀x∈l,MR x)→(∀x∈m,MR x)→l.length=m.length→l.flatMap d9=m.flatMap d9→l=m
 | [],[],_,_,_,_=>rfl
 | [],y :: m,_,_,h,_=>by cases h
 | x :: l,[],_,_,h,_=>by cases h
 | x :: l,y :: m,hl,hm,hn,h=>by
  rw[List.flatMap_cons,List.flatMap_cons] at h
  obtain⟨h1,h2⟩:=Np0 (hl x (List.mem_cons_self ..)) (hm y (List.mem_cons_self ..)) h
  rw[h1,no0 (fun x hx=>hl x (List.mem_cons_of_mem _ hx)) (fun x hx=>hm x (List.mem_cons_of_mem _ hx)) (by simpa using hn) h2]
theorem Mx0{m n:R9}(hm:bM m)(hn:bM n)(h:EN m=EN n):m=n:=by
 have e8:∀m:R9,EN m=encI m.kind++(encI m.from_++(encI m.to_++(encI m.term++(encI m.index++(encI m.prev++(encI m.commit++(encI (if m.yes then 1 else 0)++(encI m.recs.length++m.recs.flatMap d9)))))))):=fun m=>by
  unfold EN EL
  simp only[List.flatMap_cons,List.flatMap_nil,List.append_assoc,List.nil_append]
 rw[e8,e8] at h
 have hi:=hm.ints
 unfold EL at hi
 simp only[List.mem_cons,List.not_mem_nil,or_false,forall_eq_or_imp,forall_eq] at hi
 obtain⟨i0,i1,i2,i3,i4,i5,i6,i7⟩:=hi
 have hj:=hn.ints
 unfold EL at hj
 simp only[List.mem_cons,List.not_mem_nil,or_false,forall_eq_or_imp,forall_eq] at hj
 obtain⟨j0,j1,j2,j3,j4,j5,j6,j7⟩:=hj
 have f1:=hm.few
 have f2:=hn.few
 obtain⟨a0,h⟩:=iM i0 j0 h
 obtain⟨a1,h⟩:=iM i1 j1 h
 obtain⟨a2,h⟩:=iM i2 j2 h
 obtain⟨a3,h⟩:=iM i3 j3 h
 obtain⟨a4,h⟩:=iM i4 j4 h
 obtain⟨a5,h⟩:=iM i5 j5 h
 obtain⟨a6,h⟩:=iM i6 j6 h
 obtain⟨a7,h⟩:=iM i7 j7 h
 obtain⟨a8,h⟩:=iM (by unfold inI;omega) (by unfold inI;omega) h
 have a9:=no0 hm.recs hn.recs (by omega) h
 obtain⟨m0,m1,m2,m3,m4,m5,m6,m7,m8⟩:=m
 obtain⟨n0,n1,n2,n3,n4,n5,n6,n7,n8⟩:=n
 simp only at a0 a1 a2 a3 a4 a5 a6 a7 a9
 subst a0 a1 a2 a3 a4 a5 a6 a9
 congr 1
 cases m7<;>cases n7<;>first | rfl | (simp at a7)
theorem ov0{m:R9}(hm:bM m):BZ (ofL (EN m))=m:=by
 have hex:∃n,bM n∧ofL (EN m)=ofL (EN n):=⟨m,hm,rfl⟩
 unfold BZ
 rw[dif_pos hex]
 obtain⟨h1,h2⟩:=hex.choose_spec
 have h3:=congrArg bl h2
 rw[GI,GI] at h3
 exact(Mx0 hm h1 h3).symm
end Go.Proofs.YtngbebnhegcokaaGreatDoor

namespace Go.Proofs.YtngbebnhegcokaaGreatDoor
open Go.RowKit
set_option maxRecDepth 100000
end Go.Proofs.YtngbebnhegcokaaGreatDoor

namespace Go.Proofs.YtngbebnhegcokaaGreatDoor
open Go.RowKit
set_option maxRecDepth 100000
structure PI (fs:Int→YA) (qs:List Sec):Prop where
 le:∀f,(fs f).last.size≤(fs f).now.size
 eq:∀f (i:Nat),(⟨f,((i / 64:Nat):Int)⟩:Sec)∈qs∨(bl (fs f).last).getD i 0=(bl (fs f).now).getD i 0
 len:∀f,(fs f).now.size=(fs f).last.size∨(0<(fs f).now.size∧(⟨f,((((fs f).now.size-1) / 64:Nat):Int)⟩:Sec)∈qs)
abbrev PIs(s:DS):Prop:=PI s.fs s.queue
theorem PI.flat(g:Int→ByteArray):PI (fun f=>⟨g f,g f⟩) []:=⟨fun _=>Nat.le_refl _,fun _ _ => .inr rfl,fun _ => .inl rfl⟩
theorem PI.add{s:DS}(h:PIs s)(f:Int)(a:Nat)(t:ByteArray):PIs (KJ s f a t):=by
 unfold KJ
 split
 ·exact h
 ·rename_i ht
  have hpos:=size_pos ht
  have hsz:=nb0 (s:=(s.fs f).now) (t:=t) (at_:=a)
  rw[if_neg ht] at hsz
  refine⟨fun g=>?_,fun g i=>?_,fun g=>?_⟩
  ·show (upd s.fs f _ g).last.size≤(upd s.fs f _ g).now.size
   unfold upd
   split
   ·show (s.fs f).last.size≤(JO _ _ _).size
    have:=h.le f
    omega
   ·exact h.le g
  ·show _∈JU f s.queue (secs a t.size)∨(bl (upd s.fs f _ g).last).getD i 0=(bl (upd s.fs f _ g).now).getD i 0
   by_cases e:g=f
   ·subst e
    by_cases hin:a / 64≤i / 64∧i / 64≤(a+t.size-1) / 64
    ·exact .inl (dM.2 (.inr ⟨i / 64,(Mg0 hpos).2 hin,rfl⟩))
    ·rcases h.eq g i with h1 | h1
     ·exact .inl (dM.2 (.inl h1))
     ·right
      rw[upd_same]
      show (bl (s.fs g).last).getD i 0=(bl (JO _ _ _)).getD i 0
      unfold JO
      rw[if_neg ht,GI,Bz0,B_,if_neg (by omega)]
      exact h1
   ·rw[upd_ne e]
    rcases h.eq g i with h1 | h1
    ·exact .inl (dM.2 (.inl h1))
    ·exact .inr h1
  ·show (upd s.fs f _ g).now.size=(upd s.fs f _ g).last.size∨(0<(upd s.fs f _ g).now.size∧(⟨g,((((upd s.fs f _ g).now.size-1) / 64:Nat):Int)⟩:Sec)∈JU f s.queue (secs a t.size))
   by_cases e:g=f
   ·subst e
    rw[upd_same]
    show (JO _ _ _).size=(s.fs g).last.size∨(0<(JO _ _ _).size∧_)
    by_cases hgrow:(s.fs g).now.size<a+t.size
    ·right
     refine⟨by omega,dM.2 (.inr ⟨(a+t.size-1) / 64,(Mg0 hpos).2 ⟨by omega,Nat.le_refl _⟩,?_⟩)⟩
     congr 3
     show (JO _ _ _).size-1=_
     omega
    ·have e2:(JO (s.fs g).now a t).size=(s.fs g).now.size:=by omega
     rcases h.len g with h1 | ⟨h1,h2⟩
     ·left;omega
     ·right
      refine⟨by omega,dM.2 (.inl ?_)⟩
      show (⟨g,((((JO (s.fs g).now a t).size-1) / 64:Nat):Int)⟩:Sec)∈s.queue
      rw[e2]
      exact h2
   ·rw[upd_ne e]
    exact(h.len g).imp id fun⟨h1,h2⟩=>⟨h1,dM.2 (.inl h2)⟩
theorem PI.write{s:DS}(h:PIs s)(f a:Int)(t:ByteArray):PIs (fG s f a t):=by unfold fG;split;exact PI.add h _ _ _;exact h
theorem PI.Ke0{s:DS}(h:PIs s)(keep:List Int):PIs (SL s keep):=by
 unfold SL
 split
 ·exact h
 ·exact PI.flat _
theorem PI.ends{s:DS}(h:PIs s):PIs (vF s):=by unfold vF;split<;>exact h
theorem PI.come{s:DS}(h:PIs s):PIs (TF s):=by unfold TF;split;exact PI.Ke0 (PI.ends h) _;exact PI.ends h
theorem PI.settle{s:DS}(h:PIs s)(f:Int)(x:ByteArray):PIs (OM s f x):=by
 refine⟨fun g=>?_,fun g i=>?_,fun g=>?_⟩
 ·show (upd s.fs f _ g).last.size≤(upd s.fs f _ g).now.size
  unfold upd
  split
  ·exact Nat.le_refl _
  ·exact h.le g
 ·show _∈s.queue.filter _∨(bl (upd s.fs f _ g).last).getD i 0=(bl (upd s.fs f _ g).now).getD i 0
  by_cases e:g=f
  ·subst e;right;rw[upd_same]
  ·rw[upd_ne e]
   exact(h.eq g i).imp (fun h=>List.mem_filter.2 ⟨h,by simp [e]⟩) id
 ·show (upd s.fs f _ g).now.size=(upd s.fs f _ g).last.size∨(0<(upd s.fs f _ g).now.size∧(⟨g,((((upd s.fs f _ g).now.size-1) / 64:Nat):Int)⟩:Sec)∈s.queue.filter _)
  by_cases e:g=f
  ·subst e;left;rw[upd_same]
  ·rw[upd_ne e]
   exact(h.len g).imp id fun⟨h1,h2⟩=>⟨h1,List.mem_filter.2 ⟨h2,by simp [e]⟩⟩
end Go.Proofs.YtngbebnhegcokaaGreatDoor

namespace Go.Proofs.YtngbebnhegcokaaGreatDoor
open Go.RowKit
set_option maxRecDepth 100000
structure Calm (s:DS):Prop where
 down:s.down=false
 armed:s.armed=0
 lost:s.lost=0
structure Sim (f:Int) (s s':DS):Prop where
 fs:∀g,g≠f→s'.fs g=s.fs g
 q:∀x:Sec,x.file≠f→(x∈s'.queue↔x∈s.queue)
 down:s'.down=s.down
 armed:s'.armed=s.armed
 lost:s'.lost=s.lost
 keep:s'.keep=s.keep
theorem Sim.refl(f:Int)(s:DS):Sim f s s:=⟨fun _ _=>rfl,fun _ _=>Iff.rfl,rfl,rfl,rfl,rfl⟩
theorem Sim.trans{f:Int}{a b c:DS}(h:Sim f a b)(h':Sim f b c):Sim f a c :=
 ⟨fun g hg=>(h'.fs g hg).trans (h.fs g hg),fun x hx=>(h'.q x hx).trans (h.q x hx),h'.down.trans h.down,h'.armed.trans h.armed,h'.lost.trans h.lost,h'.keep.trans h.keep⟩
theorem Sim.calm{f:Int}{a b:DS}(h:Sim f a b)(hc:Calm a):Calm b:=⟨h.down.trans hc.down,h.armed.trans hc.armed,h.lost.trans hc.lost⟩
theorem Sim.add(s:DS)(f:Int)(a:Nat)(t:ByteArray):Sim f s (KJ s f a t):=by
 unfold KJ
 split
 ·exact Sim.refl f s
 ·refine⟨fun g hg=>upd_ne hg,fun x hx=>⟨fun h=>?_,fun h=>dM.2 (.inl h)⟩,rfl,rfl,rfl,rfl⟩
  rcases dM.1 h with h | ⟨n,_,rfl⟩
  ·exact h
  ·exact absurd rfl hx
theorem Sim.settle(s:DS)(f:Int)(x:ByteArray):Sim f s (OM s f x):=by
 refine⟨fun g hg=>upd_ne hg,fun y hy=>⟨fun h=>(List.mem_filter.1 h).1,fun h=>List.mem_filter.2 ⟨h,by simpa using hy⟩⟩,rfl,rfl,rfl,rfl⟩
theorem Rw0(s:DS)(f:Int)(a:Nat)(t:ByteArray):(KJ s f a t).fs f=⟨JO (s.fs f).now a t,(s.fs f).last⟩:=by
 unfold KJ
 split
 ·rename_i e
  unfold JO
  rw[if_pos e]
 ·exact upd_same
theorem Nb0(s:DS)(f:Int)(x:ByteArray):(OM s f x).fs f=⟨x,x⟩:=upd_same
theorem NW{s:DS}(h:Calm s){f:Int}(hf:0≤f∧f<16){a:Int}{t:ByteArray}(ha:0≤a)(hfit:a+t.size≤16777216):fB s f a t=(KJ s f a.toNat t,0):=by
 have hE:ZL s f a t=0:=(im0 h.down).2 ⟨hf,ha,hfit⟩
 rw[di0 h.armed,hE]
 unfold fG
 rw[if_pos hE]
theorem wS{s:DS}(h:Calm s){f:Int}(hf:0≤f∧f<16):L9 s f=(OM s f (s.fs f).now,0):=by
 unfold L9
 rw[nk0 h.armed,if_neg (by rw[qU.2 ⟨h.down,hf⟩];decide),if_neg (by rw[h.lost];decide)]
def TG0(st:CS)(N v:ByteArray):ByteArray:=JO (JO N (ZQ (UF st)).toNat v) 0 (mJ st v)
theorem Eq0(st:CS):0≤ZQ (UF st)∧ZQ (UF st)≤131072:=by
 rcases qW st with e | e<;>rw[e]<;>decide
theorem bq0(st:CS)(v:ByteArray):(mJ st v).size=5:=rfl
theorem rj0{s:DS}(h:Calm s){f:Int}(hf:0≤f∧f<16){st:CS}{v:ByteArray}(hv:v.size≤65536) :
  ∃s',CX s st f v=((s',⟨UF st,v,true⟩),0)∧Sim f s s'∧s'.fs f=⟨TG0 st (s.fs f).now v,TG0 st (s.fs f).now v⟩∧∀x∈s'.queue,x.file≠f:=by
 have hs1:∃s1,OO s st f=(s1,0)∧Sim f s s1∧(s1.fs f).now=(s.fs f).now:=by
  unfold OO
  split
  ·rw[wS h hf]
   exact⟨_,rfl,Sim.settle s f _,by rw[Nb0]⟩
  ·exact⟨s,rfl,Sim.refl f s,rfl⟩
 obtain⟨s1,e1,m1,n1⟩:=hs1
 have c1:=m1.calm h
 have ho:=Eq0 st
 have hk:UF (qI st)=UF st:=rfl
 unfold CX
 rw[if_neg (by omega),e1]
 dsimp only
 rw[if_neg (fun hh=>hh rfl)]
 unfold set1
 rw[hk,NW c1 hf ho.1 (by omega)]
 dsimp only
 rw[if_neg (fun hh=>hh rfl)]
 have m2:=Sim.add s1 f (ZQ (UF st)).toNat v
 have n2:=Rw0 s1 f (ZQ (UF st)).toNat v
 generalize KJ s1 f (ZQ (UF st)).toNat v=s2 at m2 n2 ⊢
 have c2:=m2.calm c1
 unfold set2
 rw[wS c2 hf]
 dsimp only
 rw[if_neg (fun hh=>hh rfl)]
 have m3:=Sim.settle s2 f (s2.fs f).now
 have n3:=Nb0 s2 f (s2.fs f).now
 generalize OM s2 f (s2.fs f).now=s3 at m3 n3 ⊢
 have c3:=m3.calm c2
 unfold cr0
 rw[hk,show mJ (qI st) v=mJ st v from rfl,NW c3 hf (Int.le_refl 0) (by rw[bq0];decide)]
 dsimp only
 rw[if_neg (fun hh=>hh rfl)]
 have m4:=Sim.add s3 f (0:Int).toNat (mJ st v)
 have n4:=Rw0 s3 f (0:Int).toNat (mJ st v)
 generalize KJ s3 f (0:Int).toNat (mJ st v)=s4 at m4 n4 ⊢
 have c4:=m4.calm c3
 rw[wS c4 hf]
 refine⟨OM s4 f (s4.fs f).now,rfl,(((m1.trans m2).trans m3).trans m4).trans (Sim.settle s4 f _),?_,fun x hx=>by simpa using (List.mem_filter.1 hx).2⟩
 rw[Nb0,n4,n3,n2,n1]
 rfl
end Go.Proofs.YtngbebnhegcokaaGreatDoor

namespace Go.Proofs.YtngbebnhegcokaaGreatDoor
open Go.RowKit
set_option maxRecDepth 100000
theorem zq0{s:DS}(h:Calm s)(j:JP){b n:Int}(hb:inI b)(hn:inI n):∃s' c',FL s j b n=((s',{ j with c:=c',broken:=false }),0)∧Calm s':=by
 have hsz:=Yf0 hb hn
 obtain⟨s',e,hs,_,_⟩:=rj0 h (f:=1) (by omega) (st:=j.c) (v:=UT b n) (by omega)
 refine⟨s',⟨UF j.c,UT b n,true⟩,?_,hs.calm h⟩
 unfold FL
 rw[e]
 rfl
theorem aB0{s:DS}(h:Calm s){j:JP}(hj:0≤j.bytes){t:ByteArray}(ht:j.bytes+t.size≤16777216):∃s',wsJ s j t=(s',0)∧Calm s':=by
 have e1:=NW h (f:=0) (by omega) hj ht
 have h1:Calm (KJ s 0 j.bytes.toNat t):=(Sim.add s 0 j.bytes.toNat t).calm h
 have e2:=wS h1 (f:=0) (by omega)
 refine⟨_,?_,(Sim.settle (KJ s 0 j.bytes.toNat t) 0 ((KJ s 0 j.bytes.toNat t).fs 0).now).calm h1⟩
 unfold wsJ
 rw[e1,if_pos rfl]
 exact e2
theorem ek0{s:DS}(h:Calm s){j:JP}(hj:JOk j)(hb:j.broken=false){l:List Bs}(hl:l≠[])(hr:j.bytes+(H8 l).length≤1048576) :
  ∃s' j',IJ s j l=((s',j'),0)∧Calm s'∧j'.broken=false∧j'.list=j.list++l∧JOk j':=by
 have hjb:=hj.bytes
 have hjf:=hj.form
 have hjc:=fP j.list
 have hlc:=fP l
 have hfs:(ofL (H8 l)).size=(H8 l).length:=Q_ _
 obtain⟨s1,e1,h1⟩:=aB0 h hjb.1 (t:=ofL (H8 l)) (by rw[hfs];omega)
 obtain⟨s2,c2,e2,h2⟩:=zq0 h1 j (b:=j.bytes+(H8 l).length) (n:=j.list.length+l.length) (by unfold inI;omega) (by unfold inI;omega)
 have e:IJ s j l=((s2,{ j with c:=c2,broken:=false,list:=j.list++l,bytes:=j.bytes+(H8 l).length }),0):=by
  unfold IJ
  rw[if_neg (by rw[hb];decide),if_neg hl,if_neg (by omega),e1,if_pos rfl]
  unfold bZ
  simp only
  rw[e2]
  rfl
 refine⟨s2,_,e,h2,rfl,rfl,?_⟩
 have:=we0 (s:=s) (l:=l) hj
 rw[e] at this
 exact this
theorem Bo0{m:UH}{u:UpP}{o:vE}(h:Calm m.d)(hj:JOk u.j)(hb:u.j.broken=false)(hh:inI o.hard.term∧inI o.hard.vote)(hf:0<o.from_→o.from_-1=u.j.list.length∧o.recs≠[]∧u.j.bytes+(H8 (o.recs.map d9)).length≤1048576) :
  ∃s' j' c',XE m u o=(⟨s',m.kv,some ⟨j',c',u.r⟩⟩,0)∧Calm s'∧JOk j'∧j'.broken=false∧j'.list=if 0<o.from_ then u.j.list++o.recs.map d9 else u.j.list:=by
 have h1:∃s1 c1,YL m u o=((s1,c1),0)∧Calm s1:=by
  unfold YL
  split
  ·have hsz:=Yf0 hh.1 hh.2
   obtain⟨s',e,hs,_,_⟩:=rj0 h (f:=2) (by omega) (st:=u.c) (v:=UT o.hard.term o.hard.vote) (by omega)
   exact⟨s',_,e,hs.calm h⟩
  ·exact⟨m.d,u.c,rfl,h⟩
 obtain⟨s1,c1,e1,h1⟩:=h1
 unfold XE
 rw[e1]
 simp only
 unfold vS
 by_cases c:0<o.from_
 ·obtain⟨f1,f2,f3⟩:=hf c
  rw[if_pos ⟨rfl,c⟩,if_pos c]
  have hcut:PV s1 u.j (min (o.from_-1) u.j.list.length)=((s1,u.j),0):=by
   have hm:min (o.from_-1) (u.j.list.length:Int)=u.j.list.length:=by omega
   rw[hm]
   unfold PV
   rw[if_neg (by rw[hb];decide),if_neg (by omega),if_pos rfl]
  obtain⟨s2,j2,e2,h2,h3,h4,h5⟩:=ek0 h1 hj hb (l:=o.recs.map d9) (fun hh=>f2 (List.map_eq_nil_iff.1 hh)) f3
  refine⟨s2,j2,c1,?_,h2,h5,h3,h4⟩
  unfold FW
  rw[hcut,if_neg (fun hh=>hh rfl)]
  simp only
  rw[e2]
  rfl
 ·rw[if_neg (fun hh=>c hh.2),if_neg c]
  exact⟨s1,u.j,c1,rfl,h1,hj,hb,rfl⟩
end Go.Proofs.YtngbebnhegcokaaGreatDoor

namespace Go.Proofs.YtngbebnhegcokaaGreatDoor
open Go.RowKit
set_option maxRecDepth 100000
structure Mj0 (s:DS):Prop where
 calm:Calm s
 fs:∀f,(s.fs f).now=⟨#[]⟩
theorem cx0:Mj0 iC:=⟨⟨rfl,rfl,rfl⟩,fun _=>rfl⟩
theorem la0{s:DS}(h:Mj0 s){f:Int}(hf:0≤f∧f<16):∃s',L9 s f=(s',0)∧Mj0 s':=by
 refine⟨OM s f (s.fs f).now,wS h.calm hf,(Sim.settle s f (s.fs f).now).calm h.calm,fun g=>?_⟩
 show ((upd s.fs f ⟨(s.fs f).now,(s.fs f).now⟩) g).now=_
 by_cases c:g=f
 ·subst c;rw[upd_same];exact h.fs g
 ·rw[upd_ne c];exact h.fs g
theorem ni0{s:DS}(h:Mj0 s){f:Int}(hf:0≤f∧f<16){a n:Int}(ha:0≤a)(hn:0≤n):LD s f a n=(⟨#[]⟩,0):=by
 rw[Oz0 (qU.2 ⟨h.calm.down,hf⟩) ha hn,h.fs f]
 have e:bl (⟨#[]⟩:ByteArray)=[]:=rfl
 rw[e,List.drop_nil,List.take_nil]
 try rfl
theorem mi0{s:DS}(h:Mj0 s){f:Int}(hf:0≤f∧f<16):EQ s f=(some c0S,0):=by
 unfold EQ
 rw[ni0 h hf (by omega) (by omega)]
 rfl
def j0J:JP:=⟨[],0,false,c0S⟩
theorem rp0{s:DS}(h:Mj0 s):∃s',rM s=(s',(some j0J,0))∧Mj0 s':=by
 obtain⟨s1,e1,h1⟩:=la0 h (f:=0) (by omega)
 obtain⟨s2,e2,h2⟩:=la0 h1 (f:=1) (by omega)
 refine⟨s2,?_,h2⟩
 unfold rM
 rw[e1]
 simp only
 rw[if_neg (fun hh=>hh rfl),e2]
 simp only
 rw[if_neg (fun hh=>hh rfl)]
 unfold sW
 rw[mi0 h2 (by omega)]
 simp only
 unfold io0
 have hn:VF c0S=((0,0),true):=by
  unfold VF
  rw[if_neg (by decide)]
 rw[hn]
 simp only
 rw[ni0 h2 (by omega) (by omega) (by omega)]
 have hq:vU (bl (⟨#[]⟩:ByteArray)) 0=([],true):=by
  have e:bl (⟨#[]⟩:ByteArray)=[]:=rfl
  rw[e]
  have hQ:Kc0 [] 0=([],⟨[],false⟩):=by
   unfold Kc0
   show qb0 0 1 [] ⟨[],false⟩=_
   rw[qb0,if_neg (by decide)]
  unfold vU
  rw[hQ]
  rfl
 simp only
 rw[hq,if_neg (by decide),if_neg (fun hh=>hh rfl),if_neg (by decide),if_neg (fun hh=>hh rfl)]
 rfl
theorem Av0{s:DS}(h:Mj0 s):∃s',aY s=(s',(some (j0J,c0S),0))∧Mj0 s':=by
 obtain⟨s1,e1,h1⟩:=la0 h (f:=2) (by omega)
 obtain⟨s2,e2,h2⟩:=rp0 h1
 refine⟨s2,?_,h2⟩
 unfold aY
 rw[e1]
 simp only
 rw[if_neg (fun hh=>hh rfl)]
 unfold jo0
 rw[e2]
 simp only
 rw[mi0 h2 (by omega)]
theorem DD0{id:Int}(hi:I3 id)(kv:Value):∃s',upM id kv iC=(⟨s',kv,some ⟨j0J,c0S,newR id ⟨0,-1⟩ []⟩⟩,0)∧Calm s':=by
 obtain⟨s',e,h⟩:=Av0 cx0
 refine⟨s',?_,h.calm⟩
 unfold upM
 rw[e]
 simp only
 have hh:tZ c0S=⟨0,-1⟩:=by
  unfold tZ
  rw[if_neg (by decide)]
 unfold LC0
 rw[hh]
 have hn:UY id ⟨0,-1⟩ (j0J.list.map GY):=by
  unfold I3 at hi
  exact⟨by omega,by show (0:Int)≤0∧(0:Int)≤_;omega,by show (-1:Int) ≤ -1∧(-1:Int)≤2;omega,Nat.zero_le _,rfl⟩
 rw[if_pos hn]
 rfl
end Go.Proofs.YtngbebnhegcokaaGreatDoor

namespace Go.Proofs.YtngbebnhegcokaaGreatDoor
open Go.RowKit
set_option maxRecDepth 100000
abbrev km0:=Int×Int×R9
def KV(p:km0):bU:=⟨p.1,p.2.1,ofL (EN p.2.2)⟩
structure AG where
 r:T3 G8
 fl:List km0
 com:List Bs
 deriving DecidableEq
def cc0(id:Int)(fl:List km0)(m:R9):List km0:=if lU id=true∧lU m.to_=true∧id≠m.to_ then(if fl.length<500 then fl++[(id,m.to_,m)] else fl) else fl
def YY(c:List Bs)(r:G8):List Bs:=if r.commit≤c.length then c else(r.log.take r.commit.toNat).map fun x=>bl x.data
def aDo(a:AG)(id:Int)(r:G8)(o:vE):AG :=
 ⟨a.r.set id r,o.send.foldl (cc0 id) a.fl,YY (YY (YY a.com (a.r.set id r).a) (a.r.set id r).b) (a.r.set id r).c⟩
def ne0(a:AG)(id:Int)(f:G8→G8×vE):AG:=aDo a id (f (a.r.get id)).1 (f (a.r.get id)).2
def ie0(a:AG):AG:=match a.fl with
 | []=>a
 | (_,t,m) :: fl=>ne0 { a with fl:=fl } t fun r=>nJ r m
def aZ:Nat→AG→AG
 | 0,a=>a
 | k+1,a=>if a.fl=[] then a else aZ k (ie0 a)
def le0(a:AG)(id:Int)(data:ByteArray):AG:=aDo a id (U8 (a.r.get id) data).r (U8 (a.r.get id) data).o
theorem Fm0(a:Int):gu0 0 a=0:=by
 unfold gu0
 rw[Int.zero_fdiv]
 rfl
theorem Di0(fl:List bU)(a b:Int):vZ ⟨fl,0⟩ a b=(lU a&&lU b):=by
 unfold vZ
 show (lU a&&(lU b&&decide (gu0 0 a=gu0 0 b)))=_
 rw[Fm0,Fm0,decide_eq_true rfl,Bool.and_true]
theorem Nw0(id:Int)(fl:List km0)(m:R9):(xV ⟨fl.map KV,0⟩ ⟨id,m.to_,ofL (EN m)⟩).2=⟨(cc0 id fl m).map KV,0⟩:=by
 unfold xV cc0
 simp only
 split
 ·rename_i h
  rw[if_pos (by rw[Di0,h.1,h.2.1];rfl),List.length_map]
  split
  ·rw[List.map_append]
   rfl
  ·rfl
 ·rfl
theorem dc0(id:Int):∀(l:List R9) (fl:List km0),sendAll id ⟨fl.map KV,0⟩ l=⟨(l.foldl (cc0 id) fl).map KV,0⟩
 | [],_=>rfl
 | m :: l,fl=>by
  show sendAll id (xV ⟨fl.map KV,0⟩ ⟨id,m.to_,ofL (EN m)⟩).2 l=_
  rw[Nw0,dc0 id l]
  rfl
structure yw0 (m:UH) (r:G8):Prop where
 calm:Calm m.d
 up:∃j c,m.up=some ⟨j,c,r⟩∧JOk j∧j.broken=false∧j.list=r.log.map d9
structure AIs (g:nA) (a:AG):Prop where
 mem:∀i,I3 i→yw0 (g.mem.get i) (a.r.get i)
 net:g.net=⟨a.fl.map KV,0⟩
 com:g.committed=a.com
 fit:∀p∈a.fl,bM p.2.2
theorem Vt0{id:Int}{fl:List km0}{m:R9}(h:∀p∈fl,bM p.2.2)(hm:bM m):∀p∈cc0 id fl m,bM p.2.2:=by
 intro p hp
 unfold cc0 at hp
 split at hp
 ·split at hp
  ·rcases List.mem_append.1 hp with hp | hp
   ·exact h p hp
   ·rw[List.mem_singleton.1 hp]
    exact hm
  ·exact h p hp
 ·exact h p hp
theorem ZY(id:Int):∀(l:List R9) (fl:List km0),(∀p∈fl,bM p.2.2)→(∀m∈l,bM m)→∀p∈l.foldl (cc0 id) fl,bM p.2.2
 | [],_,h,_=>h
 | m :: l,fl,h,hl=>ZY id l (cc0 id fl m) (Vt0 h (hl m (List.mem_cons_self ..))) fun x hx=>hl x (List.mem_cons_of_mem _ hx)
theorem je0{m:UH}{r:G8}(h:yw0 m r)(c:List Bs):lS c m=YY c r:=by
 obtain⟨j,c',hu,_⟩:=h.up
 unfold lS
 rw[hu]
 rfl
end Go.Proofs.YtngbebnhegcokaaGreatDoor

namespace Go.Proofs.YtngbebnhegcokaaGreatDoor
open Go.RowKit
set_option maxRecDepth 100000
theorem set_set{α:Type}(t:T3 α){i:Int}(hi:I3 i)(x y:α):(t.set i x).set i y=t.set i y:=by
 rcases hi.cases with rfl | rfl | rfl<;>rfl
theorem Mw0{g:nA}{a:AG}{id:Int}(hi:I3 id)(h:AIs g a){u:UpP}(hu:(g.mem.get id).up=some u){r:G8}{o:vE}(hh:inI o.hard.term∧inI o.hard.vote)(hfit:∀m∈o.send,bM m)
  (hl:(0<o.from_∧o.from_-1=(a.r.get id).log.length∧o.recs≠[]∧r.log=(a.r.get id).log++o.recs∧u.j.bytes+(H8 (o.recs.map d9)).length≤1048576)∨(¬0<o.from_∧r.log=(a.r.get id).log)) :
  AIs (doS (pI g id u r) id { u with r:=r } o).1 (aDo a id r o)∧(doS (pI g id u r) id { u with r:=r } o).2=0:=by
 obtain⟨hcalm,j,c,hu2,hj1,hj2,hj3⟩:=h.mem id hi
 rw[hu] at hu2
 cases hu2
 have hm:(pI g id ⟨j,c,a.r.get id⟩ r).mem.get id={ (g.mem.get id) with up:=some ⟨j,c,r⟩ }:=T3.IA _ hi _
 obtain⟨s',j',c',e,h1,h2,h3,h4⟩:=Bo0 (m:={ (g.mem.get id) with up:=some ⟨j,c,r⟩ }) (u:=⟨j,c,r⟩) (o:=o) hcalm hj1 hj2 hh (fun hp=>by
  rcases hl with⟨_,l1,l2,_,l4⟩ | ⟨l0,_⟩
  ·exact⟨by rw[l1,hj3,List.length_map],l2,l4⟩
  ·exact absurd hp l0)
 have hj':j'.list=r.log.map d9:=by
  rw[h4]
  rcases hl with⟨l0,_,_,l3,_⟩ | ⟨l0,l3⟩
  ·rw[if_pos l0,l3,List.map_append]
   show j.list++_=_
   rw[hj3]
  ·rw[if_neg l0,l3]
   exact hj3
 unfold doS
 rw[hm,e]
 refine⟨?_,rfl⟩
 have hmem:∀i,I3 i→yw0 ((XG (pI g id ⟨j,c,a.r.get id⟩ r) id ⟨s',(g.mem.get id).kv,some ⟨j',c',r⟩⟩).mem.get i) ((a.r.set id r).get i):=by
  intro i hi2
  show yw0 (((g.mem.set id _).set id _).get i) _
  rw[set_set _ hi]
  by_cases ci:i=id
  ·subst ci
   rw[T3.IA _ hi,T3.IA _ hi]
   exact⟨h1,j',c',rfl,h2,h3,hj'⟩
  ·rw[T3.WG _ hi hi2 _ ci,T3.WG _ hi hi2 _ ci]
   exact h.mem i hi2
 unfold do2
 rw[if_pos rfl]
 refine⟨hmem,?_,?_,ZY id o.send a.fl h.fit hfit⟩
 ·show sendAll id g.net o.send=_
  rw[h.net,dc0]
  rfl
 ·show qM _ 3=_
  have n0:=fun c=>je0 (hmem 0 (by unfold I3;omega)) c
  have n1:=fun c=>je0 (hmem 1 (by unfold I3;omega)) c
  have n2:=fun c=>je0 (hmem 2 (by unfold I3;omega)) c
  show lS (lS (lS g.committed _) _) _=_
  rw[h.com]
  show _=YY (YY (YY a.com (a.r.set id r).a) (a.r.set id r).b) (a.r.set id r).c
  exact(n2 _).trans (congrArg (fun x=>YY x (a.r.set id r).c) ((n1 _).trans (congrArg (fun x=>YY x (a.r.set id r).b) (n0 _))))
end Go.Proofs.YtngbebnhegcokaaGreatDoor

namespace Go.Proofs.YtngbebnhegcokaaGreatDoor
open Go.RowKit
set_option maxRecDepth 100000
def a0A:AG:=⟨⟨newR 0 ⟨0,-1⟩ [],newR 1 ⟨0,-1⟩ [],newR 2 ⟨0,-1⟩ []⟩,[],[]⟩
end Go.Proofs.YtngbebnhegcokaaGreatDoor

namespace Go.Proofs.YtngbebnhegcokaaGreatDoor
open Go.RowKit
set_option maxRecDepth 100000
theorem zf0{n:Nat}(h:n<10):Go.Lib.itoa (n:Int)=[UInt8.ofNat (48+n)]:=by rw[Dy0,kU h]
theorem QU{n:Nat}(h:n<10):encI (n:Int)=[UInt8.ofNat (48+n),59]:=by
 unfold encI
 rw[zf0 h]
 rfl
theorem vY{s:Bs}(h:s.length<10):yB s=UInt8.ofNat (48+s.length) :: 58 :: (s++[44]):=by
 unfold yB
 rw[zf0 h]
 rfl
def smB:Bs:=[48,59,49,59,48,59,48,59,49,58,115,44,49,59,55,59,57,58,49,59,48,59,51,59,48,58,44,44]
theorem sA0:wa0 smE=smB:=by
 have e0:encI 0=[48,59]:=QU (n:=0) (by omega)
 have e1:encI 1=[49,59]:=QU (n:=1) (by omega)
 have e3:encI 3=[51,59]:=QU (n:=3) (by omega)
 have e7:encI 7=[55,59]:=QU (n:=7) (by omega)
 have t0:yB []=[48,58,44]:=vY (s:=[]) (by decide)
 have ts:yB [115]=[49,58,115,44]:=vY (s:=[115]) (by decide)
 have hr:dG smE.row=[49,59,48,59,51,59,48,58,44]:=by
  show encI 1++((encI 0++encI 3++yB [])++[])=_
  rw[e0,e1,e3,t0]
  rfl
 have tr:yB [49,59,48,59,51,59,48,58,44]=[57,58,49,59,48,59,51,59,48,58,44,44]:=vY (s:=[49,59,48,59,51,59,48,58,44]) (by decide)
 unfold wa0
 rw[hr,tr]
 show encI 0++encI 1++encI 0++encI 0++yB [115]++encI 1++encI 7++_=_
 rw[e0,e1,e7,ts]
 rfl
theorem ZF0:smD=ofL smB:=by
 unfold smD
 rw[sA0]
end Go.Proofs.YtngbebnhegcokaaGreatDoor

namespace Go.Proofs.YtngbebnhegcokaaGreatDoor
open Go.RowKit
set_option maxRecDepth 100000
theorem ll0{id:Int}(hi:I3 id):yw0 (upM id gNil iC).1 (newR id ⟨0,-1⟩ []):=by
 obtain⟨s',e,h⟩:=DD0 hi gNil
 rw[e]
 exact⟨h,j0J,c0S,rfl,⟨by show (0:Int)≤0∧(0:Int)≤_;omega,rfl⟩,rfl,rfl⟩
theorem wC0:AIs Vh0 a0A:=⟨fun i hi=>by
 rcases hi.cases with rfl | rfl | rfl
 ·exact ll0 hi
 ·exact ll0 hi
 ·exact ll0 hi,rfl,rfl,fun p hp=>by cases hp⟩
def XT(old r:G8)(o:vE):Bool :=
 decide (inI o.hard.term∧inI o.hard.vote)&&((decide (0<o.from_)&&(decide (o.from_-1=old.log.length)&&(decide (o.recs≠[])&&(decide (r.log=old.log++o.recs)&&decide (r.log.length≤10)))))||(decide (¬0<o.from_)&&decide (r.log=old.log)))
theorem Pu0{l:List uB}(h:∀x∈l,MR x)(hl:l.length≤10):(H8 (l.map d9)).length≤1048576:=by
 have h1:=xE yB (l.map d9) 100065 fun x hx=>by
  obtain⟨y,hy,rfl⟩:=List.mem_map.1 hx
  have h1:=RU (h y hy)
  have h2:=wE (d9 y) (by omega)
  omega
 rw[List.length_map] at h1
 have:(H8 (l.map d9)).length≤100065 * l.length:=h1
 omega
theorem Ft0{old r:G8}{o:vE}{u:UpP}(h:XT old r o=true)(hj:JOk u.j)(hjl:u.j.list=old.log.map d9)(hr:Y9 r) :
  (inI o.hard.term∧inI o.hard.vote)∧((0<o.from_∧o.from_-1=old.log.length∧o.recs≠[]∧r.log=old.log++o.recs∧u.j.bytes+(H8 (o.recs.map d9)).length≤1048576)∨(¬0<o.from_∧r.log=old.log)):=by
 unfold XT at h
 rw[Bool.and_eq_true] at h
 refine⟨of_decide_eq_true h.1,?_⟩
 have h2:=h.2
 rw[Bool.or_eq_true] at h2
 rcases h2 with h2 | h2
 ·simp only[Bool.and_eq_true,decide_eq_true_eq] at h2
  obtain⟨a,b,c,d,e⟩:=h2
  refine .inl ⟨a,b,c,d,?_⟩
  have h1:=Pu0 (fun x hx=>us0 hr hx) e
  rw[d] at h1
  have hf:=hj.form
  rw[hjl] at hf
  unfold H8 at h1 hf ⊢
  rw[List.map_append,List.flatMap_append,List.length_append] at h1
  omega
 ·simp only[Bool.and_eq_true,decide_eq_true_eq] at h2
  exact .inr ⟨h2.1,h2.2⟩
end Go.Proofs.YtngbebnhegcokaaGreatDoor

namespace Go.Proofs.YtngbebnhegcokaaGreatDoor
open Go.RowKit
set_option maxRecDepth 100000
theorem JA0{g:nA}{id:Int}(hi:I3 id){u:UpP}(hu:(g.mem.get id).up=some u):upE g id=0:=by
 unfold upE
 unfold I3 at hi
 rw[if_neg (by omega),hu]
 rfl
theorem Qo0{g:nA}{a:AG}{id:Int}(hi:I3 id)(h:AIs g a){f:G8→G8×vE}(hr:Y9 (f (a.r.get id)).1)(hf:QN (f (a.r.get id)).2)(hs:XT (a.r.get id) (f (a.r.get id)).1 (f (a.r.get id)).2=true):AIs (zV g id f).1 (ne0 a id f):=by
 obtain⟨_,j,c,hu,hj1,hj2,hj3⟩:=h.mem id hi
 obtain⟨hh,hl⟩:=Ft0 (u:=⟨j,c,a.r.get id⟩) hs hj1 hj3 hr
 have:=(Mw0 hi h hu hh hf.send hl).1
 unfold zV
 rw[if_neg (fun hh=>hh (JA0 hi hu)),hu]
 exact this
theorem ml0{g:nA}{a:AG}(hok:GOk g)(h:AIs g a){id:Int}(hi:I3 id):Y9 (a.r.get id)∧((a.r.get id).role=2→1≤(a.r.get id).hard.term):=by
 obtain⟨_,j,c,hu,_⟩:=h.mem id hi
 have:=hok.ups id hi _ hu
 exact⟨this.r,this.term⟩
theorem Jo0{g:nA}{a:AG}{id:Int}(hi:I3 id)(hok:GOk g)(h:AIs g a)(hs:XT (a.r.get id) (oI (a.r.get id)).1 (oI (a.r.get id)).2=true):AIs (Zg0 g id).1 (ne0 a id oI) :=
 Qo0 hi h (ae0 (ml0 hok h hi).1).1 (ff0 (ml0 hok h hi).1) hs
theorem Gc0{g:nA}{a:AG}{id:Int}(hi:I3 id)(hok:GOk g)(h:AIs g a)(data:ByteArray)(he:(U8 (a.r.get id) data).e=0)(hs:XT (a.r.get id) (U8 (a.r.get id) data).r (U8 (a.r.get id) data).o=true):AIs (oJ g id data).g (le0 a id data):=by
 obtain⟨_,j,c,hu,hj1,hj2,hj3⟩:=h.mem id hi
 obtain⟨ho1,ho2⟩:=ml0 hok h hi
 obtain⟨hh,hl⟩:=Ft0 (u:=⟨j,c,a.r.get id⟩) hs hj1 hj3 (iV ho1 ho2 data).1
 have:=Mw0 hi h hu hh (iW ho1 ho2 data).send hl
 unfold oJ
 rw[if_neg (fun hh=>hh (JA0 hi hu)),hu]
 show AIs (ZP g id ⟨j,c,a.r.get id⟩ (U8 (a.r.get id) data)).g _
 unfold ZP
 rw[if_neg (fun hh=>hh he),if_neg (fun hh=>hh this.2)]
 exact this.1
end Go.Proofs.YtngbebnhegcokaaGreatDoor

namespace Go.Proofs.YtngbebnhegcokaaGreatDoor
open Go.RowKit
set_option maxRecDepth 100000
def zx0(a:AG):Bool:=match a.fl with
 | []=>false
 | (f,t,m) :: _=>decide (I3 t)&&(lU f&&(lU t&&(XT (a.r.get t) (nJ (a.r.get t) m).1 (nJ (a.r.get t) m).2)))
def uo0:Nat→AG→Bool
 | 0,_=>true
 | k+1,a=>if a.fl=[] then true else zx0 a&&uo0 k (ie0 a)
theorem Qm0{g:nA}{a:AG}(hok:GOk g)(h:AIs g a)(hs:zx0 a=true):AIs (jZ g 0).1 (ie0 a):=by
 obtain⟨r,fl,com⟩:=a
 cases fl with
 | nil=>cases hs
 | cons p fl =>
  obtain⟨f,t,m⟩:=p
  unfold zx0 at hs
  simp only[Bool.and_eq_true,decide_eq_true_eq] at hs
  obtain⟨hi,hf,ht,hs⟩:=hs
  have hnet:g.net=⟨KV (f,t,m) :: fl.map KV,0⟩:=h.net
  have hat:atS g.net 0=some (0,KV (f,t,m)):=by
   rw[hnet]
   rfl
  have hd:aA g.net 0=((KV (f,t,m),0),⟨fl.map KV,0⟩):=by
   unfold aA
   rw[hat]
   simp only
   have hh:vZ g.net (KV (f,t,m)).from_ (KV (f,t,m)).to_=true:=by
    rw[hnet,Di0]
    show (lU f&&lU t)=true
    rw[hf,ht]
    rfl
   rw[if_pos hh,hnet]
   rfl
  have hfm:bM m:=h.fit (f,t,m) (List.mem_cons_self ..)
  have hb:BZ (ofL (EN m))=m:=ov0 hfm
  have h2:AIs (CU g ⟨fl.map KV,0⟩) ⟨r,fl,com⟩:=⟨h.mem,rfl,h.com,fun p hp=>h.fit p (List.mem_cons_of_mem _ hp)⟩
  have hok2:GOk (CU g ⟨fl.map KV,0⟩):=by
   have:=bp0 hok (rY (i:=0) hok.net)
   rw[hd] at this
   exact this
  have ho:=ml0 hok2 h2 hi
  have:=Qo0 (f:=fun r=>nJ r m) hi h2 (Uk0 ho.1 ho.2 m).1 (ef0 ho.1 ho.2 m) hs
  unfold jZ WN
  rw[hd]
  show AIs (if(0:Int)≠0 then _ else zV (CU g ⟨fl.map KV,0⟩) t fun r=>nJ r (BZ (ofL (EN m)))).1 _
  rw[if_neg (fun c=>c rfl),hb]
  exact this
theorem LY:∀(k:Nat) {g:nA} {a:AG},GOk g→AIs g a→uo0 k a=true→AIs (rJ k g) (aZ k a)
 | 0,_,_,_,h,_=>h
 | k+1,g,a,hok,h,hs=>by
  unfold uo0 at hs
  rw[rJ,aZ]
  by_cases c:a.fl=[]
  ·rw[if_pos c,if_pos (show g.net.fl=[] by rw[h.net,c];rfl)]
   exact h
  ·rw[if_neg c] at hs
   rw[Bool.and_eq_true] at hs
   rw[if_neg c,if_neg (fun e=>c (List.map_eq_nil_iff.1 (show a.fl.map KV=[] by rw[h.net] at e;exact e)))]
   exact LY k (QV hok 0 _) (Qm0 hok h hs.1) hs.2
def dB:ByteArray:=⟨smB.toArray⟩
def a1B:AG:=aZ 99 (ne0 a0A 0 oI)
def a2B:AG:=le0 a1B 0 dB
def a3B:AG:=le0 a2B 0 dB
def a4B:AG:=aZ 99 (ne0 a3B 0 oI)
theorem Yz0:XT (a0A.r.get 0) (oI (a0A.r.get 0)).1 (oI (a0A.r.get 0)).2=true∧uo0 99 (ne0 a0A 0 oI)=true:=by decide
theorem Wd0:((U8 (a1B.r.get 0) dB).e=0∧XT (a1B.r.get 0) (U8 (a1B.r.get 0) dB).r (U8 (a1B.r.get 0) dB).o=true)∧((U8 (a2B.r.get 0) dB).e=0∧XT (a2B.r.get 0) (U8 (a2B.r.get 0) dB).r (U8 (a2B.r.get 0) dB).o=true):=by decide
theorem mt0:XT (a3B.r.get 0) (oI (a3B.r.get 0)).1 (oI (a3B.r.get 0)).2=true∧uo0 99 (ne0 a3B 0 oI)=true:=by decide
theorem YC0:a4B.com=[smB,smB]:=by decide
theorem Tl0:smD=dB:=by rw[ZF0];rfl
theorem aG0:Ng0.committed=[wa0 smE,wa0 smE]:=by
 have k0:=kl0.1
 have k1:GOk fr0:=KY k0 0 99
 have k2:GOk ir0:=TS k1 0 smD
 have k3:GOk wA0:=TS k2 0 smD
 have i1:AIs fr0 a1B:=LY 99 (QZ k0 0) (Jo0 (by unfold I3;omega) k0 wC0 Yz0.1) Yz0.2
 have i2:AIs ir0 a2B:=by
  have:=Gc0 (id:=0) (by unfold I3;omega) k1 i1 dB Wd0.1.1 Wd0.1.2
  rw[←Tl0] at this
  unfold a2B
  rw[←Tl0]
  exact this
 have i3:AIs wA0 a3B:=by
  have:=Gc0 (id:=0) (by unfold I3;omega) k2 i2 dB Wd0.2.1 Wd0.2.2
  rw[←Tl0] at this
  unfold a3B
  rw[←Tl0]
  exact this
 have i4:AIs Ng0 a4B:=LY 99 (QZ k3 0) (Jo0 (by unfold I3;omega) k3 i3 mt0.1) mt0.2
 rw[i4.com,YC0,sA0]
section
variable {B:Base}
theorem fD0(hT:VT B)(hW:qC B)(hP:VI B):Gives Tryz.prog B (Z0 CF #[]) (.bool true):=Rn0 hT hW hP aG0
end
end Go.Proofs.YtngbebnhegcokaaGreatDoor

namespace Go.Proofs.YtngbebnhegcokaaGreatDoor
open Go.RowKit
set_option maxRecDepth 100000
theorem ej0{W:World}:∀{l:List EnD},(∀x∈l,aR W x)→∃L:List (EnP×SV),PE L=l∧as0 L (EE W)∧∀p∈L,p.1.row.length≤maxLen∧inI p.1.schema∧inI p.1.time∧∀v∈p.1.row,VK v
 | [],_=>⟨[],rfl,fun x hx=>(by cases hx),fun x hx=>(by cases hx)⟩
 | x :: l,hq=>by
  obtain⟨L,h1,h2,h3⟩:=ej0 (l:=l) fun y hy=>hq y (List.mem_cons_of_mem _ hy)
  obtain⟨_,_,_,_,_,a5,a6,ls,hr,hm,hv⟩:=hq x List.mem_cons_self
  refine⟨(⟨x.kind,x.producer,x.epoch,x.seq,x.source,x.schema,x.time,ls⟩,x.row) :: L,?_,fun y hy=>?_,fun y hy=>?_⟩
  ·show _ :: PE L=_
   rw[h1]
   rfl
  ·rcases List.mem_cons.1 hy with rfl | hy
   ·exact hr
   ·exact h2 y hy
  ·rcases List.mem_cons.1 hy with rfl | hy
   ·refine⟨hm,a5,a6,fun v hv2=>?_⟩
    obtain⟨b1,b2,b3⟩:=hv v hv2
    exact⟨b1,b2,by rw[B_];unfold Ss0 maxLen at b3;omega⟩
   ·exact h3 y hy
theorem OB0{L:List (EnP×SV)}{n:Int}(h:KB0 (L.map (·.1)) n=true):(L.length:Int)≤n∧∀p∈L,p.1.row.length≤3∧p.1.source.size≤20∧∀v∈p.1.row,v.s.size≤20:=by
 unfold KB0 at h
 rw[Bool.and_eq_true,List.length_map] at h
 refine⟨of_decide_eq_true h.1,fun p hp=>?_⟩
 have:=List.all_eq_true.1 h.2 p.1 (List.mem_map.2 ⟨p,hp,rfl⟩)
 unfold zP at this
 simp only[Bool.and_eq_true,decide_eq_true_eq,List.all_eq_true] at this
 exact this
section
variable {W:World} {K:Value→World→Prop}
theorem lsD.here{B:Base}{w:World}{τ:List Dat}{pl:Nat}{l:LS}(h:Rel B w (lsD pl l :: τ)):∃px ps dv,Rel B w (O1 pl F4 #[ptr px,ptr ps,(dv:SV).1] :: intD px l.x :: U7 ps l.s :: Y3 U1 dv.1 l.done :: τ):=by
 obtain⟨⟨px,ps⟩,dv,h⟩:=lsD.open h
 exact⟨px,ps,dv,h⟩
set_option maxHeartbeats 4000000 in
theorem ah0{v cv:Value}{l0:List EnD}{cuts:List Int}{c:CfD}{fr:Int}(hT:VT (EE W))(hW:qC (EE W))(hP:VI (EE W))(r0:O4 v l0 (EE W))(hm:l0.length≤maxLen)(hq:∀x∈l0,aR W x)(rc:O4 cv cuts (EE W))
  (fin:∀w' σ,Rel (EE W) w' σ→K (.bool true) w'):V_.pt c.v v cv (.int .i64 fr) W K:=by
 obtain⟨L,hLe,q,hlq⟩:=ej0 hq
 have r:O4 v (PE L) (EE W):=by rw[hLe];exact r0
 have hal:(PE L).length=L.length:=List.length_map ..
 have hlL:L.length≤maxLen:=by rw[←hal,hLe];exact hm
 unfold V_.pt
 have h:=EE.start W
 refine h.box fun cb w1 h=>?_
 have h:Rel (EE W) w1 [O1 cb V4 c.cs.toArray]:=h
 refine h.ask (fun B2 own base2=>fD0 (base2 hT) (base2 hW) (base2 hP)) fun w2 h=>?_
 rw[h.r9 0 rfl uD rfl]
 refine h.make (fun B2 own base2=>Oi0 c) fun u τ w3 hp h=>?_
 have hf:=fun {σ:List Dat} {w:World} {K:Value→World→Prop} (h:Rel (EE W) w σ)=>h.ask (K:=K) (fun B2 own base2=>mv0 (base2 r) (base2 q) (by unfold maxLen at hlL;omega) (n:=120) (by omega))
 refine hf h fun w4 h=>?_
 clear hf
 rw[V7,G5,R5]
 refine⟨fun hfew=>?_,fun _=>fin _ _ h⟩
 obtain⟨h120,hfew⟩:=OB0 hfew
 rw[O4.len rc N8,x9,K3]
 refine⟨fun _=>fin _ _ h,fun hcl=>?_⟩
 rcases hp with⟨hRc,pl,rfl,rfl⟩ | ⟨_,rfl,rfl⟩
 case inr =>
  rw[wT WH,lC]
  exact fin _ _ h
 rw[OA WH,d_]
 have h:Rel (EE W) w4 [lsD pl ⟨YP c ksL,⟨0,0,0,[]⟩,[]⟩,O1 cb V4 c.cs.toArray]:=h.pick [1,0] (by decide)
 have hst0:BS c L 0 ⟨YP c ksL,⟨0,0,0,[]⟩,[]⟩ []:=⟨GC0 hRc,QC0,rfl,Int.le_refl _,Nat.le_refl _,fun p hp=>by cases hp⟩
 refine F6 (fun x w'=>∃(i:Nat) (l:LS) (D:List (EnP×SV)),i≤L.length∧x=(.int .i64 i,())∧BS c L i l D∧Rel (EE W) w' [lsD pl l,O1 cb V4 c.cs.toArray]) (fun x _=>L.length-(match x.1 with | .int _ n=>n.toNat | _=>0))
  ⟨0,_,_,Nat.zero_le _,rfl,hst0,h⟩ ?_
 clear h hst0
 rintro x w5 ⟨i,l,D,hi,rfl,hI,h⟩ next hnext
 rw[O4.len r iA,hal,G6,K3]
 refine⟨fun hlt=>?_,fun hge=>?_⟩
 ·have hil:i<L.length:=by omega
  obtain⟨go,oo,hx,hcl2⟩:=O4.idx r iA (P:=Tryz.prog) (i:=i) (by omega)
  have hel:(PE L)[i]'(by omega)=(L[i]).1.raw (L[i]).2:=by simp [PE]
  rw[hel] at hcl2
  have hcl2:K6 go oo ((L[i]).1.raw (L[i]).2).cs (EE W):=hcl2
  have hmem:=List.getElem_mem hil
  have hrow:=q _ hmem
  have hval:=hlq _ hmem
  have hlit:=hfew _ hmem
  have hok:Ew0 (L[i]).1:=⟨hval.2.2.2⟩
  obtain⟨hyes,D',hI'⟩:=hI.step (by omega) hmem hok
  generalize L[i]=p at *
  obtain⟨e,ev⟩:=p
  rw[hx,K6.r9 (h.L6 hcl2) M8 rfl]
  refine h.act 0 rfl (fun B2 own base2=>tm0 (hI.ok (by omega)) (base2 hrow) (by omega) (fun x hx=>by have:=hlit.2.2 x hx;omega)) fun u e' τ w6 hp h=>?_
  obtain⟨rfl,rfl,rfl⟩:=hp
  rw[hyes,V7,G5,lC]
  have h:Rel (EE W) w6 [lsD pl (OE l e ev).1,O1 cb V4 c.cs.toArray]:=h
  clear hI hyes
  generalize (OE l e ev).1=l at *
  clear D
  refine P6 fun J hJ=>?_
  replace hJ:∀l',BS c L (i+1) l' D'→∀w',Rel (EE W) w' [lsD pl l',O1 cb V4 c.cs.toArray]→J () w':=by
   intro l' hI2 w' h
   refine hJ _ _ ?_
   obtain⟨px,ps,dv,h⟩:=lsD.here h
   have h:=h.tick
   generalize tick w'=w' at *
   obtain⟨n1,n2⟩:=hI2.ret.next
   have hfi:=hI2.ret.first
   have hdl:l'.done.length=D'.length:=by rw[hI2.par.done];unfold PE;rw[List.length_map]
   simp -zeta only[J5,U0 A9,U0 VD,Nat.zero_add]
   rw[h.ld 0 rfl O7 (o:=1) (v:=ptr ps) rfl,h.ld 0 rfl fA (o:=2) (v:=dv.1) rfl,O4.len (Y3.read (h.here (i:=3) rfl)) iA]
   refine h.ask (fun B2 own base2=>Wa0 (U7.read (own (i:=2) rfl))) fun w8 h=>?_
   refine⟨?_,h.is 0 rfl fA (o:=2) rfl,?_⟩
   ·have:=O4.len (P:=Tryz.prog) (w:=w8) (T:=D6) (U:=Q0) (bs:=#[false]) (Kp:=fun x=>x = .int .i64 l'.done.length) (Y3.read (h.here (i:=3) rfl)) iA
    obtain⟨x,h1,rfl⟩:=this.mpr rfl
    exact h1
   rw[Q7,decide_eq_true (show l'.s.next=l'.done.length by omega),Bool.not_true,d_,h.ld 0 rfl O7 (o:=1) (v:=ptr ps) rfl,h.ld 0 rfl O7 (o:=1) (v:=ptr ps) rfl]
   refine h.ask (fun B2 own base2=>Fk0 (U7.read (own (i:=2) rfl))) fun w9 h=>?_
   refine⟨h.is 0 rfl O7 (o:=1) rfl,?_⟩
   refine h.ask (fun B2 own base2=>Wa0 (U7.read (own (i:=2) rfl))) fun w10 h=>?_
   rw[x9,decide_eq_false (by omega),d_,h.ld 0 rfl O7 (o:=1) (v:=ptr ps) rfl]
   refine h.ask (fun B2 own base2=>Fk0 (U7.read (own (i:=2) rfl))) fun w11 h=>?_
   rw[G6,decide_eq_false (by omega),d_,Z5,E5 (by omega) (by omega)]
   exact hnext _ _ ⟨i+1,l',D',hil,rfl,hI2,lsD.close (l:=l') (q:=(px,ps)) (v:=dv) h⟩ (by simp only;omega)
  clear hnext
  rw[O4.len rc N8,G6,K3]
  refine⟨fun hic=>?_,fun _=>hJ l hI' _ h⟩
  obtain⟨gc,oc,hxc,hcc⟩:=O4.idx rc N8 (P:=Tryz.prog) (i:=i) (by omega)
  have hcc:K6 gc oc [(Value.int .i64 cuts[i])] (EE W):=hcc
  generalize cuts[i]=cu at hcc
  simp -zeta only[hxc]
  rw[K6.ld0 (h.L6 hcc) Y2 (v := .int .i64 cu) rfl]
  have h0:=h
  have h:=h.tick
  generalize tick w6=w6t at *
  obtain⟨px,ps,dv,h⟩:=lsD.here h
  obtain⟨n1,n2⟩:=hI'.ret.next
  have hfi:=hI'.ret.first
  have hDl:=hI'.len
  rw[fZ]
  generalize IntKind.i64.wrap _=z
  rw[F7,K3]
  refine⟨fun _=>?_,fun _=>?_⟩
  ·simp -zeta only[J5,U0 A9,Nat.zero_add]
   rw[h.ld 0 rfl O7 (o:=1) (v:=ptr ps) rfl,K6.ld0 (h.L6 hcc) Y2 (v := .int .i64 cu) rfl,QW (by decide)]
   refine h.act 2 rfl (fun B2 own base2=>gG0 _ (by omega)) fun u e' τ w7 hp h=>?_
   obtain⟨rfl,rfl,rfl⟩:=hp
   exact hJ _ (hI'.cut (by omega) (ch0 _ _)) _ (lsD.close (l:={ l with s:=Oe0 l.s _ }) (q:=(px,ps)) (v:=dv) h)
  rw[F7,K3]
  refine⟨fun _=>?_,fun _=>?_⟩
  ·simp -zeta only[J5,U0 A9,Nat.zero_add]
   rw[h.ld 0 rfl O7 (o:=1) (v:=ptr ps) rfl,K6.ld0 (h.L6 hcc) Y2 (v := .int .i64 cu) rfl,QW (by decide)]
   refine h.act 2 rfl (fun B2 own base2=>TE0 _ (by omega)) fun u e' τ w7 hp h=>?_
   obtain⟨rfl,rfl,rfl⟩:=hp
   exact hJ _ (hI'.cut (by omega) (kb0 _ _)) _ (lsD.close (l:={ l with s:=Oe0 l.s _ }) (q:=(px,ps)) (v:=dv) h)
  rw[F7,K3]
  refine⟨fun _=>?_,fun _=>hJ l hI' _ h0⟩
  simp -zeta only[J5,U0 jC,U0 A9,Nat.zero_add]
  have h:Rel (EE W) w6t [O1 pl F4 #[ptr px,ptr ps,dv.1],intD px l.x,U7 ps l.s,Y3 U1 dv.1 l.done,O1 cb V4 c.cs.toArray]:=h
  rw[h.r9 4 rfl uD rfl,h.ld 0 rfl KA (o:=0) (v:=ptr px) rfl]
  refine h.make (fun B2 own base2=>Dc0) fun kv τ w7 hp h=>?_
  subst hp
  refine⟨h.is 0 rfl KA (o:=0) rfl,h.bV 4 rfl uD rfl,?_⟩
  obtain⟨times,hfin⟩:=hI'.par.fin
  have hfit:=hI'.par.good.fit hfin.keys
  have hel:=Jp0 hfit
  refine h.ask (fun B2 own base2=>wy0 (base2 hP) (own (i:=1) rfl) hfit) fun w8 h=>?_
  refine⟨h.bV 4 rfl uD rfl,?_⟩
  have hread:wW c ksL (oZ l.x)=some l.x:=by
   have hg:=hI'.par.good
   have:=Sq0 hfit hg.now ⟨hg.next.1,by have:=hg.next;omega⟩ hg.refused.1
   rw[hI'.cfg,hI'.par.known] at this
   exact this
  have h:Rel (EE W) w8 [O1 pl F4 #[ptr px,ptr ps,dv.1],intD px l.x,U7 ps l.s,Y3 U1 dv.1 l.done,O1 cb V4 c.cs.toArray,JA kv ksL]:=h
  refine h.make (fun B2 own base2=>eC0 (base2 hW) c (own (i:=5) rfl) dE0 hel) fun u4 τ w9 hp h=>?_
  rcases hp with⟨_,s',a,hs',rfl,rfl⟩ | ⟨hno,_⟩
  case inr=>rw[hread] at hno;cases hno hRc
  rw[hread] at hs'
  injection hs' with hs'
  subst hs'
  simp -zeta only[M9,D9]
  have h:Rel (EE W) w9 [O1 pl F4 #[ptr px,ptr ps,dv.1],intD px l.x,U7 ps l.s,Y3 U1 dv.1 l.done,O1 cb V4 c.cs.toArray,JA kv ksL,intD a l.x]:=h
  rw[h.ld 0 rfl O7 (o:=1) (v:=ptr ps) rfl]
  refine h.ask (fun B2 own base2=>cw0 (base2 hW) (U7.read (own (i:=2) rfl)) hI'.ret.right) fun w10 h=>?_
  have hsl:=Ku0 hI'.ret.right
  refine h.make (fun B2 own base2=>BA0 (base2 hW) (t:=Te0 l.s) (by omega)) fun u5 τ w11 hp h=>?_
  rw[Uq0 hI'.ret.right] at hp
  rcases hp with⟨s',b',e,rfl,rfl⟩ | ⟨hn,_⟩
  case inr=>cases hn
  injection e with e
  subst e
  simp -zeta only[M9,D9]
  have h:Rel (EE W) w11 [O1 pl F4 #[ptr px,ptr ps,dv.1],intD px l.x,U7 ps l.s,Y3 U1 dv.1 l.done,O1 cb V4 c.cs.toArray,JA kv ksL,intD a l.x,U7 b' l.s]:=h
  rw[V7,Bool.not_true,d_,V7,Bool.not_true,d_,OA uG,d_,OA UpS,d_]
  refine h.st 0 rfl KA (o:=0) (show 0<3 by omega) rfl fun w12 h=>?_
  refine h.st 0 rfl O7 (o:=1) (show 1<3 by omega) rfl fun w13 h=>?_
  have h:Rel (EE W) w13 [O1 pl F4 #[ptr a,ptr b',dv.1],intD px l.x,U7 ps l.s,Y3 U1 dv.1 l.done,O1 cb V4 c.cs.toArray,JA kv ksL,intD a l.x,U7 b' l.s]:=h
  have h:=h.pick [0,6,7,3,4] (by decide)
  exact hJ l hI' _ (lsD.close (l:=l) (q:=(a,b')) (v:=dv) h)
 clear hnext
 have hie:i=L.length:=by omega
 subst hie
 obtain⟨n1,n2⟩:=hI.ret.next
 have hfi:=hI.ret.first
 have hDl:=hI.len
 obtain⟨px,ps,dv,h⟩:=lsD.here h
 rw[hI.par.done] at h
 have hdl:(PE D).length=D.length:=List.length_map ..
 have hrowsD:∀p∈evP D,O4 p.2.1 p.1.row (EE W):=by
  intro p hp
  obtain⟨j,hj,rfl⟩:=List.getElem_of_mem hp
  rw[KS] at hj
  rw[Ck0 hj]
  exact q _ (hI.sub _ (List.getElem_mem hj))
 have hrlD:∀p∈evP D,p.1.row.length≤4611686018427387904:=by
  intro p hp
  obtain⟨j,hj,rfl⟩:=List.getElem_of_mem hp
  rw[KS] at hj
  rw[Ck0 hj]
  have:=(hfew _ (hI.sub _ (List.getElem_mem hj))).1
  show (D[j]).1.row.length≤_
  omega
 simp -zeta only[J5,U0 A9,Nat.zero_add]
 rw[h.ld 0 rfl O7 (o:=1) (v:=ptr ps) rfl]
 refine h.ask (fun B2 own base2=>Zu0 (U7.read (own (i:=2) rfl))) fun w6 h=>?_
 rw[II]
 have hge:l.s.horizon≤max fr l.s.horizon:=by omega
 generalize max fr l.s.horizon=t at hge
 have h:=h.VC Y7 Q3
 have h:=h.VC Y7 Q3
 have h:Rel (EE W) w6 [O1 pl F4 #[ptr px,ptr ps,dv.1],intD px l.x,U7 ps l.s,Y3 U1 dv.1 (PE D),O1 cb V4 c.cs.toArray,Y3 Q3 (.slice none 0 0) ([]:List Y7),Y3 Q3 (.slice none 0 0) ([]:List Y7)]:=h
 refine F6 (fun x w'=>∃(j:Nat) (wv kv:Value),j≤D.length∧x=(wv,kv,.int .i64 j,())∧Rel (EE W) w' [O1 pl F4 #[ptr px,ptr ps,dv.1],intD px l.x,U7 ps l.s,Y3 U1 dv.1 (PE D),O1 cb V4 c.cs.toArray,Y3 Q3 wv (l_ (((evP D).take j).filter fun p=>decide (t≤p.1.time))),Y3 Q3 kv (l_ (((evP D).take j).drop l.s.first.toNat))]) (fun x _=>D.length-(match x.2.2.1 with | .int _ n=>n.toNat | _=>0))
  ⟨0,_,_,Nat.zero_le _,rfl,by rw[List.take_zero,List.drop_nil];exact h⟩ ?_
 clear h
 rintro x w7 ⟨j,wv,kv,hj,rfl,h⟩ next hnext
 simp -zeta only[J5,U0 A9,U0 VD,Nat.zero_add]
 rw[h.ld 0 rfl fA (o:=2) (v:=dv.1) rfl,O4.len (Y3.read (h.here (i:=3) rfl)) iA,hdl,G6,K3]
 refine⟨fun hlt=>?_,fun hgej=>?_⟩
 ·have hjl:j<D.length:=by omega
  obtain⟨go,oo,hx,hcl2⟩:=O4.idx (Y3.read (h.here (i:=3) rfl)) iA (P:=Tryz.prog) (i:=j) (by omega)
  have hel:(PE D)[j]'(by omega)=(D[j]).1.raw (D[j]).2:=by simp [PE]
  rw[hel] at hcl2
  have hrow:=q _ (hI.sub _ (List.getElem_mem hjl))
  have htake:(evP D).take (j+1)=(evP D).take j++[(evL j (D[j]).1,(D[j]).2)]:=by rw[List.take_succ_eq_append_getElem (by rw[KS];exact hjl),Ck0 hjl]
  generalize hp:D[j]=p at *
  obtain⟨e,ev⟩:=p
  have htake:(evP D).take (j+1)=(evP D).take j++[(evL j e,ev)]:=htake
  have hcl2:K6 go oo (e.raw ev).cs ⟨w7,fun _=>True⟩:=hcl2
  refine P6 fun J hJ=>?_
  replace hJ:∀wv' kv' w',Rel (EE W) w' [O1 pl F4 #[ptr px,ptr ps,dv.1],intD px l.x,U7 ps l.s,Y3 U1 dv.1 (PE D),O1 cb V4 c.cs.toArray,Y3 Q3 wv' (l_ (((evP D).take (j+1)).filter fun p=>decide (t≤p.1.time))),Y3 Q3 kv' (l_ (((evP D).take (j+1)).drop l.s.first.toNat))]→J (wv',kv',()) w':=by
   intro wv' kv' w' h
   refine hJ _ _ ?_
   rw[Z5,E5 (by omega) (by omega)]
   exact hnext _ _ ⟨j+1,wv',kv',hjl,rfl,h⟩ (by simp only;omega)
  clear hnext
  rw[h.ld 0 rfl fA (o:=2) (v:=dv.1) rfl,hx,K6.r9 hcl2 M8 rfl]
  refine h.R8 (ds:=(e.raw ev).cs.toArray) fQ rfl M8 rfl (fun v hv=>Enc.one (e.raw ev) v hv) fun e3 w8 h=>?_
  have h:Rel (EE W) w8 [O1 pl F4 #[ptr px,ptr ps,dv.1],intD px l.x,U7 ps l.s,Y3 U1 dv.1 (PE D),O1 cb V4 c.cs.toArray,Y3 Q3 wv (l_ (((evP D).take j).filter fun p=>decide (t≤p.1.time))),Y3 Q3 kv (l_ (((evP D).take j).drop l.s.first.toNat)),O1 e3 U1 (e.raw ev).cs.toArray]:=h
  simp -zeta only[U0 sJ,U0 kM,U0 UG,U0 aF,Nat.zero_add]
  rw[h.ld 7 rfl U6 (o:=4) (v := .string e.source) rfl,h.ld 7 rfl Y2 (o:=5) (v := .int .i64 e.schema) rfl,h.ld 7 rfl Y2 (o:=6) (v := .int .i64 e.time) rfl,h.ld 7 rfl H7 (o:=7) (v:=ev.1) rfl]
  obtain⟨vx,vn,vc,hvs⟩:∃x n c,ev.1 = .slice x n c:=by obtain⟨x,c,hx,_⟩:=hrow;exact⟨x,_,c,hx⟩
  rw[hvs,UN]
  have hev:(Value.agg #[(.int .i64 0),.int .i64 j,.string e.source,.int .i64 e.schema,.int .i64 e.time,.slice vx vn vc]) = .agg (((evL j e).raw ev).cs.toArray):=by
   show _=Value.agg #[.int .i64 0,.int .i64 j,.string e.source,.int .i64 e.schema,.int .i64 e.time,ev.1]
   rw[hvs]
  rw[hev]
  refine h.R8 (ds:=((evL j e).raw ev).cs.toArray) TC rfl Y8 rfl (fun v hv=>Enc.one ((evL j e).raw ev) v hv) fun y3 w9 h=>?_
  have h:Rel (EE W) w9 [O1 pl F4 #[ptr px,ptr ps,dv.1],intD px l.x,U7 ps l.s,Y3 U1 dv.1 (PE D),O1 cb V4 c.cs.toArray,Y3 Q3 wv (l_ (((evP D).take j).filter fun p=>decide (t≤p.1.time))),Y3 Q3 kv (l_ (((evP D).take j).drop l.s.first.toNat)),O1 e3 U1 (e.raw ev).cs.toArray,O1 y3 Q3 ((evL j e).raw ev).cs.toArray]:=h
  have hlf:(l_ (((evP D).take j).filter fun p=>decide (t≤p.1.time))).length≤j:=by
   unfold l_
   rw[List.length_map]
   have:=List.length_filter_le (fun p:Ev×SV=>decide (t≤p.1.time)) ((evP D).take j)
   rw[List.length_take] at this
   omega
  have hld:(l_ (((evP D).take j).drop l.s.first.toNat)).length≤j:=by
   unfold l_
   rw[List.length_map,List.length_drop,List.length_take]
   omega
  refine P6 fun J2 hJ2=>?_
  replace hJ2:∀wv' w',Rel (EE W) w' [O1 pl F4 #[ptr px,ptr ps,dv.1],intD px l.x,U7 ps l.s,Y3 U1 dv.1 (PE D),O1 cb V4 c.cs.toArray,Y3 Q3 wv' (l_ (((evP D).take (j+1)).filter fun p=>decide (t≤p.1.time))),Y3 Q3 kv (l_ (((evP D).take j).drop l.s.first.toNat)),O1 e3 U1 (e.raw ev).cs.toArray,O1 y3 Q3 ((evL j e).raw ev).cs.toArray]→J2 (wv',()) w':=by
   intro wv' w' h
   refine hJ2 _ _ ?_
   rw[h.ld 0 rfl O7 (o:=1) (v:=ptr ps) rfl]
   refine h.ask (fun B2 own base2=>Fk0 (U7.read (own (i:=2) rfl))) fun w10 h=>?_
   rw[FC,K3]
   refine⟨fun hfj=>?_,fun hfj=>?_⟩
   ·rw[h.r9 8 rfl Y8 rfl]
    refine h.WS (α:=Y7) 6 rfl ((evL j e).raw ev) u7 (by decide) (show ((l_ (((evP D).take j).drop l.s.first.toNat)).length+1) * _≤_ by omega) (by omega) fun kv2 w11 h=>?_
    have e2:l_ (((evP D).take (j+1)).drop l.s.first.toNat)=l_ (((evP D).take j).drop l.s.first.toNat)++[(evL j e).raw ev]:=by
     rw[htake,List.drop_append_of_le_length (by rw[List.length_take,KS];omega)]
     unfold l_
     rw[List.map_append]
     rfl
    refine hJ _ _ _ ?_
    rw[e2]
    exact h.take 7
   ·have e2:l_ (((evP D).take (j+1)).drop l.s.first.toNat)=l_ (((evP D).take j).drop l.s.first.toNat):=by
     rw[List.drop_eq_nil_of_le (by rw[List.length_take,KS];omega),List.drop_eq_nil_of_le (by rw[List.length_take,KS];omega)]
    refine hJ _ _ _ ?_
    rw[e2]
    exact h.take 7
  clear hJ
  rw[h.ld 7 rfl Y2 (o:=6) (v := .int .i64 e.time) rfl,FC,K3]
  refine⟨fun hte=>?_,fun hte=>?_⟩
  ·rw[h.r9 8 rfl Y8 rfl]
   refine h.WS (α:=Y7) 5 rfl ((evL j e).raw ev) u7 (by decide) (show ((l_ (((evP D).take j).filter fun p=>decide (t≤p.1.time))).length+1) * _≤_ by omega) (by omega) fun wv2 w11 h=>?_
   have e2:l_ (((evP D).take (j+1)).filter fun p=>decide (t≤p.1.time))=l_ (((evP D).take j).filter fun p=>decide (t≤p.1.time))++[(evL j e).raw ev]:=by
    have ef:([(evL j e,ev)]:EvL).filter (fun p=>decide (t≤p.1.time))=[(evL j e,ev)]:=List.filter_cons_of_pos (p:=fun p:Ev×SV=>decide (t≤p.1.time)) (decide_eq_true (show t≤e.time from hte))
    rw[htake,List.filter_append,ef]
    unfold l_
    rw[List.map_append]
    rfl
   refine hJ2 _ _ ?_
   rw[e2]
   exact h
  ·have e2:l_ (((evP D).take (j+1)).filter fun p=>decide (t≤p.1.time))=l_ (((evP D).take j).filter fun p=>decide (t≤p.1.time)):=by
    have ef:([(evL j e,ev)]:EvL).filter (fun p=>decide (t≤p.1.time))=[]:=List.filter_cons_of_neg (p:=fun p:Ev×SV=>decide (t≤p.1.time)) (by rw[decide_eq_true_eq];exact hte)
    rw[htake,List.filter_append,ef,List.append_nil]
   refine hJ2 _ _ ?_
   rw[e2]
   exact h
 ·clear hnext
  have hje:j=D.length:=by omega
  subst hje
  rw[List.take_of_length_le (by rw[KS];exact Nat.le_refl _)] at h
  have hR1:sM ((evP D).filter fun p=>decide (t≤p.1.time)) (EE W):=fun p hp=>hrowsD p (List.mem_filter.1 hp).1
  have hR2:sM ((evP D).drop l.s.first.toNat) (EE W):=fun p hp=>hrowsD p (List.mem_of_mem_drop hp)
  have he1:evs ((evP D).filter fun p=>decide (t≤p.1.time))=rf0 l.s t:=by
   rw[Tz0 hI.ret hge,←qs0]
   unfold evs
   rw[List.filter_map]
   rfl
  have he2:evs ((evP D).drop l.s.first.toNat)=NY l.s 0 10000:=by
   rw[lj0 hI.ret (by omega),←qs0]
   unfold evs
   rw[List.map_drop]
  have hl1:(rf0 l.s t).length≤1000000:=by
   unfold rf0
   have:=List.length_filter_le (fun e:Ev=>decide (t≤e.time)) l.s.events
   omega
  have hl2:(NY l.s 0 10000).length≤1000000:=by
   rw[lj0 hI.ret (by omega),List.length_drop,rZ]
   omega
  have hrl1:∀e∈rf0 l.s t,e.row.length≤4611686018427387904:=by
   intro e he
   rw[←he1] at he
   obtain⟨p,hp,rfl⟩:=List.mem_map.1 he
   exact hrlD p (List.mem_filter.1 hp).1
  have hrl2:∀e∈NY l.s 0 10000,e.row.length≤4611686018427387904:=by
   intro e he
   rw[←he2] at he
   obtain⟨p,hp,rfl⟩:=List.mem_map.1 he
   exact hrlD p (List.mem_of_mem_drop hp)
  rw[lC,h.ld 0 rfl O7 (o:=1) (v:=ptr ps) rfl]
  refine h.make (fun B2 own base2=>eF0 (U7.read (own (i:=2) rfl)) t) fun u τ w8 hp h=>?_
  obtain⟨L1,hL1,rfl⟩:=hp
  have hlen1:L1.length≤4611686018427387904:=by
   have:=congrArg List.length hL1
   unfold evs at this
   rw[List.length_map] at this
   omega
  refine h.ask (v := .bool true) (fun B2 own base2=>?_) fun w9 h=>?_
  ·have:=to0 (B:=B2) (L:=L1) (M:=(evP D).filter fun p=>decide (t≤p.1.time)) (Uf0.read own) ⟨Y3.read (own (i:=5) rfl),base2 hR1⟩ hlen1 fun p hp=>hrl1 _ (by rw[←hL1];exact List.mem_map.2 ⟨p,hp,rfl⟩)
   rw[decide_eq_true (by rw[hL1,he1])] at this
   exact this
  have h:=h.drop
  rw[lC,h.ld 0 rfl O7 (o:=1) (v:=ptr ps) rfl]
  refine h.make (fun B2 own base2=>dD0 (U7.read (own (i:=2) rfl)) 0 10000) fun u2 τ w10 hp h=>?_
  obtain⟨L2,hL2,rfl⟩:=hp
  have hlen2:L2.length≤4611686018427387904:=by
   have:=congrArg List.length hL2
   unfold evs at this
   rw[List.length_map] at this
   omega
  refine h.ask (v := .bool true) (fun B2 own base2=>?_) fun w11 h=>?_
  ·have:=to0 (B:=B2) (L:=L2) (M:=(evP D).drop l.s.first.toNat) (Uf0.read own) ⟨Y3.read (own (i:=6) rfl),base2 hR2⟩ hlen2 fun p hp=>hrl2 _ (by rw[←hL2];exact List.mem_map.2 ⟨p,hp,rfl⟩)
   rw[decide_eq_true (by rw[hL2,he2])] at this
   exact this
  exact fin _ _ h
end
end Go.Proofs.YtngbebnhegcokaaGreatDoor

