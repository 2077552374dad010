/-
  Part 6 of the proof that TopLogs holds, for the parts that follow; made small by program out of longer texts. No condition.
-/
import Derived.Test.YtngbebnhegcokaaGreatDoorMbE
set_option linter.all false
namespace Go.Proofs.YtngbebnhegcokaaGreatDoor
open Go.Proofs.Tryz (prog)
open Go.RowKit
set_option maxRecDepth 100000
theorem Bl0:KeyTy prog Q0 Int:=KeyTy.int TW
abbrev CfD:=ZE
structure IS where
 cfg:CfD
 known:List Kn
 now:Int
 top:Int
 next:Int
 refused:Int
 prods:List Pr
 cnt:Int→Int
structure fM (cnt:Int→Int) (l:List (Ent Int Int)) (c:Nat):Prop where
 wf:WfE l c
 get:∀t,jH t l=if cnt t=0 then none else some (cnt t)
theorem fM.getD{cnt:Int→Int}{l:List (Ent Int Int)}{c:Nat}(h:fM cnt l c)(t:Int):(jH t l).getD 0=cnt t:=by
 rw[h.get]
 split
 ·rename_i h;exact h.symm
 ·rfl
structure nG (c:CfD):Prop where
 late:0≤c.late∧c.late≤10000
 delay:0≤c.delay∧c.delay≤c.late
 ahead:0≤c.ahead∧c.ahead≤10000
 rate:1≤c.rate∧c.rate≤20
structure fO (s:IS):Prop where
 cfg:nG s.cfg
 prods:aH s.prods
 now:0≤s.now∧s.now≤1099511627776
 top : -1≤s.top∧s.top≤1099511627776
 next:0≤s.next∧s.next≤1000000000
 refused:0≤s.refused∧s.refused≤1000000000
 cnt:∀t,0≤s.cnt t∧s.cnt t≤s.cfg.rate
def X9(s:IS):Int:=max (-1) (s.top-s.cfg.late-1)
def tE0(s:IS):Int:=max (-1) (s.top-s.cfg.delay-1)
def je0(s:IS)(t:Int):IS:={ s with top:=max s.top t,cnt:=fun x=>if x≤X9 { s with top:=max s.top t } then 0 else s.cnt x }
def dM(t:Int):Prop:=0≤t∧t≤1099511627776
instance (t:Int):Decidable (dM t):=by unfold dM;infer_instance
def jW(s:IS)(e:EnD)(r:List KD):Int×Int :=
 if(EN s.prods e.producer e.epoch e.seq).2≠0 then EN s.prods e.producer e.epoch e.seq else if ¬dM e.time then(0,3) else if eZ s.known e.source e.schema r≠0 then(0,eZ s.known e.source e.schema r)
 else if e.time≤X9 s then(0,20) else if s.now+s.cfg.ahead<e.time then(0,21) else if s.cfg.rate≤s.cnt e.time then(0,22) else(s.next,0)
abbrev ics(s:IS)(kv pv:SV)(m:Nat):Array Value:=#[.int .i64 s.cfg.parts,.int .i64 s.cfg.delay,.int .i64 s.cfg.late,.int .i64 s.cfg.ahead,.int .i64 s.cfg.rate,.int .i64 s.cfg.span,kv.1,.int .i64 s.now,.int .i64 s.top,.int .i64 s.next,.int .i64 s.refused,pv.1,vP m]
abbrev IX:=(SV×SV)×(Nat×List (Ent Int Int)×Nat)
abbrev yu0(p:Nat)(s:IS)(x:IX):List Dat:=[O1 p X3 (ics s x.1.1 x.1.2 x.2.1),B_ x.2.1 x.2.2.1 x.2.2.2,iF x.1.1.1 s.known,LP x.1.2.1 s.prods]
def intD(p:Nat)(s:IS):Dat:=Dat.ex fun x:IX=>(Dat.pure (fM s.cnt x.2.2.1 x.2.2.2)).and (yT (yu0 p s x))
section
variable {B:Base} {w:World} {p:Nat} {s:IS}
theorem intD.open_(h:Rel B w [intD p s]):∃kv pv m l c,fM s.cnt l c∧Rel B w [O1 p X3 (ics s kv pv m),B_ m l c,iF kv.1 s.known,LP pv.1 s.prods]:=by
 obtain⟨x,h⟩:=h.ex (i:=0) rfl
 obtain⟨h1,h⟩:=h.iW (i:=0) rfl
 have h:=Rel.dS (σ:=[]) (L:=yu0 p s x) h
 exact⟨_,_,_,_,_,h1,h⟩
theorem intD.close{kv pv:SV}{m c:Nat}{l:List (Ent Int Int)}(hc:fM s.cnt l c)(h:Rel B w [O1 p X3 (ics s kv pv m),B_ m l c,iF kv.1 s.known,LP pv.1 s.prods]):Rel B w [intD p s]:=by
 have h:=Rel.VM (σ:=[]) h
 exact h.imp (i:=0) (e:=intD p s) rfl fun B hB=>⟨((kv,pv),(m,l,c)),hc,hB⟩
theorem intD.FO(h:intD p s B):∃kv pv m l c,fM s.cnt l c∧O1 p X3 (ics s kv pv m) B∧B_ m l c B∧iF kv.1 s.known B∧LP pv.1 s.prods B:=by
 obtain⟨x,h1,h3⟩:=h
 exact⟨_,_,_,_,_,h1,Dat.star.left h3,Dat.star.left (Dat.star.right h3),Dat.star.left (Dat.star.right (Dat.star.right h3)),Dat.star.left (Dat.star.right (Dat.star.right (Dat.star.right h3)))⟩
abbrev jj0(p:Nat):Value := .pointer (some ⟨p,0,none⟩)
theorem eI0(hI:intD p s B):Gives prog B (Z0 BK #[jj0 p]) (.int .i64 s.next):=by
 refine Gives.intro fun B' w K base h k=>?_
 obtain⟨kv,pv,m,l,c,_,hc,_⟩:=intD.FO (base hI)
 refine mJ.up ?_
 unfold mJ.pt
 simp -zeta only[y5,U0 WJ,Nat.zero_add,O1.ld (h.K6 hc) F3 (o:=9) rfl]
 exact k _ _ h
theorem Cd0{kv pv:SV}{m:Nat}(hc:O1 p X3 (ics s kv pv m) B)(hg:nG s.cfg)(ht : -1≤s.top∧s.top≤1099511627776):Gives prog B (Z0 W9 #[jj0 p]) (.int .i64 (X9 s)):=by
 refine Gives.intro fun B' w K base h k=>?_
 replace hc:=base hc
 refine KG.up ?_
 unfold KG.pt
 have h:=h.tick
 have h1:=hg.late
 simp -zeta only[y5,U0 yO,U0 wO,U0 fT,Nat.zero_add,O1.ld (h.K6 hc) F3 (o:=8) rfl,O1.ld (h.K6 hc) F3 (o:=2) rfl,eF,kL]
 rw[D5 (n:=s.top-s.cfg.late) (by omega) (by omega),D5 (by omega) (by omega)]
 exact k _ _ h
theorem dY(hI:intD p s B)(hg:fO s):Gives prog B (Z0 W9 #[jj0 p]) (.int .i64 (X9 s)):=by
 obtain⟨kv,pv,m,l,c,_,hc,_⟩:=intD.FO hI
 exact Cd0 hc hg.cfg hg.top
theorem Kq0(t:Int):Gives prog B (Z0 zM #[.int .i64 t]) (.bool (decide (dM t))):=by
 refine Gives.intro fun B' w K base h k=>?_
 refine eQ.up ?_
 unfold eQ.pt
 refine h.ask (v := .bool (decide (dM t))) (fun B2 own base2=>?_) fun w1 h=>k _ _ h
 refine Gives.intro fun B3 w K base3 h k=>?_
 refine vI.up ?_
 unfold vI.pt
 simp -zeta only[LD,gD,K3]
 refine⟨fun c=>?_,fun c=>?_⟩
 ·have e:decide (dM t)=decide (t≤1099511627776):=decide_eq_decide.2 ⟨fun hh=>hh.2,fun hh=>⟨c,hh⟩⟩
  rw[e] at k
  exact k _ _ h
 ·rw[decide_eq_false (fun hh:dM t=>c hh.1)] at k
  exact k _ _ h
theorem MH0{kv pv:SV}{m:Nat}(hc:O1 p X3 (ics s kv pv m) B)(hkn:iF kv.1 s.known B){en:EnD}{r:List KD}(hr:Q4 en.row.1 r B)(hrl:r.length≤4611686018427387904)(hkl:s.known.length≤4611686018427387904) :
  Gives prog B (Z0 CK #[jj0 p,en.v]) (.int .i64 (eZ s.known en.source en.schema r)):=by
 refine Gives.intro fun B' w K base h k=>?_
 replace hc:=base hc
 replace hr:=base hr
 obtain⟨L,hL,rk,rc⟩:=base hkn
 have hal:(ML L).length=L.length:=List.length_map ..
 have hll:L.length≤4611686018427387904:=by rw[←hL,List.length_map] at hkl;exact hkl
 refine nJ.up ?_
 unfold nJ.pt
 refine h.box fun o w1 h=>?_
 have h:Rel B' w1 [O1 o Y1 en.cs.toArray]:=h
 simp -zeta only[y5,U0 xO,Nat.zero_add,O1.ld (h.K6 hc) wI (o:=6) rfl,OG]
 refine h.ask (fun B2 own base2=>qK (base2 rk) (by omega) (fun x=>decide (x.source=en.source)&&decide (x.schema=en.schema)) fun B3 base3 x _=>FH0 (base3 (own (i:=0) rfl)) x) fun w2 h=>?_
 have h:=h
 have ht:=h.tick
 unfold eZ at k
 rcases ol0 (fun x:KnD=>decide (x.source=en.source)&&decide (x.schema=en.schema)) (ML L) with⟨hi,hno⟩ | ⟨i,hi,hil,hat,hno⟩
 ·rw[hi,D6,decide_eq_true (by decide),VC]
  have hf:s.known.find? (Au0 en.source en.schema)=none:=by
   rw[List.find?_eq_none,←hL]
   intro x hx
   obtain⟨y,hy,rfl⟩:=List.mem_map.1 hx
   have:=hno (y.1.raw y.2) (List.mem_map_of_mem hy)
   simpa [Au0] using this
  rw[hf] at k
  exact k _ _ h
 ·rw[hi,D6,decide_eq_false (by omega),t_]
  have hil':i<L.length:=by omega
  have hel:(ML L)[i]=L[i].1.raw L[i].2:=by simp [ML]
  have hf:s.known.find? (Au0 en.source en.schema)=some L[i].1:=by
   rw[←hL,List.find?_eq_some_iff_getElem]
   rw[hel] at hat
   refine⟨hat,i,by rw[List.length_map];exact hil',by simp,fun j hj=>?_⟩
   have:=hno ((ML L)[j]'(by omega)) (List.mem_take_iff_getElem.2 ⟨j,by omega,rfl⟩)
   have hel2:(ML L)[j]'(by omega)=(L[j]'(by omega)).1.raw (L[j]'(by omega)).2:=by simp [ML]
   rw[hel2] at this
   have this:Au0 en.source en.schema (L[j]'(by omega)).1=false:=this
   simp [this]
  rw[hf] at k
  obtain⟨g,oo,hx,hcc⟩:=Q4.idx rk jE (P:=prog) (i:=i) hil
  rw[hel] at hcc
  have hcc:F6 g oo (L[i].1.raw L[i].2).cs B':=hcc
  have hcol:Q4 L[i].2.1 L[i].1.cols B':=rc L[i] (List.getElem_mem hil')
  simp -zeta only[U0 gH,Nat.zero_add,ht.ld 0 rfl V7 (o:=7) rfl,O1.ld (ht.K6 hc) wI (o:=6) rfl,hx,U0 VY,F6.ld (ht.K6 hcc) oW (j:=2) rfl]
  refine ht.ask (fun B2 own base2=>zn0 (base2 hr) (base2 hcol) hrl) fun w3 h=>?_
  simp only at k
  rw[V8,K5,Q5]
  refine⟨fun c1=>?_,fun c1=>?_⟩
  ·simp -zeta only[h.ld 0 rfl V7 (o:=7) rfl]
   refine h.ask (fun B2 own base2=>gv0 (base2 hr) hrl) fun w4 h=>?_
   rw[V8,K5,Q5]
   refine⟨fun c2=>?_,fun c2=>?_⟩
   ·rw[if_pos ⟨c1,c2⟩] at k;exact k _ _ h
   ·rw[if_neg (fun hh=>by rw[c2] at hh;cases hh.2)] at k;exact k _ _ h
  ·rw[if_neg (fun hh=>by rw[c1] at hh;cases hh.1)] at k;exact k _ _ h
theorem oM0(hI:intD p s B)(hg:fO s){en:EnD}{r:List KD}(hr:Q4 en.row.1 r B)(hrl:r.length≤4611686018427387904)(hkl:s.known.length≤4611686018427387904) :
  Gives prog B (Z0 TL #[jj0 p,en.v]) (.tuple #[.int .i64 (jW s en r).1,.int .i64 (jW s en r).2]):=by
 refine Gives.intro fun B' w K base h k=>?_
 obtain⟨kv,pv,m,l,c,hk,hc,hm,hkn,L,hL,rt,qt⟩:=intD.FO (base hI)
 replace hr:=base hr
 refine iK.up ?_
 unfold iK.pt
 have fin:∀(x:Int×Int) w' τ,jW s en r=x→Rel B' w' τ→K (.tuple #[.int .i64 x.1,.int .i64 x.2]) w':=fun x w' τ e h=>by rw[e] at k;exact k _ _ h
 clear k
 unfold jW at fin
 have hR:aH (prs L):=by rw[hL];exact hg.prods
 refine h.box fun o w1 h=>?_
 have h:Rel B' w1 [O1 o Y1 en.cs.toArray]:=h
 have h:=h.tick
 simp -zeta only[y5,U0 XJ,Nat.zero_add,O1.ld (h.K6 hc) jA (o:=11) rfl,h.Q9 0 rfl P8 rfl]
 refine h.ask (fun B2 own base2=>IB0 (base2 rt) (base2 qt) hR en) fun w2 h=>?_
 rw[hL]
 simp -zeta only[h_,Y9,X7,K5,K3]
 refine⟨fun c0=>?_,fun c0=>fin _ _ _ (by rw[if_pos c0]) h⟩
 simp -zeta only[U0 fH,Nat.zero_add,h.ld 0 rfl F3 (o:=6) rfl]
 refine h.ask (fun B2 own base2=>Kq0 en.time) fun w3 h=>?_
 rw[V8,K5,K3]
 refine⟨fun c1=>?_,fun c1=>fin (0,3) _ _ (by rw[if_neg (fun hh=>hh c0),if_pos c1]) h⟩
 rw[h.Q9 0 rfl P8 rfl]
 refine h.ask (fun B2 own base2=>MH0 (base2 hc) (base2 hkn) (base2 hr) hrl hkl) fun w4 h=>?_
 rw[X7,K5,K3]
 refine⟨fun c2=>?_,fun c2=>fin (0,eZ s.known en.source en.schema r) _ _ (by rw[if_neg (fun hh=>hh c0),if_neg (fun hh=>hh c1),if_pos c2]) h⟩
 have h:=h.tick
 simp -zeta only[h.ld 0 rfl F3 (o:=6) rfl]
 refine h.ask (fun B2 own base2=>Cd0 (base2 hc) hg.cfg hg.top) fun w5 h=>?_
 refine⟨h.is 0 rfl F3 (o:=6) rfl,?_⟩
 rw[gD,K3]
 refine⟨fun c3=>fin (0,20) _ _ (by rw[if_neg (fun hh=>hh c0),if_neg (fun hh=>hh c1),if_neg (fun hh=>hh c2),if_pos c3]) h,fun c3=>?_⟩
 have h:=h.tick
 have hn:=hg.now
 have ha:=hg.cfg.ahead
 have hw:IntKind.i64.wrap (s.now+s.cfg.ahead)=s.now+s.cfg.ahead:=D5 (by omega) (by omega)
 simp -zeta only[h.ld 0 rfl F3 (o:=6) rfl,y5,U0 VJ,U0 wO,U0 gT,Nat.zero_add,O1.ld (h.K6 hc) F3 (o:=7) rfl,O1.ld (h.K6 hc) F3 (o:=3) rfl,V5,hw,A_,K3]
 refine⟨fun c4=>fin (0,21) _ _ (by rw[if_neg (fun hh=>hh c0),if_neg (fun hh=>hh c1),if_neg (fun hh=>hh c2),if_neg c3,if_pos c4]) h,fun c4=>?_⟩
 have h:=h.tick
 simp -zeta only[h.ld 0 rfl F3 (o:=6) rfl,U0 YJ,U0 WJ,U0 eX,Nat.zero_add,O1.ld (h.K6 hc) bA (o:=12) rfl,O1.ld (h.K6 hc) F3 (o:=4) rfl,O1.ld (h.K6 hc) F3 (o:=9) rfl]
 rw[B_.look (h.K6 hm) qF Bl0 0 Ss0 en.time,hk.getD,show (Enc.val (s.cnt en.time):Value) = .int .i64 (s.cnt en.time) from rfl,LD,K3]
 refine⟨fun c5=>fin (0,22) _ _ (by rw[if_neg (fun hh=>hh c0),if_neg (fun hh=>hh c1),if_neg (fun hh=>hh c2),if_neg c3,if_neg c4,if_pos c5]) h,fun c5=>?_⟩
 exact fin (s.next,0) _ _ (by rw[if_neg (fun hh=>hh c0),if_neg (fun hh=>hh c1),if_neg (fun hh=>hh c2),if_neg c3,if_neg c4,if_neg c5]) h
theorem Oy0{m c:Nat}{l:List (Ent Int Int)}(hw:WfE l c){fv:Value}(q:Int→Bool)(hf:∀B':Base,(∀{d:Dat},d B→d B')→∀e∈l,Gives prog B' (aA fv #[Enc.val e.1,Enc.val e.2.1]) (.bool (q e.1))) :
  Does prog B (B_ m l c) (Z0 AB #[vP m,fv]) fun v e' τ=>v = .tuple #[]∧e'=B_ m (l.filter fun e=>!q e.1) c∧τ=[]:=by
 refine Does.intro fun B' w K base h k=>?_
 refine fA.up ?_
 unfold fA.pt
 refine h.range 0 rfl qF fun it w1 h=>?_
 have e0:(l.filter fun e=>!((#[]:Array Nat).contains e.2.2&&q e.1))=l:=List.filter_eq_self.2 fun e _=>by simp
 refine M6 (fun _ w'=>∃seen:Array Nat,Rel B' w' [B_ m (l.filter fun e=>!(seen.contains e.2.2&&q e.1)) c,vX it m c seen c]) (fun _ w'=>tJ l (sN w' it)) ⟨#[],by rw[e0];exact h⟩ ?_
 clear h
 rintro x w2 ⟨seen,h⟩ next hnext
 have hms:=NN h (j:=1) rfl
 have hwf:=hw.filter fun e=>!(seen.contains e.2.2&&q e.1)
 refine h.next 0 1 it rfl rfl hwf.below (fun w3 hall h=>?_) (fun e w3 he hns h=>?_)
 ·rw[show (R5 (.tuple #[.bool false]) 0)=(R5 (.tuple #[.bool false]) 0) from rfl,V4 (v := .bool false) (fun w=>rfl),t_]
  have e1:(l.filter fun e=>!(seen.contains e.2.2&&q e.1))=l.filter fun e=>!q e.1:=by
   refine List.filter_congr fun e he=>?_
   cases hb:!(seen.contains e.2.2&&q e.1) with
   | true =>
    have:=hall e (List.mem_filter.2 ⟨he,hb⟩)
    rw[this] at hb
    simpa using hb.symm
   | false =>
    simp at hb
    rw[hb.2];rfl
  rw[e1] at h
  exact k _ _ [] _ ⟨rfl,rfl,rfl⟩ (h.take 1)
 ·have hel:e∈l:=(List.mem_filter.1 he).1
  rw[PV,VC]
  refine h.entry 0 1 it rfl rfl he hwf.stamps fun w4 h=>?_
  rw[h_,Y9]
  refine h.ask (fun B2 own base2=>hf B2 (fun hd=>base2 (base hd)) e hel) fun w6 h=>?_
  have step:∀x∈l,x≠e→(seen.push e.2.2).contains x.2.2=seen.contains x.2.2:=fun x hx hne=>by
   rw[contains_push,decide_eq_false fun hh=>hne (hw.bX hx hel hh),Bool.or_false]
  have hself:(seen.push e.2.2).contains e.2.2=true:=by simp [contains_push]
  rw[Q5]
  refine⟨fun hp=>?_,fun hp=>?_⟩
  ·refine h.delete 0 rfl qF Bl0 e.1 fun w7 h=>?_
   have e2:Jt0 e.1 (l.filter fun e=>!(seen.contains e.2.2&&q e.1))=l.filter fun x=>!((seen.push e.2.2).contains x.2.2&&q x.1):=by
    rw[zw0 hwf.keys,List.filter_filter]
    refine List.filter_congr fun x hx=>?_
    by_cases hxe:x=e
    ·subst hxe;rw[hself,hp];simp
    ·rw[step x hx hxe,decide_eq_true (p:=x.1≠e.1) (fun hh=>hxe (hw.kl0 hx hel hh)),Bool.true_and]
   rw[e2] at h
   refine hnext _ _ ⟨_,h⟩ ?_
   show tJ l (sN w7 it)<tJ l (sN w2 it)
   rw[hms,NN h (j:=1) rfl]
   exact KQ hel hns
  ·have e2:(l.filter fun e=>!(seen.contains e.2.2&&q e.1))=l.filter fun x=>!((seen.push e.2.2).contains x.2.2&&q x.1):=by
    refine List.filter_congr fun x hx=>?_
    by_cases hxe:x=e
    ·subst hxe;rw[hself,hp];simp
    ·rw[step x hx hxe]
   rw[e2] at h
   refine hnext _ _ ⟨_,h⟩ ?_
   show tJ l (sN w6 it)<tJ l (sN w2 it)
   rw[hms,NN h (j:=1) rfl]
   exact KQ hel hns
theorem gF0{b:Nat}{c t n:Int}(hc:O1 b Q0 #[.int .i64 c] B):Gives prog B (aA (.func (.func rC) #[] #[.pointer (some ⟨b,0,none⟩)]) #[.int .i64 t,.int .i64 n]) (.bool (decide (t≤c))):=by
 refine Gives.intro fun B' w K base h k=>?_
 replace hc:=base hc
 refine dH ?_
 refine r_.up (time0 := .int .i64 t) (t1 := .int .i64 n) (t2 := .pointer (some ⟨b,0,none⟩)) (r_.call ?_)
 unfold r_.pt
 simp -zeta only[O1.ld (h.K6 hc) F3 (o:=0) rfl,gD]
 exact k _ _ h
theorem fM.raise{cnt:Int→Int}{l:List (Ent Int Int)}{c:Nat}(h:fM cnt l c)(z:Int):fM (fun x=>if x≤z then 0 else cnt x) (l.filter fun e=>!decide (e.1≤z)) c:=by
 refine⟨h.wf.filter _,fun t=>?_⟩
 rw[li0 h.wf (fun x=>!decide (x≤z)) t,h.get]
 by_cases ht:t≤z
 ·simp [ht]
 ·simp [ht]
theorem vx0{kv pv:SV}{m c:Nat}{l:List (Ent Int Int)}{K:PtK}{D1 D2:Dat}(hc:fM s.cnt l c)(hg:nG s.cfg)(ht0 : -1≤s.top∧s.top≤1099511627776){t:Int}(ht:dM t)
  (h:Rel B w [O1 p X3 (ics s kv pv m),B_ m l c,D1,D2])
  (k:∀w' l',fM (je0 s t).cnt l' c→Rel B w' [O1 p X3 (ics (je0 s t) kv pv m),B_ m l' c,D1,D2]→K (.tuple #[]) w'):upK prog (Z0 ZF #[jj0 p,.int .i64 t]) w K:=by
 obtain⟨ht1,ht2⟩:=ht
 refine NH.up ?_
 unfold NH.pt
 simp -zeta only[y5,U0 yO,Nat.zero_add,h.ld 0 rfl F3 (o:=8) rfl,kL]
 refine h.st 0 rfl F3 (show 8<13 by omega) rfl fun w1 h=>?_
 have h:Rel B w1 [O1 p X3 (ics { s with top:=max s.top t } kv pv m),B_ m l c,D1,D2]:=h
 refine h.ask (fun B2 own base2=>Cd0 (s:={ s with top:=max s.top t }) (own (i:=0) rfl) hg (by show -1≤max s.top t∧max s.top t≤1099511627776;omega)) fun w2 h=>?_
 refine h.alloc Ss0 fun b w3 h=>?_
 refine h.st 4 rfl F3 (show 0<1 by omega) rfl fun w4 h=>?_
 have h:Rel B w4 [O1 p X3 (ics { s with top:=max s.top t } kv pv m),B_ m l c,D1,D2,O1 b Q0 #[.int .i64 (X9 { s with top:=max s.top t })]]:=h
 simp -zeta only[U0 YJ,Nat.zero_add,h.ld 0 rfl bA (o:=12) rfl,OG]
 refine h.act 1 rfl (fun B2 own base2=>Oy0 hc.wf (fun x=>decide (x≤X9 { s with top:=max s.top t })) fun B3 base3 e _=>gF0 (base3 (own (j:=4) (by decide) rfl))) fun v e' τ w5 hp h=>?_
 obtain⟨rfl,rfl,rfl⟩:=hp
 exact k _ _ (hc.raise _) ((h.take 4))
end
def xR(s:IS)(e:EnD)(r:List KD):(Int×Int)×IS :=
 let x:=jW s e r
 if x.2≠0 then(x,if x.2≠5 then { s with refused:=s.refused+1 } else s)
 else(x,je0 { s with prods:=kW s.prods e.producer e.epoch e.seq x.1,next:=s.next+1,cnt:=fun t=>if t=e.time then s.cnt e.time+1 else s.cnt t } e.time)
def WB(s:IS)(e:EnD)(r:List KD):(Int×Int)×IS :=
 if e.kind=0 then xR s e r
 else if e.kind=1 then(((oI s.prods e.producer).2.1,(oI s.prods e.producer).2.2),if(oI s.prods e.producer).2.2=0 then { s with prods:=(oI s.prods e.producer).1 } else s)
 else if e.kind=2∨e.kind=3 then
  if ¬dM e.time then((0,3),s) else if e.kind=3 then((0,0),{ s with now:=max s.now e.time }) else if s.now+s.cfg.ahead<e.time then((0,21),s) else((0,0),je0 s e.time)
 else((0,1),s)
theorem Qb0{s:IS}{e:EnD}{r:List KD}(h:(jW s e r).2=0):(EN s.prods e.producer e.epoch e.seq).2=0∧dM e.time∧eZ s.known e.source e.schema r=0∧X9 s<e.time∧e.time≤s.now+s.cfg.ahead∧s.cnt e.time<s.cfg.rate∧(jW s e r).1=s.next:=by
 unfold jW at h ⊢
 by_cases c0:(EN s.prods e.producer e.epoch e.seq).2≠0
 ·rw[if_pos c0] at h;exact absurd h c0
 rw[if_neg c0] at h ⊢
 by_cases c1:¬dM e.time
 ·rw[if_pos c1] at h;cases h
 rw[if_neg c1] at h ⊢
 by_cases c2:eZ s.known e.source e.schema r≠0
 ·rw[if_pos c2] at h;exact absurd h c2
 rw[if_neg c2] at h ⊢
 by_cases c3:e.time≤X9 s
 ·rw[if_pos c3] at h;cases h
 rw[if_neg c3] at h ⊢
 by_cases c4:s.now+s.cfg.ahead<e.time
 ·rw[if_pos c4] at h;cases h
 rw[if_neg c4] at h ⊢
 by_cases c5:s.cfg.rate≤s.cnt e.time
 ·rw[if_pos c5] at h;cases h
 rw[if_neg c5]
 exact⟨Decidable.of_not_not c0,Decidable.of_not_not c1,Decidable.of_not_not c2,by omega,by omega,by omega,rfl⟩
theorem lj0{s:IS}{t:Int}(h:fO s)(ht:dM t):fO (je0 s t):=by
 obtain⟨h1,h2⟩:=ht
 have h3:=h.top
 refine⟨h.cfg,h.prods,h.now,⟨by show -1≤max s.top t;omega,by show max s.top t≤_;omega⟩,h.next,h.refused,fun x=>?_⟩
 show 0≤(if _ then(0:Int) else _)∧(if _ then(0:Int) else _)≤_
 have:=h.cfg.rate
 split
 ·exact⟨Int.le_refl 0,by show (0:Int)≤s.cfg.rate;omega⟩
 ·exact h.cnt x
theorem rZ{s:IS}(h:fO s)(e:EnD)(r:List KD)(h1:s.next<1000000000)(h2:s.refused<1000000000) :
  fO (WB s e r).2∧(WB s e r).2.cfg=s.cfg∧(WB s e r).2.known=s.known∧(WB s e r).2.next≤s.next+1∧(WB s e r).2.refused≤s.refused+1:=by
 unfold WB
 have hn:=h.next
 have hf:=h.refused
 have keep:fO s∧s.cfg=s.cfg∧s.known=s.known∧s.next≤s.next+1∧s.refused≤s.refused+1:=⟨h,rfl,rfl,by omega,by omega⟩
 by_cases c0:e.kind=0
 ·rw[if_pos c0]
  unfold xR
  simp only
  by_cases c:(jW s e r).2≠0
  ·rw[if_pos c]
   simp only
   split
   ·exact⟨⟨h.cfg,h.prods,h.now,h.top,h.next,⟨by show 0≤s.refused+1;omega,by show s.refused+1≤_;omega⟩,h.cnt⟩,rfl,rfl,by show s.next≤_;omega,Int.le_refl _⟩
   ·exact keep
  ·rw[if_neg c]
   obtain⟨p1,p2,p3,p4,p5,p6,p7⟩:=Qb0 (Decidable.of_not_not c)
   refine⟨lj0 ⟨h.cfg,fm0 h.prods _ _ _ _,h.now,h.top,⟨by show 0≤s.next+1;omega,by show s.next+1≤_;omega⟩,h.refused,fun t=>?_⟩ p2,rfl,rfl,Int.le_refl _,by show s.refused≤_;omega⟩
   show 0≤(if t=e.time then s.cnt e.time+1 else s.cnt t)∧(if t=e.time then s.cnt e.time+1 else s.cnt t)≤s.cfg.rate
   have:=h.cnt e.time
   split
   ·omega
   ·exact h.cnt t
 rw[if_neg c0]
 by_cases c1:e.kind=1
 ·rw[if_pos c1]
  simp only
  split
  ·rename_i hz
   exact⟨⟨h.cfg,qf0 h.prods hz,h.now,h.top,h.next,h.refused,h.cnt⟩,rfl,rfl,by show s.next≤_;omega,by show s.refused≤_;omega⟩
  ·exact keep
 rw[if_neg c1]
 split
 ·split
  ·exact keep
  ·rename_i ht
   have ht:=Decidable.of_not_not ht
   have h3:=h.now
   split
   ·exact⟨⟨h.cfg,h.prods,⟨by show 0≤max s.now e.time;omega,by show max s.now e.time≤_;have:=ht.2;omega⟩,h.top,h.next,h.refused,h.cnt⟩,rfl,rfl,by show s.next≤_;omega,by show s.refused≤_;omega⟩
   ·split
    ·exact keep
    ·exact⟨lj0 h ht,rfl,rfl,by show s.next≤_;omega,by show s.refused≤_;omega⟩
 ·exact keep
section
variable {B:Base} {w:World} {p:Nat} {s:IS} {σ:List Dat}
theorem intD.BQ(h:Rel B w (σ++[intD p s])):∃kv pv m l c,fM s.cnt l c∧Rel B w (σ++[O1 p X3 (ics s kv pv m),B_ m l c,iF kv.1 s.known,LP pv.1 s.prods]):=by
 obtain⟨x,h⟩:=h.ex (i:=σ.length) AO
 rw[List.set_append_right _ _ (Nat.le_refl _),Nat.sub_self,List.set_cons_zero] at h
 obtain⟨h1,h⟩:=h.iW (i:=σ.length) AO
 rw[List.set_append_right _ _ (Nat.le_refl _),Nat.sub_self,List.set_cons_zero] at h
 have h:=Rel.dS (L:=yu0 p s x) h
 exact⟨_,_,_,_,_,h1,h⟩
theorem intD.QJ{kv pv:SV}{m c:Nat}{l:List (Ent Int Int)}(hc:fM s.cnt l c)(h:Rel B w (σ++[O1 p X3 (ics s kv pv m),B_ m l c,iF kv.1 s.known,LP pv.1 s.prods])):Rel B w (σ++[intD p s]):=by
 have h:=Rel.VM h
 have h:=h.imp (i:=σ.length) (e:=intD p s) AO fun B hB=>⟨((kv,pv),(m,l,c)),hc,hB⟩
 rw[List.set_append_right _ _ (Nat.le_refl _),Nat.sub_self,List.set_cons_zero] at h
 exact h
theorem fM.kO0{cnt:Int→Int}{l:List (Ent Int Int)}{c:Nat}(h:fM cnt l c)(h0:∀t,0≤cnt t)(t:Int):fM (fun x=>if x=t then cnt t+1 else cnt x) (VN t (cnt t+1) l c).1 (VN t (cnt t+1) l c).2:=by
 refine⟨h.wf.set _ _,fun x=>?_⟩
 rw[tV h.wf.keys]
 by_cases hx:x=t
 ·subst hx
  have:=h0 x
  rw[if_pos rfl,if_pos rfl,if_neg (by omega)]
 ·rw[if_neg hx,if_neg hx,h.get]
def nK0(p:Nat)(x:(Int×Int)×IS):Value→Dat→List Dat→Prop:=fun v e' τ=>v = .tuple #[.int .i64 x.1.1,.int .i64 x.1.2]∧e'=intD p x.2∧τ=[]
theorem LP.oneCell{u:Value}{t:List Pr}(h:LP u t B):u.oneCell'=true:=by
 obtain⟨L,_,r,_⟩:=h
 exact Q4.oneCell r
set_option maxHeartbeats 1000000 in
theorem ZB0(hg:fO s)(h1:s.next<1000000000)(h2:s.refused<1000000000){en:EnD}{r:List KD}(hr:Q4 en.row.1 r B)(hrl:r.length≤4611686018427387904)(hkl:s.known.length≤4611686018427387904) :
  Does prog B (intD p s) (Z0 SI #[jj0 p,en.v]) (nK0 p (xR s en r)):=by
 refine Does.intro fun B' w K base h k=>?_
 replace hr:=base hr
 refine LG.up ?_
 unfold LG.pt
 have fin:∀(x:(Int×Int)×IS) w' τ,xR s en r=x→Rel B' w' ([intD p x.2]++τ)→K (.tuple #[.int .i64 x.1.1,.int .i64 x.1.2]) w':=fun x w' τ e h=>k _ _ [] w' ⟨by rw[e],by rw[e],rfl⟩ h.drop
 clear k
 unfold xR at fin
 simp only at fin
 refine h.box fun o w1 h=>?_
 have h:Rel B' w1 [intD p s,O1 o Y1 en.cs.toArray]:=h
 rw[h.Q9 1 rfl P8 rfl]
 refine h.ask (fun B2 own base2=>oM0 (own (i:=0) rfl) hg (base2 hr) hrl hkl) fun w2 h=>?_
 simp -zeta only[h_,Y9,X7,K5,K3]
 have hn:=hg.next
 have hf:=hg.refused
 refine⟨fun c=>?_,fun c=>?_⟩
 ·rw[if_neg (fun hh=>hh c)] at fin
  obtain⟨p1,p2,p3,p4,p5,p6,p7⟩:=Qb0 c
  have h:=h.tick
  have h:=h.pick [1,0] (by decide)
  have h:Rel B' (tick w2) ([O1 o Y1 en.cs.toArray]++[intD p s]):=h
  obtain⟨kv,pv,m,l,cc,hk,h⟩:=intD.BQ h
  have h:Rel B' (tick w2) [O1 o Y1 en.cs.toArray,O1 p X3 (ics s kv pv m),B_ m l cc,iF kv.1 s.known,LP pv.1 s.prods]:=h
  simp -zeta only[y5,U0 XJ,Nat.zero_add,h.ld 1 rfl jA (o:=11) rfl,h.Q9 0 rfl P8 rfl]
  refine h.make (post:=fun u τ=>uU u (kW s.prods en.producer en.epoch en.seq (jW s en r).1) τ) (fun B2 own base2=>?_) fun u τ w5 hp h=>?_
  ·obtain⟨L,hL,rt,qt⟩:LP pv.1 s.prods B2:=own (i:=4) rfl
   have:=cN0 rt qt (by rw[hL];exact hg.prods) en (jW s en r).1
   rw[hL] at this
   exact this
  have h:=hp _ _ _ h
  generalize jW s en r=x at *
  have h:Rel B' w5 [O1 o Y1 en.cs.toArray,O1 p X3 (ics s kv pv m),B_ m l cc,iF kv.1 s.known,LP pv.1 s.prods,LP u (kW s.prods en.producer en.epoch en.seq x.1)]:=h
  have hu:u.oneCell'=true:=LP.oneCell (h.here (i:=5) rfl)
  refine h.st 1 rfl jA (show 11<13 by omega) hu fun w6 h=>?_
  have h:=h.pick [0,1,2,3,5] (by decide)
  have h:Rel B' w6 [O1 o Y1 en.cs.toArray,O1 p X3 (ics { s with prods:=kW s.prods en.producer en.epoch en.seq x.1 } kv ⟨u,hu⟩ m),B_ m l cc,iF kv.1 s.known,LP u (kW s.prods en.producer en.epoch en.seq x.1)]:=h
  simp -zeta only[U0 WJ,Nat.zero_add,h.ld 1 rfl F3 (o:=9) rfl,V5]
  rw[D5 (n:=s.next+1) (by omega) (by omega)]
  refine h.st 1 rfl F3 (show 9<13 by omega) rfl fun w7 h=>?_
  have h:Rel B' w7 [O1 o Y1 en.cs.toArray,O1 p X3 (ics { s with prods:=kW s.prods en.producer en.epoch en.seq x.1,next:=s.next+1 } kv ⟨u,hu⟩ m),B_ m l cc,iF kv.1 s.known,LP u (kW s.prods en.producer en.epoch en.seq x.1)]:=h
  have h:=h.tick
  simp -zeta only[U0 YJ,U0 fH,Nat.zero_add,h.ld 1 rfl bA (o:=12) rfl,h.ld 0 rfl F3 (o:=6) rfl]
  have hcn:=hg.cnt en.time
  have hrt:=hg.cfg.rate
  rw[h.lookup 2 rfl qF Bl0 0 Ss0 en.time,hk.getD,show (Enc.val (s.cnt en.time):Value) = .int .i64 (s.cnt en.time) from rfl,V5,D5 (by omega) (by omega)]
  refine h.Si0 2 rfl qF Bl0 en.time (s.cnt en.time+1) fun w8 h=>?_
  have h:Rel B' w8 [O1 o Y1 en.cs.toArray,O1 p X3 (ics { s with prods:=kW s.prods en.producer en.epoch en.seq x.1,next:=s.next+1,cnt:=fun t=>if t=en.time then s.cnt en.time+1 else s.cnt t } kv ⟨u,hu⟩ m),B_ m (VN en.time (s.cnt en.time+1) l cc).1 (VN en.time (s.cnt en.time+1) l cc).2,iF kv.1 s.known,LP u (kW s.prods en.producer en.epoch en.seq x.1)]:=h
  simp -zeta only[h.ld 0 rfl F3 (o:=6) rfl]
  have h:=h.pick [1,2,3,4] (by decide)
  refine vx0 (s:={ s with prods:=kW s.prods en.producer en.epoch en.seq x.1,next:=s.next+1,cnt:=fun t=>if t=en.time then s.cnt en.time+1 else s.cnt t }) (hk.kO0 (fun t=>(hg.cnt t).1) en.time) hg.cfg hg.top p2 h fun w9 l' hk' h=>?_
  have h:=intD.QJ (σ:=[]) hk' h
  rw[←c]
  exact fin _ _ [] rfl h
 ·rw[if_pos c] at fin
  refine Q6 fun J hJ=>?_
  generalize jW s en r=x at *
  refine⟨fun c5=>?_,fun c5=>?_⟩
  ·rw[if_neg (fun hh=>hh c5)] at fin
   exact hJ _ _ (fin _ _ _ rfl h)
  ·rw[if_pos c5] at fin
   have h:=h.pick [1,0] (by decide)
   have h:Rel B' w2 ([O1 o Y1 en.cs.toArray]++[intD p s]):=h
   obtain⟨kv,pv,m,l,cc,hk,h⟩:=intD.BQ h
   have h:Rel B' w2 [O1 o Y1 en.cs.toArray,O1 p X3 (ics s kv pv m),B_ m l cc,iF kv.1 s.known,LP pv.1 s.prods]:=h
   simp -zeta only[y5,U0 ZT,Nat.zero_add,h.ld 1 rfl F3 (o:=10) rfl,V5]
   rw[D5 (by omega) (by omega)]
   refine h.st 1 rfl F3 (show 10<13 by omega) rfl fun w4 h=>?_
   have h:=h.pick [1,2,3,4] (by decide)
   have h:=intD.QJ (s:={ s with refused:=s.refused+1 }) (σ:=[]) hk h
   exact hJ _ _ (fin _ _ [] rfl h)
set_option maxHeartbeats 1000000 in
theorem Vv0(hg:fO s)(h1:s.next<1000000000)(h2:s.refused<1000000000){en:EnD}{r:List KD}(hr:Q4 en.row.1 r B)(hrl:r.length≤4611686018427387904)(hkl:s.known.length≤4611686018427387904) :
  Does prog B (intD p s) (Z0 XF #[jj0 p,en.v]) (nK0 p (WB s en r)):=by
 refine Does.intro fun B' w K base h k=>?_
 replace hr:=base hr
 refine LH.up ?_
 unfold LH.pt
 have fin:∀(x:(Int×Int)×IS) w' τ,WB s en r=x→Rel B' w' ([intD p x.2]++τ)→K (.tuple #[.int .i64 x.1.1,.int .i64 x.1.2]) w':=fun x w' τ e h=>k _ _ [] w' ⟨by rw[e],by rw[e],rfl⟩ h.drop
 clear k
 unfold WB at fin
 refine h.box fun o w1 h=>?_
 have h:Rel B' w1 [intD p s,O1 o Y1 en.cs.toArray]:=h
 simp -zeta only[U0 AU,Nat.add_zero,h.ld 1 rfl F3 (o:=0) rfl,O6,K3]
 refine⟨fun c0=>?_,fun c0=>?_⟩
 ·rw[if_pos c0] at fin
  rw[h.Q9 1 rfl P8 rfl]
  refine h.act 0 rfl (fun B2 own base2=>ZB0 hg h1 h2 (base2 hr) hrl hkl) fun v e' τ w2 hp h=>?_
  obtain⟨rfl,rfl,rfl⟩:=hp
  simp -zeta only[h_,Y9]
  exact fin _ _ _ rfl h
 rw[if_neg c0] at fin
 refine⟨fun c1=>?_,fun c1=>?_⟩
 ·rw[if_pos c1] at fin
  have h:=h.tick
  have h:=h.pick [1,0] (by decide)
  have h:Rel B' (tick w1) ([O1 o Y1 en.cs.toArray]++[intD p s]):=h
  obtain⟨kv,pv,m,l,cc,hk,h⟩:=intD.BQ h
  have h:Rel B' (tick w1) [O1 o Y1 en.cs.toArray,O1 p X3 (ics s kv pv m),B_ m l cc,iF kv.1 s.known,LP pv.1 s.prods]:=h
  simp -zeta only[y5,U0 XJ,U0 eH,Nat.zero_add,h.ld 1 rfl jA (o:=11) rfl,h.ld 0 rfl F3 (o:=1) rfl]
  refine h.make (post:=fun u τ=>∃tv,u = .tuple #[tv,.int .i64 (oI s.prods en.producer).2.1,.int .i64 (oI s.prods en.producer).2.2]∧uU tv (oI s.prods en.producer).1 τ) (fun B2 own base2=>?_) fun u τ w3 hp h=>?_
  ·obtain⟨L,hL,rt,qt⟩:LP pv.1 s.prods B2:=own (i:=4) rfl
   have:=NG0 rt qt (by rw[hL];exact hg.prods) en.producer
   rw[hL] at this
   exact this
  obtain⟨tv,rfl,hp⟩:=hp
  have h:=hp _ _ _ h
  generalize oI s.prods en.producer=f at *
  have h:Rel B' w3 [O1 o Y1 en.cs.toArray,O1 p X3 (ics s kv pv m),B_ m l cc,iF kv.1 s.known,LP pv.1 s.prods,LP tv f.1]:=h
  simp -zeta only[PV,Kg0,Lg0]
  refine Q6 fun J hJ=>?_
  simp -zeta only[O6,K3]
  refine⟨fun cz=>?_,fun cz=>?_⟩
  ·rw[if_pos cz] at fin
   have hu:tv.oneCell'=true:=LP.oneCell (h.here (i:=5) rfl)
   refine h.st 1 rfl jA (show 11<13 by omega) hu fun w5 h=>?_
   have h:=h.pick [1,2,3,5] (by decide)
   have h:=intD.QJ (s:={ s with prods:=f.1 }) (pv:=⟨tv,hu⟩) (σ:=[]) hk h
   exact hJ _ _ (fin _ _ [] rfl h)
  ·rw[if_neg cz] at fin
   have h:=h.pick [1,2,3,4] (by decide)
   have h:=intD.QJ (σ:=[]) hk h
   exact hJ _ _ (fin _ _ [] rfl h)
 rw[if_neg c1] at fin
 refine Q6 fun J hJ=>?_
 replace hJ:(∀b:Bool,b=decide (en.kind=2∨en.kind=3)→J (.bool b,()) w1):=by
  intro b hb
  refine hJ _ _ ?_
  clear hJ
  rw[Q5]
  refine⟨fun cb=>?_,fun cb=>?_⟩
  ·have hc:en.kind=2∨en.kind=3:=by rw[cb] at hb;exact of_decide_eq_true hb.symm
   rw[if_pos hc] at fin
   simp -zeta only[U0 fH,Nat.zero_add,h.ld 1 rfl F3 (o:=6) rfl]
   refine h.ask (fun B2 own base2=>Kq0 en.time) fun w7 h=>?_
   rw[V8,K5,K3]
   refine⟨fun ct=>?_,fun ct=>?_⟩
   ·rw[if_neg (fun hh=>hh ct)] at fin
    simp -zeta only[h.ld 1 rfl F3 (o:=0) rfl,O6,K3]
    have ht:=h.tick
    have ht:=ht.pick [1,0] (by decide)
    have ht:Rel B' (tick w7) ([O1 o Y1 en.cs.toArray]++[intD p s]):=ht
    obtain⟨kv,pv,m,l,cc,hk,ht⟩:=intD.BQ ht
    have ht:Rel B' (tick w7) [O1 o Y1 en.cs.toArray,O1 p X3 (ics s kv pv m),B_ m l cc,iF kv.1 s.known,LP pv.1 s.prods]:=ht
    have hnow:=hg.now
    have hah:=hg.cfg.ahead
    have hw:IntKind.i64.wrap (s.now+s.cfg.ahead)=s.now+s.cfg.ahead:=D5 (by omega) (by omega)
    refine⟨fun c3=>?_,fun c3=>?_⟩
    ·rw[if_pos c3] at fin
     simp -zeta only[y5,U0 VJ,Nat.zero_add,ht.ld 1 rfl F3 (o:=7) rfl,ht.ld 0 rfl F3 (o:=6) rfl,kL]
     refine ht.st 1 rfl F3 (show 7<13 by omega) rfl fun w8 h=>?_
     have h:=h.pick [1,2,3,4] (by decide)
     have h:=intD.QJ (s:={ s with now:=max s.now en.time }) (σ:=[]) hk h
     exact fin ((0,0),_) _ [] rfl h
    ·rw[if_neg c3] at fin
     simp -zeta only[y5,U0 VJ,U0 wO,U0 gT,Nat.zero_add,ht.ld 1 rfl F3 (o:=7) rfl,ht.ld 1 rfl F3 (o:=3) rfl,ht.ld 0 rfl F3 (o:=6) rfl,V5,hw,A_,K3]
     refine⟨fun c4=>?_,fun c4=>?_⟩
     ·rw[if_pos c4] at fin
      have ht:=ht.pick [1,2,3,4] (by decide)
      have ht:=intD.QJ (σ:=[]) hk ht
      exact fin ((0,21),_) _ [] rfl ht
     ·rw[if_neg c4] at fin
      have ht:=ht.pick [1,2,3,4] (by decide)
      refine vx0 hk hg.cfg hg.top ct ht fun w9 l' hk' h=>?_
      have h:=intD.QJ (σ:=[]) hk' h
      exact fin ((0,0),_) _ [] rfl h
   ·rw[if_pos ct] at fin
    exact fin ((0,3),_) _ _ rfl h
  ·have hc:¬(en.kind=2∨en.kind=3):=by rw[cb] at hb;exact of_decide_eq_false hb.symm
   rw[if_neg hc] at fin
   exact fin ((0,1),_) _ _ rfl h
 refine⟨fun c2=>hJ _ (by rw[decide_eq_true (show en.kind=2∨en.kind=3 from .inl c2),decide_eq_true c2]),fun c2=>?_⟩
 exact hJ _ (decide_eq_decide.2 ⟨fun hh => .inr hh,fun hh=>hh.elim (fun hh=>absurd hh c2) id⟩)
end
theorem nG.iff{c:CfD}:nG c↔(0≤c.late∧c.late≤10000)∧(0≤c.delay∧c.delay≤c.late)∧(0≤c.ahead∧c.ahead≤10000)∧(1≤c.rate∧c.rate≤20):=⟨fun h=>⟨h.late,h.delay,h.ahead,h.rate⟩,fun h=>⟨h.1,h.2.1,h.2.2.1,h.2.2.2⟩⟩
instance (c:CfD):Decidable (nG c):=decidable_of_iff _ nG.iff.symm
def bN0(d:Dat)(τ:List Dat):Prop:=∀(B:Base) (w:World) (σ:List Dat),Rel B w (σ++τ)→Rel B w (σ++[d])
theorem jM0{d:Dat}{τ:List Dat}(h:∀B,(yT τ) B→d B):bN0 d τ:=fun B w σ hr=>by
 have h1:=(Rel.VM hr).imp (i:=σ.length) (e:=d) AO h
 rw[List.set_append_right _ _ (Nat.le_refl _),Nat.sub_self,List.set_cons_zero] at h1
 exact h1
def lT(c:CfD)(ks:List Kn):IS:=⟨c,ks,0,-1,0,0,[],fun _=>0⟩
theorem oL0:fM (fun _=>0) ([]:List (Ent Int Int)) 0:=⟨WfE.nil,fun t=>rfl⟩
theorem ar0{c:CfD}(h:nG c)(ks:List Kn):fO (lT c ks):=⟨h,jm0,by simp [lT],by simp [lT],by simp [lT],by simp [lT],fun t=>⟨Int.le_refl 0,by have:=h.rate;show (0:Int)≤c.rate;omega⟩⟩
theorem DN0{K:Value→Prop}{c:CfD}{m:Nat}:M0 prog (G6 X3 #[(0,.agg c.cs.toArray),(3,.int .i64 (-1)),(7,vP m)]) K=K (.agg (ics (lT c []) sD sD m)):=V4 fun w=>by kernel_rfl
section
variable {B:Base} {w:World} {p:Nat} {s:IS}
theorem WX(n a b:Int):Gives prog B (Z0 vD #[.int .i64 n,.int .i64 a,.int .i64 b]) (.bool (decide (a≤n∧n≤b))):=by
 refine Gives.intro fun B' w K base h k=>?_
 refine vI.up ?_
 unfold vI.pt
 simp -zeta only[LD,gD,K3]
 refine⟨fun c=>?_,fun c=>?_⟩
 ·have e:decide (a≤n∧n≤b)=decide (n≤b):=decide_eq_decide.2 ⟨fun hh=>hh.2,fun hh=>⟨c,hh⟩⟩
  rw[e] at k
  exact k _ _ h
 ·rw[decide_eq_false (fun hh:a≤n∧n≤b=>c hh.1)] at k
  exact k _ _ h
theorem AC0(c:CfD):Gives prog B (Z0 vS #[.agg c.cs.toArray]) (.bool (decide (nG c))):=by
 refine Gives.intro fun B' w K base h k=>?_
 refine ER.up ?_
 unfold ER.pt
 have no:∀w' τ,Rel B' w' τ→¬nG c→K (.bool false) w':=fun w' τ h hn=>by rw[decide_eq_false hn] at k;exact k _ _ h
 refine h.box fun o w1 h=>?_
 have h:Rel B' w1 [O1 o E5 c.cs.toArray]:=h
 simp -zeta only[U0 fT,Nat.add_zero,Nat.zero_add,h.ld 0 rfl F3 (o:=2) rfl]
 refine h.ask (fun B2 own base2=>WX _ _ _) fun w2 h=>?_
 rw[K3]
 refine⟨fun c1=>?_,fun c1=>no _ _ h fun hh=>c1 hh.late⟩
 simp -zeta only[U0 ei0,U0 fT,Nat.add_zero,Nat.zero_add,h.ld 0 rfl F3 (o:=1) rfl,h.ld 0 rfl F3 (o:=2) rfl]
 refine h.ask (fun B2 own base2=>WX _ _ _) fun w3 h=>?_
 rw[K3]
 refine⟨fun c2=>?_,fun c2=>no _ _ h fun hh=>c2 hh.delay⟩
 simp -zeta only[U0 gT,Nat.add_zero,Nat.zero_add,h.ld 0 rfl F3 (o:=3) rfl]
 refine h.ask (fun B2 own base2=>WX _ _ _) fun w4 h=>?_
 rw[K3]
 refine⟨fun c3=>?_,fun c3=>no _ _ h fun hh=>c3 hh.ahead⟩
 simp -zeta only[U0 eX,Nat.add_zero,Nat.zero_add,h.ld 0 rfl F3 (o:=4) rfl]
 refine h.ask (fun B2 own base2=>WX _ _ _) fun w5 h=>?_
 have e:decide (nG c)=decide (1≤c.rate∧c.rate≤20):=decide_eq_decide.2 ⟨fun hh=>hh.rate,fun hh=>⟨c1,c2,c3,hh⟩⟩
 rw[e] at k
 exact k _ _ h
structure CK0 (ks:List Kn):Prop where
 len:ks.length≤1000000
 cols:∀x∈ks,x.cols.length≤1000000
theorem GK0{kv pv:SV}{m:Nat}{v:Value}{ks:List Kn}(hk:iF v ks B)(hf:CK0 ks) :
  Does prog B (O1 p X3 (ics s kv pv m)) (Z0 zK #[jj0 p,v]) fun x e' τ=>x = .tuple #[]∧∃u:SV,e'=O1 p X3 (ics s u pv m)∧bN0 (iF u.1 ks) τ:=by
 refine Does.intro fun B' w K base h k=>?_
 obtain⟨L,hL,rk,rc⟩:=base hk
 have hal:∀L:KnL,(ML L).length=L.length:=fun L=>List.length_map ..
 have hLl:L.length≤1000000:=by have:=hf.len;rw[←hL,List.length_map] at this;exact this
 refine lJ.up ?_
 unfold lJ.pt
 simp -zeta only[y5,U0 xO,Nat.zero_add]
 refine h.st 0 rfl wI (show 6<13 by omega) rfl fun w1 h=>?_
 have h:Rel B' w1 [O1 p X3 (ics s sD pv m)]:=h
 simp -zeta only[Q4.len rk jE]
 rw[hal]
 have h:=h.oG KnD Y7
 have h:Rel B' w1 [O1 p X3 (ics s sD pv m),V3 Y7 sD.1 (ML [])]:=h
 have h:=(jM0 (d:=db0 []) (τ:=[]) fun B _ x hx=>(by cases hx)) B' w1 [O1 p X3 (ics s sD pv m),V3 Y7 sD.1 (ML [])] (by simpa using h)
 refine M6 (fun x w'=>∃(i:Nat) (L':KnL) (u:SV),i≤L.length∧L'.length=i∧L'.map (·.1)=ks.take i∧x=(.int .i64 i,())∧Rel B' w' [O1 p X3 (ics s u pv m),V3 Y7 u.1 (ML L'),db0 L']) (fun x _=>L.length-(match x.1 with | .int _ n=>n.toNat | _=>0))
  ⟨0,[],sD,Nat.zero_le _,rfl,rfl,rfl,h⟩ ?_
 clear h
 rintro x w2 ⟨i,L',u,hi,hl',hp,rfl,h⟩ next hnext
 simp -zeta only[D6,K3]
 refine⟨fun hlt=>?_,fun hge=>?_⟩
 ·have hil:i<L.length:=by omega
  have hel:(ML L)[i]'(by rw[hal];exact hil)=L[i].1.raw L[i].2:=by simp [ML]
  obtain⟨g,o,hx,hc⟩:=Q4.idx rk jE (P:=prog) (i:=i) (by rw[hal];exact hil)
  rw[hel] at hc
  have hc:F6 g o (L[i].1.raw L[i].2).cs B':=hc
  have hcol:Q4 L[i].2.1 L[i].1.cols B':=rc L[i] (List.getElem_mem hil)
  have hcl:L[i].1.cols.length≤1000000:=hf.cols _ (by rw[←hL];exact List.mem_map_of_mem (List.getElem_mem hil))
  rw[hx,F6.Q9 (h.K6 hc) yR rfl]
  refine h.r9 (ds:=(L[i].1.raw L[i].2).cs.toArray) Os0 rfl yR rfl (fun v hv=>Enc.one (L[i].1.raw L[i].2) v hv) fun a w3 h=>?_
  have h:Rel B' w3 [O1 p X3 (ics s u pv m),V3 Y7 u.1 (ML L'),db0 L',O1 a Y7 (L[i].1.raw L[i].2).cs.toArray]:=h
  simp -zeta only[U0 VY,Nat.zero_add,h.ld 3 rfl oW (o:=2) rfl]
  refine h.make (fun B2 own base2=>aP (base2 hcol) (by omega) (by omega)) fun v' τ w4 hp2 h=>?_
  subst hp2
  have h1:v'.oneCell'=true:=h.oneCell (i:=4) rfl
  obtain⟨sv,rfl⟩:∃sv:SV,sv.1=v':=⟨⟨v',h1⟩,rfl⟩
  refine h.st 3 rfl oW (show 2<3 by omega) h1 fun w5 h=>?_
  have h:Rel B' w5 [O1 p X3 (ics s u pv m),V3 Y7 u.1 (ML L'),db0 L',O1 a Y7 (L[i].1.raw sv).cs.toArray,V3 cB sv.1 L[i].1.cols]:=h
  have h:=h.tick
  simp -zeta only[y5,U0 xO,Nat.zero_add,h.ld 0 rfl wI (o:=6) rfl,h.Q9 3 rfl yR rfl]
  refine h.bH (L[i].1.raw sv) jE (by decide) fun u2 w6 h=>?_
  refine⟨h.is 0 rfl wI (o:=6) rfl,?_⟩
  have hl2:(ML L').length=i:=by rw[hal,hl']
  refine h.append 1 rfl jE (Rd.at (l:=[L[i].1.raw sv]) 5 rfl) (by rw[hl2,List.length_singleton];omega) (by rw[hl2,List.length_singleton];omega) fun u3 w7 h=>?_
  have h3:u3.oneCell'=true:=h.oneCell (i:=1) rfl
  refine h.st 0 rfl wI (show 6<13 by omega) h3 fun w8 h=>?_
  have h:=h.pick [0,1,2,4] (by decide)
  have h:Rel B' w8 ([O1 p X3 (ics s ⟨u3,h3⟩ pv m),V3 Y7 u3 (ML L'++[L[i].1.raw sv])]++[db0 L',V3 cB sv.1 L[i].1.cols]):=h
  have h:=(jM0 (d:=db0 (L'++[(L[i].1,sv)])) (τ:=[db0 L',V3 cB sv.1 L[i].1.cols]) fun B hB=>Dat.all_append (Dat.star.left hB) (fun x hx=>by
   rw[List.mem_singleton] at hx
   subst hx
   exact V3.read (Dat.star.left (Dat.star.right hB)))) _ _ _ h
  rw[show ML L'++[L[i].1.raw sv]=ML (L'++[(L[i].1,sv)]) by simp [ML]] at h
  rw[V5,D5 (by omega) (by omega)]
  refine hnext _ _ ⟨i+1,L'++[(L[i].1,sv)],⟨u3,h3⟩,hil,by simp [hl'],?_,rfl,h⟩ (by simp only;omega)
  rw[List.map_append,hp,←hL,List.take_succ_eq_append_getElem (by simpa using hil)]
  simp
 ·have hie:i=L.length:=by omega
  subst hie
  rw[List.take_of_length_le (by rw[←hL,List.length_map];exact Nat.le_refl _)] at hp
  exact k _ _ _ _ ⟨rfl,u,rfl,jM0 (τ:=[V3 Y7 u.1 (ML L'),db0 L']) fun B hB=>⟨L',hp,V3.read (Dat.star.left hB),Dat.star.left (Dat.star.right hB)⟩⟩ h
theorem VM0(c:CfD){v:Value}{ks:List Kn}(hk:iF v ks B)(hf:CK0 ks) :
  Makes prog B (Z0 zV #[.agg c.cs.toArray,v]) fun u τ=>(nG c∧∃p,u=jj0 p∧τ=[intD p (lT c ks)])∨(¬nG c∧u = .pointer none∧τ=[]):=by
 refine Makes.intro fun B' w K base h k=>?_
 replace hk:=base hk
 refine XV.up ?_
 unfold XV.pt
 refine h.box fun o w1 h=>?_
 have h:Rel B' w1 [O1 o E5 c.cs.toArray]:=h
 rw[h.Q9 0 rfl EJ rfl]
 refine h.ask (fun B2 own base2=>AC0 c) fun w2 h=>?_
 rw[V8,K5,K3]
 refine⟨fun c1=>?_,fun c1=>k _ _ _ (.inr ⟨c1,rfl,rfl⟩) h.nil⟩
 rw[h.Q9 0 rfl EJ rfl]
 refine h.mkMap Int Int fun m w3 h=>?_
 rw[DN0]
 refine h.box fun p w4 h=>?_
 have h:Rel B' w4 [O1 o E5 c.cs.toArray,B_ m ([]:List (Ent Int Int)) 0,O1 p X3 (ics (lT c ks) sD sD m)]:=h
 refine h.act 2 rfl (fun B2 own base2=>GK0 (base2 hk) hf) fun x e' τ w5 hp h=>?_
 obtain⟨rfl,u,rfl,hp⟩:=hp
 have h:=hp _ _ [O1 o E5 c.cs.toArray,B_ m ([]:List (Ent Int Int)) 0,O1 p X3 (ics (lT c ks) u sD m)] h
 have h:=bj0 [] _ _ _ (by rw[List.append_nil];exact h)
 have h:=h.pick [2,1,3,4] (by decide)
 have h:Rel B' w5 [O1 p X3 (ics (lT c ks) u sD m),B_ m ([]:List (Ent Int Int)) 0,iF u.1 (lT c ks).known,LP sD.1 (lT c ks).prods]:=h
 exact k _ _ _ (.inl ⟨c1,p,rfl,rfl⟩) (intD.close oL0 h)
def gO0(q t:Int)(rv:SV):EnD:=⟨0,7,0,q,⟨#[115]⟩,1,t,rv⟩
def sO0(n:Int):List KD:=[⟨0,n,⟨#[]⟩⟩]
end
section
variable {B:Base} {w:World} {p:Nat} {s:IS}
def st1(s:IS)(q t n:Int):IS:=(WB s (gO0 q t sD) (sO0 n)).2
end
structure Fm0 (s:IS) (times:List Int):Prop where
 cnt:∀t,s.cnt t=if X9 s<t then(times.count t:Int) else 0
 top:∀t∈times,t≤s.top
 rate:∀t,(times.count t:Int)≤s.cfg.rate
theorem DH0{c:CfD}(h:nG c)(ks:List Kn):Fm0 (lT c ks) []:=⟨fun t=>by
 show (0:Int)=if X9 (lT c ks)<t then((0:Nat):Int) else 0
 split<;>rfl,fun t ht=>(by cases ht),fun t=>by have:=h.rate;show (0:Int)≤c.rate;omega⟩
theorem kz0{s:IS}{times:List Int}(h:Fm0 s times)(t:Int):Fm0 (je0 s t) times:=by
 refine⟨fun x=>?_,fun x hx=>?_,h.rate⟩
 ·show (if x≤X9 { s with top:=max s.top t } then 0 else s.cnt x)=if X9 { s with top:=max s.top t }<x then(times.count x:Int) else 0
  have hc:X9 s≤X9 { s with top:=max s.top t }:=by
   show max (-1) (s.top-s.cfg.late-1)≤max (-1) (max s.top t-s.cfg.late-1)
   omega
  by_cases hx:x≤X9 { s with top:=max s.top t }
  ·rw[if_pos hx,if_neg (by omega)]
  ·rw[if_neg hx,if_pos (by omega),h.cnt,if_pos (by omega)]
 ·have:=h.top x hx
  show x≤max s.top t
  omega
theorem Jp0{s s':IS}(hc:s'.cfg=s.cfg)(ht:s.top≤s'.top):X9 s≤X9 s'∧tE0 s≤tE0 s':=by
 unfold X9 tE0
 rw[hc]
 omega
structure VN0 (s:IS) (e:EnD) (times:List Int) (x:(Int×Int)×IS):Prop where
 top:s.top≤x.2.top
 yes:e.kind=0→x.1.2=0→X9 s<e.time∧e.time≤x.2.now+s.cfg.ahead∧Fm0 x.2 (times++[e.time])
 no:¬(e.kind=0∧x.1.2=0)→Fm0 x.2 times
theorem Ye0{s:IS}{times:List Int}(hi:Fm0 s times)(e:EnD)(r:List KD):VN0 s e times (WB s e r):=by
 unfold WB
 by_cases c0:e.kind=0
 ·rw[if_pos c0]
  unfold xR
  simp only
  by_cases c:(jW s e r).2≠0
  ·rw[if_pos c]
   split
   ·exact⟨Int.le_refl _,fun _ h2=>absurd h2 c,fun _=>⟨hi.cnt,hi.top,hi.rate⟩⟩
   ·exact⟨Int.le_refl _,fun _ h2=>absurd h2 c,fun _=>hi⟩
  ·rw[if_neg c]
   have c:=Decidable.of_not_not c
   obtain⟨_,_,_,p4,p5,p6,_⟩:=Qb0 c
   refine⟨?_,fun _ _=>⟨p4,p5,?_⟩,fun hn=>absurd ⟨c0,c⟩ hn⟩
   ·show s.top≤max s.top e.time
    omega
   ·have hcnt:∀t,((times++[e.time]).count t:Int)=(times.count t:Int)+if t=e.time then 1 else 0:=fun t=>by
     rw[List.count_append,List.count_singleton]
     by_cases ht:t=e.time
     ·subst ht;simp
     ·have:(e.time == t)=false:=by simpa using fun hh:e.time=t=>ht hh.symm
      rw[this,if_neg ht];simp
    have he:=hi.cnt e.time
    rw[if_pos p4] at he
    refine⟨fun x=>?_,fun x hx=>?_,fun t=>?_⟩
    ·show (if x≤X9 { s with top:=max s.top e.time } then 0 else if x=e.time then s.cnt e.time+1 else s.cnt x)=if X9 { s with top:=max s.top e.time }<x then((times++[e.time]).count x:Int) else 0
     have hc:X9 s≤X9 { s with top:=max s.top e.time }:=by
      show max (-1) (s.top-s.cfg.late-1)≤max (-1) (max s.top e.time-s.cfg.late-1)
      omega
     by_cases hx:x≤X9 { s with top:=max s.top e.time }
     ·rw[if_pos hx,if_neg (by omega)]
     ·have hlt:X9 { s with top:=max s.top e.time }<x:=by omega
      rw[if_neg hx,if_pos hlt,hcnt]
      by_cases hxe:x=e.time
      ·subst hxe;rw[if_pos rfl,if_pos rfl,he]
      ·rw[if_neg hxe,if_neg hxe,hi.cnt,if_pos (by omega),Int.add_zero]
    ·show x≤max s.top e.time
     rcases List.mem_append.1 hx with hx | hx
     ·have:=hi.top x hx;omega
     ·rw[List.mem_singleton] at hx;omega
    ·show _≤s.cfg.rate
     rw[hcnt]
     have:=hi.rate t
     split
     ·rename_i ht;subst ht;omega
     ·omega
 rw[if_neg c0]
 by_cases c1:e.kind=1
 ·rw[if_pos c1]
  split
  ·exact⟨Int.le_refl _,fun h=>absurd h c0,fun _=>⟨hi.cnt,hi.top,hi.rate⟩⟩
  ·exact⟨Int.le_refl _,fun h=>absurd h c0,fun _=>hi⟩
 rw[if_neg c1]
 split
 ·split
  ·exact⟨Int.le_refl _,fun h=>absurd h c0,fun _=>hi⟩
  ·split
   ·exact⟨Int.le_refl _,fun h=>absurd h c0,fun _=>⟨hi.cnt,hi.top,hi.rate⟩⟩
   ·split
    ·exact⟨Int.le_refl _,fun h=>absurd h c0,fun _=>hi⟩
    ·exact⟨by show s.top≤max s.top e.time;omega,fun h=>absurd h c0,fun _=>kz0 hi _⟩
 ·exact⟨Int.le_refl _,fun h=>absurd h c0,fun _=>hi⟩
def Ka0(p:Pr):Bs:=encI p.id++encI p.epoch++encI p.next++Yf0 encI p.last
def ZW(s:List Pr):Bs:=encI s.length++s.flatMap Ka0
structure UM0 (p:Pr):Prop where
 id:inI p.id
 epoch:inI p.epoch
 next:inI p.next
 len:p.last.length≤9223372036854775807
 last:∀x∈p.last,inI x
theorem Ln0{n:Int}(h:inP n):inI n:=⟨by have:=h.1;omega,by have:=h.2;omega⟩
theorem Ge0.good{p:Pr}(h:Ge0 p):UM0 p:=⟨Ln0 h.id,Ln0 h.epoch,Ln0 h.next,by have:=h.len;have:=h.next;omega,fun x hx=>by
 obtain⟨i,hi,rfl⟩:=List.getElem_of_mem hx
 exact Ln0 (h.each i hi)⟩
theorem jz0{p:Pr}(h:Ge0 p):(Ka0 p).length≤600:=by
 have g:=h.good
 have hl:=h.len
 have hn:=h.next
 have h1:=X6 g.id
 have h2:=X6 g.epoch
 have h3:=X6 g.next
 have h4:=(YW encI p.last (by omega)).2
 have h5:=GG encI p.last 21 fun y hy=>X6 (g.last y hy)
 unfold Ka0
 simp only[List.length_append]
 omega
theorem ci0{s:List Pr}(h:aH s):(ZW s).length≤31000:=by
 have hl:=h.len
 have h1:=X6 (n:=s.length) ⟨by omega,by omega⟩
 have h2:=GG Ka0 s 600 fun p hp=>jz0 (h.fine p hp)
 unfold ZW
 rw[List.length_append]
 omega
section
variable {B:Base} {w:World} {σ:List Dat}
theorem Dv0(hB:kH B){v:Value}{L:PrL}(r:Q4 v (K_ L) B)(q:eP L B)(hR:aH (prs L)):Gives prog B (Z0 jP #[v]) (.string (ofL (ZW (prs L)))):=by
 refine Gives.zi0 fun B' w K base h start k=>?_
 replace hB:=base hB
 replace r:=base r
 replace q:=base q
 refine JO.up ?_
 unfold JO.pt
 have hal:(K_ L).length=L.length:=List.length_map ..
 have hpl:(prs L).length=L.length:=List.length_map ..
 have hl:=hR.len
 have hall:=ci0 hR
 refine h.alloc WG fun b w1 h=>?_
 have h:=start w1 b h
 simp -zeta only[Q4.len r L6]
 rw[hal]
 have hin:inI (L.length:Int):=⟨by omega,by omega⟩
 refine h.ask (fun B2 own base2=>Oj0 (base2 hB) hin) fun w2 h=>?_
 have en:bg0 (L.length:Int)=encI (prs L).length:=by rw[hpl];unfold bg0;rw[if_neg (by omega)]
 rw[en]
 have h2:=X6 hin
 rw[←hpl] at h2
 refine h.mO (Nat.le_refl _) (by rw[J_,List.length_nil];omega) fun _ w4 h=>?_
 have h:Rel B' w4 [qP B'.W.heap.size b (encI (prs L).length)]:=h
 unfold ZW at hall k
 refine M6 (fun x w'=>∃i:Nat,i≤L.length∧x=(.int .i64 i,())∧Rel B' w' [qP B'.W.heap.size b (encI (prs L).length++((prs L).take i).flatMap Ka0)]) (fun x _=>L.length-(match x.1 with | .int _ n=>n.toNat | _=>0))
  ⟨0,Nat.zero_le _,rfl,by simpa using h⟩ ?_
 clear h
 rintro x w5 ⟨i,hi,rfl,h⟩ next hnext
 simp -zeta only[D6,K3]
 refine⟨fun hlt=>?_,fun hge=>?_⟩
 ·have hil:i<L.length:=by omega
  obtain⟨g,o,hx,hcl⟩:=Q4.idx r L6 (P:=prog) (i:=i) (by omega)
  have hel:(K_ L)[i]'(by omega)=L[i].1.raw L[i].2:=by simp [K_]
  rw[hel] at hcl
  have hcl:F6 g o (L[i].1.raw L[i].2).cs B':=hcl
  have hrow:=q L[i] (List.getElem_mem hil)
  have hfine:=hR.fine L[i].1 (List.mem_map_of_mem (List.getElem_mem hil))
  have hgood:=hfine.good
  have hnx:=hfine.next
  have hll:=hfine.len
  have hstep:=qI Ka0 (l:=prs L) (i:=i) (by omega)
  rw[show (prs L)[i]'(by omega)=L[i].1 by simp] at hstep
  have hle:=fF Ka0 (prs L) (i+1)
  rw[hstep,List.length_append] at hle
  rw[hx,F6.Q9 (h.K6 hcl) E8 rfl]
  refine h.r9 (ds:=(L[i].1.raw L[i].2).cs.toArray) yI rfl E8 rfl (fun v hv=>Enc.one (L[i].1.raw L[i].2) v hv) fun a w6 h=>?_
  have h:Rel B' w6 [qP B'.W.heap.size b (encI (prs L).length++((prs L).take i).flatMap Ka0),O1 a M3 (L[i].1.raw L[i].2).cs.toArray]:=h
  have h:=h.tick
  simp -zeta only[U0 oL,U0 tL,U0 rP,U0 mI,Nat.add_zero,Nat.zero_add,h.ld 1 rfl F3 (o:=0) rfl,h.ld 1 rfl F3 (o:=1) rfl,h.ld 1 rfl F3 (o:=2) rfl,h.ld 1 rfl XC (o:=3) rfl]
  refine h.ask (fun B2 own base2=>KC (base2 hB) hgood.id) fun w7 h=>?_
  refine⟨h.is 1 rfl XC (o:=3) rfl,h.is 1 rfl F3 (o:=2) rfl,h.is 1 rfl F3 (o:=1) rfl,?_⟩
  refine h.ask (fun B2 own base2=>KC (base2 hB) hgood.epoch) fun w8 h=>?_
  refine⟨h.is 1 rfl XC (o:=3) rfl,h.is 1 rfl F3 (o:=2) rfl,?_⟩
  have l1:=X6 hgood.id
  have l2:=X6 hgood.epoch
  have l3:=X6 hgood.next
  have l4:=(YW encI L[i].1.last (by omega)).2
  have l5:=GG encI L[i].1.last 21 fun y hy=>X6 (hgood.last y hy)
  rw[q9 (by omega)]
  refine h.ask (fun B2 own base2=>KC (base2 hB) hgood.next) fun w9 h=>?_
  refine⟨h.is 1 rfl XC (o:=3) rfl,?_⟩
  rw[q9 (by rw[List.length_append];omega)]
  refine h.ask (fun B2 own base2=>UJ0 (base2 hB) (base2 hrow) hgood.last (by omega)) fun w10 h=>?_
  rw[q9 (by simp only[List.length_append];omega)]
  simp only[List.length_append] at hall
  have hpe:encI L[i].1.id++encI L[i].1.epoch++encI L[i].1.next++Yf0 encI L[i].1.last=Ka0 L[i].1:=rfl
  rw[hpe]
  refine(h.take 1).mO (Nat.le_refl _) (by rw[J_];simp only[List.length_append];omega) fun _ w11 h=>?_
  rw[V5,D5 (by omega) (by omega)]
  refine hnext _ _ ⟨i+1,hil,rfl,?_⟩ (by simp only;omega)
  rw[hstep,←List.append_assoc]
  exact h
 ·refine h.WU (Nat.le_refl _) fun w7 h=>?_
  have hie:i=L.length:=by omega
  subst hie
  have e:(prs L).take L.length=prs L:=List.take_of_length_le (by omega)
  rw[e]
  exact k _ _ h
end
end Go.Proofs.YtngbebnhegcokaaGreatDoor
namespace Go.Proofs
open Go.Shelf
def Tryz.iZ:Go.Shelf.Ren:=⟨fun | 7=>64 | 10=>129 | n=>n,fun | 23=>97 | 26=>3 | 3=>3 | 28=>110 | 0=>0 | 27=>109 | 33=>127 | 4=>4 | n=>n,fun | n=>n⟩
theorem Tryz.fA0:Go.Proofs.SlLaysZI.n7 Tryz.prog Tryz.iZ:={
 mixed:=by kernel_rfl
 f7:=⟨Tryz.f64.name,by decide,Tryz.func64.trans (congrArg some (by kernel_rfl))⟩
 f10:=⟨Tryz.f129.name,by decide,Tryz.func129.trans (congrArg some (by kernel_rfl))⟩
 t0:=Tryz.underlying0
 a0:=Tryz.isAgg0
 z0:=Tryz.sizeOf0
 v0:=Tryz.zeroValue0
 t4:=Tryz.underlying4
 a4:=Tryz.isAgg4
 z4:=Tryz.sizeOf4
 v4:=Tryz.zeroValue4
 t23:=Tryz.underlying97
 a23:=Tryz.isAgg97
 z23:=Tryz.sizeOf97
 v23:=Tryz.zeroValue97
 t26:=Tryz.underlying3
 a26:=Tryz.isAgg3
 z26:=Tryz.sizeOf3
 v26:=Tryz.zeroValue3
 t27:=Tryz.underlying109
 a27:=Tryz.isAgg109
 z27:=Tryz.sizeOf109
 v27:=Tryz.zeroValue109
 t28:=Tryz.underlying110
 a28:=Tryz.isAgg110
 z28:=Tryz.sizeOf110
 v28:=Tryz.zeroValue110
 t33:=Tryz.underlying127
 a33:=Tryz.isAgg127
 z33:=Tryz.sizeOf127
 v33:=Tryz.zeroValue127 }
def Tryz.Md0:Go.Shelf.Ren:=⟨fun | 8=>127 | 11=>180 | n=>n,fun | 26=>3 | 28=>110 | 24=>35 | 0=>0 | 33=>127 | 4=>4 | n=>n,fun | n=>n⟩
theorem Tryz.Rn0:Go.Proofs.SlLaysZI.n8 Tryz.prog Tryz.Md0:={
 mixed:=by kernel_rfl
 f8:=⟨Tryz.f127.name,by decide,Tryz.func127.trans (congrArg some (by kernel_rfl))⟩
 f11:=⟨Tryz.f180.name,by decide,Tryz.func180.trans (congrArg some (by kernel_rfl))⟩
 t0:=Tryz.underlying0
 a0:=Tryz.isAgg0
 z0:=Tryz.sizeOf0
 v0:=Tryz.zeroValue0
 t24:=Tryz.underlying35
 a24:=Tryz.isAgg35
 z24:=Tryz.sizeOf35
 v24:=Tryz.zeroValue35
 t26:=Tryz.underlying3
 a26:=Tryz.isAgg3
 z26:=Tryz.sizeOf3
 v26:=Tryz.zeroValue3
 t28:=Tryz.underlying110
 a28:=Tryz.isAgg110
 z28:=Tryz.sizeOf110
 v28:=Tryz.zeroValue110
 i26:=by kernel_rfl }
theorem Tryz.fq0:∀args w,(callFunc 129 args).run Tryz.prog w = .ok (.enter 129 args) w:=enters_of Tryz.func129 (by kernel_rfl) rfl
end Go.Proofs

namespace Go.Proofs
open Go.Shelf
def Tryz.fg0:Go.Shelf.Ren:=⟨fun | 189=>128 | 125=>182 | 257=>181 | 128=>233 | 129=>234 | 294=>224 | 295=>225 | 296=>226 | 297=>227 | 298=>228 | 299=>229 | 216=>230 | 300=>231 | 301=>232 | 328=>261 | 329=>262 | 330=>263 | 331=>264 | 332=>265 | 215=>266 | 343=>276 | n=>n,fun | 28=>35 | 3=>3 | 46=>54 | 0=>0 | 51=>290 | 53=>292 | 4=>4 | 183=>284 | 182=>283 | 131=>266 | 5=>5 | 9=>9 | 218=>317 | 222=>277 | 228=>330 | 229=>331 | n=>n,fun | n=>n⟩
theorem Tryz.wf0:Go.Proofs.Lays.n189 Tryz.prog Tryz.fg0:={
 mixed:=by kernel_rfl
 f125:=Tryz.func182.trans (congrArg some (by kernel_rfl))
 f128:=Tryz.func233.trans (congrArg some (by kernel_rfl))
 f129:=Tryz.func234.trans (congrArg some (by kernel_rfl))
 f189:=Tryz.func128.trans (congrArg some (by kernel_rfl))
 f215:=Tryz.func266.trans (congrArg some (by kernel_rfl))
 f216:=Tryz.func230.trans (congrArg some (by kernel_rfl))
 f257:=Tryz.func181.trans (congrArg some (by kernel_rfl))
 f294:=Tryz.func224.trans (congrArg some (by kernel_rfl))
 f295:=Tryz.func225.trans (congrArg some (by kernel_rfl))
 f296:=Tryz.func226.trans (congrArg some (by kernel_rfl))
 f297:=Tryz.func227.trans (congrArg some (by kernel_rfl))
 f298:=Tryz.func228.trans (congrArg some (by kernel_rfl))
 f299:=Tryz.func229.trans (congrArg some (by kernel_rfl))
 f300:=Tryz.func231.trans (congrArg some (by kernel_rfl))
 f301:=Tryz.func232.trans (congrArg some (by kernel_rfl))
 f328:=Tryz.func261.trans (congrArg some (by kernel_rfl))
 f329:=Tryz.func262.trans (congrArg some (by kernel_rfl))
 f330:=Tryz.func263.trans (congrArg some (by kernel_rfl))
 f331:=Tryz.func264.trans (congrArg some (by kernel_rfl))
 f332:=Tryz.func265.trans (congrArg some (by kernel_rfl))
 f343:=Tryz.func276.trans (congrArg some (by kernel_rfl))
 t0:=Tryz.underlying0
 a0:=Tryz.isAgg0
 z0:=Tryz.sizeOf0
 v0:=Tryz.zeroValue0
 t3:=Tryz.underlying3
 a3:=Tryz.isAgg3
 z3:=Tryz.sizeOf3
 v3:=Tryz.zeroValue3
 t4:=Tryz.underlying4
 a4:=Tryz.isAgg4
 z4:=Tryz.sizeOf4
 v4:=Tryz.zeroValue4
 t5:=Tryz.underlying5
 a5:=Tryz.isAgg5
 z5:=Tryz.sizeOf5
 v5:=Tryz.zeroValue5
 t9:=Tryz.underlying9
 a9:=Tryz.isAgg9
 z9:=Tryz.sizeOf9
 v9:=Tryz.zeroValue9
 t28:=Tryz.underlying35
 a28:=Tryz.isAgg35
 z28:=Tryz.sizeOf35
 v28:=Tryz.zeroValue35
 t46:=Tryz.underlying54
 a46:=Tryz.isAgg54
 z46:=Tryz.sizeOf54
 v46:=Tryz.zeroValue54
 t51:=Tryz.underlying290
 a51:=Tryz.isAgg290
 z51:=Tryz.sizeOf290
 v51:=Tryz.zeroValue290
 t53:=Tryz.underlying292
 a53:=Tryz.isAgg292
 z53:=Tryz.sizeOf292
 v53:=Tryz.zeroValue292
 t131:=Tryz.underlying266
 a131:=Tryz.isAgg266
 z131:=Tryz.sizeOf266
 v131:=Tryz.zeroValue266
 t182:=Tryz.underlying283
 a182:=Tryz.isAgg283
 z182:=Tryz.sizeOf283
 v182:=Tryz.zeroValue283
 t183:=Tryz.underlying284
 a183:=Tryz.isAgg284
 z183:=Tryz.sizeOf284
 v183:=Tryz.zeroValue284
 t218:=Tryz.underlying317
 a218:=Tryz.isAgg317
 z218:=Tryz.sizeOf317
 v218:=Tryz.zeroValue317
 t222:=Tryz.underlying277
 a222:=Tryz.isAgg277
 z222:=Tryz.sizeOf277
 v222:=Tryz.zeroValue277
 t228:=Tryz.underlying330
 a228:=Tryz.isAgg330
 z228:=Tryz.sizeOf330
 v228:=Tryz.zeroValue330
 t229:=Tryz.underlying331
 a229:=Tryz.isAgg331
 z229:=Tryz.sizeOf331
 v229:=Tryz.zeroValue331 }
end Go.Proofs

namespace Go.Proofs.YtngbebnhegcokaaGreatDoor
open Go.Proofs.Tryz (prog)
open Go.RowKit
set_option maxRecDepth 100000
theorem ni0(l:List Int):flat l=l.map (Value.int .i64):=by
 induction l with
 | nil=>rfl
 | cons a l ih=>rw[pI,ih];rfl
section
variable {B:Base} {w:World} {σ:List Dat} {E:TypeId}
theorem Rel.putRow(h:Rel B w σ)(i:Nat){g cap m n:Nat}{os:Array Obj}{l l':List Int}(hi:σ[i]? = some (V3 E (.slice (some ⟨g,0,none⟩) l.length cap) l))(hl:l'.length=l.length)(hm:m≤l.length) :
  Rel B (Go.Sort.grow (Go.Sort.putRow (Value.int .i64) (Go.Sort.ahead w n) g 0 l'.toArray) os) (σ.set i (V3 E (.slice (some ⟨g,0,none⟩) m cap) (l'.take m))):=by
 obtain⟨c,h⟩:=h
 obtain⟨_,cur,hb,h1,hmx,h3,h4⟩:=(V3.own (h.own i _ hi)).inv
 have hlt:=hb.lt
 have h3':cur.size=cap:=by rw[h3];exact Nat.mul_one cap
 have hg:(Go.Sort.grow (Go.Sort.putRow (Value.int .i64) (Go.Sort.ahead w n) g 0 l'.toArray) os).heap[g]? = some (.cells (Go.Sort.putCells (Value.int .i64) 0 l'.toArray cur) E (0,0)):=by
  rw[Go.Sort.heap_grow_old _ _ (by simpa using hlt)]
  show (w.heap.modify g _)[g]? = _
  rw[Array.getElem?_modify,if_pos rfl,hb.2]
  rfl
 refine⟨jG c w.heap.size 0,h.step hi ⟨rfl,rfl,rfl,?_,fun k hk=>by simp [jG,hk],fun k hk ht=>?_⟩ (nC.V3 (nC.mk_ (cur:=Go.Sort.putCells (Value.int .i64) 0 l'.toArray cur) ⟨by simp [jG,hlt,hb.1],hg⟩ ?_ (Nat.le_trans hm h1) hmx ?_ ?_))⟩
 ·rw[Go.Sort.size_grow,Go.Sort.size_putRow]
  exact Nat.le_add_right _ _
 ·rw[Go.Sort.heap_grow_old _ _ (by simpa using hk)]
  show (w.heap.modify g _)[k]? = _
  rw[Array.getElem?_modify,if_neg]
  rintro rfl
  exact ht hb.1
 ·rw[List.length_take];omega
 ·rw[←h3];simp [Go.Sort.putCells]
 ·rw[ni0]
  have hcs:(Go.Sort.putCells (Value.int .i64) 0 l'.toArray cur).size=cap:=by simp [Go.Sort.putCells,h3']
  have h1':(Enc.sz Int)=1:=rfl
  rw[h1',Nat.mul_one]
  apply List.ext_getElem
  ·simp [hcs];omega
  ·intro k hk1 hk2
   have hk:k<m:=by
    rw[List.length_take] at hk1
    omega
   have hkl:k<l'.length:=by omega
   simp [Go.Sort.putCells,hkl]
theorem holdsInt{c:Nat→Nat}{t g cap:Nat}{cur:Array Value}{l:List Int}(hb:Blk c t w g E cur)(h1:l.length≤cap)(h3:cur.size=cap * Enc.sz Int)(h4:cur.toList.take (l.length * Enc.sz Int)=flat l):Go.Sort.Holds (Value.int .i64) w g 0 l.toArray:=by
 intro j hj
 have hj':j<l.length:=by simpa using hj
 refine⟨?_,hb.free _⟩
 rw[Nat.zero_add]
 refine hb.cell ?_
 have e:(cur.toList.take (l.length * Enc.sz Int))[j]? = (flat l)[j]? := by rw[h4]
 have h1':(Enc.sz Int)=1:=rfl
 rw[h1',Nat.mul_one,List.getElem?_take_of_lt hj',ni0] at e
 rw[Array.getElem?_toList] at e
 rw[e]
 simp [hj']
abbrev mZ(l:List Int):List Int:=l.mergeSort fun x y=>decide (x≤y)
theorem iB0{l:List Int}{x:Int}:x∈mZ l↔x∈l:=(List.mergeSort_perm l _).mem_iff
theorem rW(l:List Int):(mZ l).length=l.length:=(List.mergeSort_perm l _).length_eq
theorem qy0{v:Value}{l:List Int}(hl:l.length≤1000000000):Does prog B (V3 Q0 v l) (Z0 pE #[v]) fun u e' τ=>u = .tuple #[]∧e'=V3 Q0 v (mZ l)∧τ=[]:=by
 refine Does.intro fun B' w K base h k=>?_
 rcases Nat.eq_zero_or_pos l.length with h0 | h0
 ·have hl0:l=[]:=List.length_eq_zero_iff.1 h0
  subst hl0
  have hv:∃p cap,v = .slice p 0 cap:=by
   rcases h.here (i:=0) rfl with⟨rfl,_⟩ | ⟨g,cap,_,rfl,_⟩
   ·exact⟨_,_,rfl⟩
   ·exact⟨_,_,rfl⟩
  obtain⟨p,cap,rfl⟩:=hv
  refine fP.up ?_
  refine Calls.mono (Any.slices_Sort_int_none Tryz.wf0 p cap w) fun e w' he=>?_
  obtain⟨rfl,rfl⟩:=he
  have e:mZ []=[]:=by simp [mZ]
  exact k _ _ [] _ ⟨rfl,rfl,rfl⟩ (by rw[e];exact h)
 ·obtain⟨g,cap,rfl⟩:=h.open_ (i:=0) rfl h0
  obtain⟨c,h'⟩:=h
  obtain⟨_,cur,hb,h1,hmx,h3,h4⟩:=(V3.own (h'.own 0 _ rfl)).inv
  refine fP.up ?_
  refine Calls.mono (Any.slices_Sort_int Tryz.wf0 g 0 cap l w (holdsInt hb h1 h3 h4) hb.lt (by omega)) fun e w' he=>?_
  obtain⟨rfl,n,os,rfl⟩:=he
  have:=Rel.putRow (B:=B') (σ:=[V3 Q0 (.slice (some ⟨g,0,none⟩) l.length cap) l]) ⟨c,h'⟩ 0 (m:=l.length) (n:=n) (os:=os) (l':=mZ l) rfl (rW l) (Nat.le_refl _)
  rw[List.take_of_length_le (by rw[rW];exact Nat.le_refl _)] at this
  exact k _ _ [] _ ⟨rfl,rfl,rfl⟩ this
end
section
variable {B:Base}
theorem kI0(m:Nat):Makes prog B (Z0 fD #[vP m]) fun u τ=>∃b,u = .func (.func z_) #[] #[ptr b]∧τ=[O1 b D7 #[vP m]]:=by
 refine Makes.intro fun B' w K base h k=>?_
 refine QB.up ?_
 unfold QB.pt
 refine h.box fun b w1 h=>?_
 simp -zeta only[OG]
 exact k _ _ _ ⟨b,rfl,rfl⟩ h
theorem TL0{n:Int}(h:inI n):(Lit.int .i64 n).wf=true:=by
 unfold Lit.wf
 simp only[Bool.and_eq_true,decide_eq_true_eq]
 exact⟨h.1,h.2⟩
abbrev yy0:Value→Option (DataW Unit×List MemPlace):=fun _=>some (.nil,[])
theorem Qq0{e:Ent Int Int}(h:inI e.1):Go.WideElems.rd prog Q0 yy0 (TC e)=some (.int .i64 e.1,.nil):=by
 unfold Go.WideElems.rd
 have:keyOf prog Q0 (TC e).key=some (.int .i64 e.1):=Go.Maps.keyOf_int_mk TW (TL0 h)
 rw[this]
 rfl
theorem zu0{l:List (Ent Int Int)}(hr:∀e∈l,inI e.1) :
  (Go.intKeys (DataW.map (((l.map TC).toArray.toList.map (Go.WideElems.rg prog Q0 yy0)).foldr DataW.insert []))).Perm (l.map (·.1)):=by
 show (List.map (fun p:Lit×DataW Unit=>Go.intOf p.1) _).Perm _
 refine(List.Perm.map _ (Go.WideShapes.sorted_perm _)).trans ?_
 rw[List.map_map]
 show (List.map _ (l.map TC)).Perm _
 rw[List.map_map]
 refine List.Perm.of_eq (List.map_congr_left fun e he=>?_)
 show Go.intOf (Go.WideElems.rg prog Q0 yy0 (TC e)).1=e.1
 unfold Go.WideElems.rg
 rw[Qq0 (hr e he)]
 rfl
theorem Ft0{m b c:Nat}{l:List (Ent Int Int)}(hb:O1 b D7 #[vP m] B)(hm:B_ m l c B)(hw:WfE l c)(hr:∀e∈l,inI e.1)(hl:l.length≤1000000) :
  Makes prog B (Z0 BG #[.func (.func z_) #[] #[ptr b]]) fun u τ=>∃ss,ss.Perm (l.map (·.1))∧τ=[V3 Q0 u ss]:=by
 refine Makes.intro fun B' w K base h k=>?_
 have hb:=h.K6 (base hb)
 have hm:=h.K6 (base hm)
 have hb2:w.heap[b]? = some (.cells #[vP m] D7 (0,0)):=hb.2
 have hm2:w.heap[m]? = some (.map (l.map TC).toArray c):=hm.2
 have hsz:(l.map TC).toArray.size=l.length:=by simp
 have hown:w.ownsMap prog Q0 yy0 m l.length (DataW.map (((l.map TC).toArray.toList.map (Go.WideElems.rg prog Q0 yy0)).foldr DataW.insert [])):=by
  refine⟨_,c,hm2,⟨by rw[hsz];unfold maxLen;omega,⟨fun x hx=>?_,?_,?_⟩,fun x hx=>?_⟩,by rw[hsz];exact Nat.le_refl _,rfl⟩
  ·obtain⟨e,he,rfl⟩:=List.mem_map.1 (show x∈l.map TC from hx)
   exact hw.below e he
  ·show (List.map _ (l.map TC)).Nodup
   rw[List.map_map]
   exact hw.stamps
  ·show (List.map _ (l.map TC)).Nodup
   rw[List.map_map]
   have:(l.map (Enc.val ∘ fun e:Ent Int Int=>e.1)).Nodup:=by
    rw[←List.map_map]
    exact hw.keys.map (f:=(Enc.val:Int→Value)) (fun a b hab e=>hab (by injection e))
   exact this
  ·obtain⟨e,he,rfl⟩:=List.mem_map.1 (show x∈l.map TC from hx)
   exact⟨_,Qq0 (hr e he)⟩
 have hlen:Go.Maps.size (DataW.map (((l.map TC).toArray.toList.map (Go.WideElems.rg (H:=Unit) prog Q0 yy0)).foldr DataW.insert []))=l.length:=by
  show (List.foldr DataW.insert [] _).length=_
  rw[(Go.WideShapes.sorted_perm _).length_eq]
  simp
 have hseq:=AnyZI.keys_gives (ρ:=Tryz.iZ) { Tryz.fA0 with } Fence.wide 1 trivial rfl (Nat.le_refl _) b m l.length _ w (Array.getElem?_eq_some_iff.1 hb2).1 (O1.jV hb (o:=0) rfl) hown
 have cS:=AnyZI.collect_in Tryz.Rn0 Fence.wide 3 trivial trivial rfl (Nat.le_refl _) z_ #[ptr b] trivial Tryz.fq0 _ _ (by rw[hlen];unfold maxLen;omega) (by rw[hlen];omega) w hseq
 refine VZ.up (Calls.mono (callsIn_wide.1 cS) ?_)
 rintro e w' ⟨v,ss,rfl,hS,hrow,_,hbl⟩
 refine k v _ w' ⟨ss,hS.trans (zu0 hr),rfl⟩ ?_
 obtain⟨cc,h⟩:=h
 refine⟨jG cc w.heap.size 1,h.push ⟨hbl.os,hbl.tape,hbl.output,hbl.size,fun j hj=>if_pos hj,fun j hj _=>hbl.block j hj⟩ ?_⟩
 rcases hrow.2 with⟨rfl,h0⟩ | ⟨g,cap,cur,rfl,hbase,hg,h1,h2,h3,h4⟩
 ·exact .inl ⟨rfl,List.eq_nil_of_length_eq_zero h0⟩
 ·refine .inr ⟨g,cap,cur,rfl,⟨if_neg (by omega),hg⟩,h1,h2,h3,?_⟩
  rw[ni0]
  exact h4
end
structure ih0 (s:IS):Prop where
 in_:∀t,s.cnt t≠0→X9 s<t∧t≤s.top
theorem Fm0.keys{s:IS}{times:List Int}(h:Fm0 s times):ih0 s:=⟨fun t ht=>by
 have h1:=h.cnt t
 by_cases c:X9 s<t
 ·rw[if_pos c] at h1
  refine⟨c,h.top t ?_⟩
  have:0<times.count t:=by omega
  exact List.count_pos_iff.1 this
 ·rw[if_neg c] at h1;exact absurd h1 ht⟩
def AJ(s:IS):List Int:=((List.range (s.top-X9 s).toNat).map fun i:Nat=>X9 s+1+(i:Int)).filter fun t=>decide (s.cnt t≠0)
theorem Gd0{s:IS}(h:ih0 s){t:Int}:t∈AJ s↔s.cnt t≠0:=by
 unfold AJ
 rw[List.mem_filter,decide_eq_true_iff,List.mem_map]
 constructor
 ·exact fun h=>h.2
 ·intro ht
  obtain⟨h1,h2⟩:=h.in_ t ht
  exact⟨⟨(t-X9 s-1).toNat,List.mem_range.2 (by omega),by omega⟩,ht⟩
theorem Uz0(s:IS):(AJ s).Pairwise (·<·):=by
 unfold AJ
 refine List.Pairwise.filter _ ?_
 rw[List.pairwise_map]
 exact List.pairwise_lt_range.imp fun h=>by omega
theorem Oh0{s:IS}(h:nG s.cfg):s.top-X9 s≤10001 ∧ -1≤X9 s:=by
 have:=h.late
 unfold X9
 omega
theorem Yz0{s:IS}(h:nG s.cfg):(AJ s).length≤10001:=by
 refine Nat.le_trans (List.length_filter_le _ _) ?_
 have:=(Oh0 h).1
 simp
 omega
def bq0(s:IS)(t:Int):Bs:=encI t++encI (s.cnt t)
def qN0(s:IS):Bs:=(((encI s.now++encI s.top)++encI s.next)++encI s.refused)++bB (ZW s.prods)
def aD0(s:IS):Bs:=(qN0 s++encI (AJ s).length)++(AJ s).flatMap (bq0 s)
theorem vf0{s:IS}(hk:ih0 s){l:List (Ent Int Int)}{c:Nat}(hc:fM s.cnt l c){ss:List Int}(hp:ss.Perm (l.map (·.1))):mZ ss=AJ s∧l.length=(AJ s).length:=by
 have hnd:ss.Nodup:=hp.nodup_iff.2 hc.wf.keys
 have hmem:∀t,t∈ss↔s.cnt t≠0:=fun t=>by
  rw[hp.mem_iff,List.mem_map]
  have hg:=hc.get t
  constructor
  ·rintro⟨e,he,rfl⟩ h0
   rw[if_pos h0] at hg
   exact iV.1 hg e he rfl
  ·intro h0
   rw[if_neg h0] at hg
   obtain⟨b,hb⟩:=hc.wf.ui0.1 hg
   exact⟨_,hb,rfl⟩
 have e1:mZ ss=AJ s:=by
  refine Ij0 ?_ (Uz0 s) fun t=>by rw[iB0,hmem,Gd0 hk]
  have h1:=List.pairwise_mergeSort (le:=fun x y:Int=>decide (x≤y)) (fun a b c h1 h2=>by simp at h1 h2 ⊢;omega) (fun a b=>by simp;omega) ss
  have h2:(mZ ss).Nodup:=(List.mergeSort_perm ss _).nodup_iff.2 hnd
  refine(h1.and h2).imp fun {a b} hh=>?_
  have:=of_decide_eq_true hh.1
  have:=hh.2
  omega
 refine⟨e1,?_⟩
 rw[←e1,rW,hp.length_eq,List.length_map]
def TN0(cnt:Int→Int)(t n:Int):Int→Int:=fun x=>if x=t then n else cnt x
open Classical in
structure Qv0 (s:IS):Prop where
 cfg:nG s.cfg
 prods:aH s.prods
 now:inI s.now
 top : -1≤s.top∧s.top≤1099511627776
 next:inI s.next
 refused:inI s.refused
 cnt:∀t,0≤s.cnt t∧s.cnt t≤s.cfg.rate
 keys:ih0 s
theorem fO.fit{s:IS}(h:fO s)(hk:ih0 s):Qv0 s:=by
 have h1:=h.now
 have h2:=h.next
 have h3:=h.refused
 exact⟨h.cfg,h.prods,⟨by omega,by omega⟩,h.top,⟨by omega,by omega⟩,⟨by omega,by omega⟩,h.cnt,hk⟩
theorem Qv0.key{s:IS}(h:Qv0 s){t:Int}(ht:t∈AJ s):inI t∧inI (s.cnt t):=by
 have h1:=(Gd0 h.keys).1 ht
 obtain⟨h2,h3⟩:=h.keys.in_ t h1
 have h4:=(Oh0 h.cfg).2
 have h5:=h.top
 have h6:=h.cnt t
 have h7:=h.cfg.rate
 exact⟨⟨by omega,by omega⟩,⟨by omega,by omega⟩⟩
section
variable {B:Base} {w:World} {p:Nat} {s:IS}
theorem jB0{m b c:Nat}{l:List (Ent Int Int)}(hb:O1 b D7 #[vP m] B)(hm:B_ m l c B)(hw:WfE l c)(hr:∀e∈l,inI e.1)(hl:l.length≤1000000) :
  Makes prog B (Z0 UL #[.func (.func z_) #[] #[ptr b]]) fun u τ=>∃ss,ss.Perm (l.map (·.1))∧τ=[V3 Q0 u (mZ ss)]:=by
 refine Makes.intro fun B' w K base h k=>?_
 refine mK.up ?_
 unfold mK.pt
 refine h.make (fun B2 own base2=>Ft0 (base2 (base hb)) (base2 (base hm)) hw hr hl) fun u τ w1 hp h=>?_
 obtain⟨ss,hp,rfl⟩:=hp
 have hlen:ss.length=l.length:=by rw[hp.length_eq,List.length_map]
 refine h.act 0 rfl (fun B2 own base2=>qy0 (by omega)) fun u2 e' τ w2 hp2 h=>?_
 obtain⟨rfl,rfl,rfl⟩:=hp2
 exact k _ _ _ ⟨ss,hp,rfl⟩ h
theorem B_.nO0{w:World}{m c:Nat}{l:List (Ent Int Int)}{Kp:Value→Prop}{U:TypeId}{bs:Array Bool}(h:(B_ m l c).here w):Y0 prog (J5 .len #[D7] U bs #[.map (some m)]) w Kp=Kp (.int .i64 l.length) :=
 nI0 (B:=⟨w,fun _=>False⟩) (w:=w) (σ:=[B_ m l c]) (κ:=Int) (ν:=Int) ⟨fun _=>1,rfl,rfl,rfl,Nat.le_refl _,fun _ hk=>hk.elim,fun _ hk=>hk.elim,fun i d hd=>by
  cases i with
  | zero=>cases hd;exact⟨rfl,h.2⟩
  | succ i=>simp at hd⟩ 0 rfl qF
set_option maxHeartbeats 1000000 in
theorem Eq0(hB:kH B)(hI:intD p s B)(hf:Qv0 s):Gives prog B (Z0 YF #[jj0 p]) (.string (ofL (aD0 s))):=by
 refine Gives.intro fun B' w K base h k=>?_
 replace hB:=base hB
 obtain⟨kv,pv,m,l,c,hk,hc,hm,_,L,hL,rL,qL⟩:=intD.FO (base hI)
 refine MH.up ?_
 unfold MH.pt
 have h:=h.tick
 have hperm:=(vf0 hf.keys hk (List.Perm.refl _)).2
 have hkl:=Yz0 (s:=s) hf.cfg
 have hll:l.length≤10001:=by omega
 have htop:inI s.top:=by have:=hf.top;constructor<;>omega
 have hin:inI (l.length:Int):=⟨by omega,by omega⟩
 have hwr:∀e∈l,inI e.1:=fun e he=>by
  have hg:jH e.1 l=some e.2.1:=Za0 hk.wf.keys he
  have hg2:=hk.get e.1
  rw[hg] at hg2
  by_cases h0:s.cnt e.1=0
  ·rw[if_pos h0] at hg2;cases hg2
  ·exact(hf.key ((Gd0 hf.keys).2 h0)).1
 have l1:=X6 hf.now
 have l2:=X6 htop
 have l3:=X6 hf.next
 have l4:=X6 hf.refused
 have l5:=ci0 hf.prods
 have l6:=LF (ZW s.prods) (by omega)
 have l7:=X6 hin
 have hall:=GG (bq0 s) (AJ s) 42 fun t ht=>by
  have h1:=X6 (hf.key ht).1
  have h2:=X6 (hf.key ht).2
  unfold bq0
  rw[List.length_append]
  omega
 have en:bg0 (l.length:Int)=encI l.length:=by unfold bg0;rw[if_neg (by omega)]
 have is:∀{w:World} {σ:List Dat} {o:Nat} {T:TypeId} {x:Value},Rel B' w σ→scB prog T=true→(ics s kv pv m).toList[o]? = some x→Is prog (X0 T (.pointer (some ⟨p,o,none⟩))) x w:=fun h ht hx=>O1.is (h.K6 hc) ht hx
 simp -zeta only[y5,U0 VJ,U0 yO,U0 WJ,U0 ZT,U0 XJ,U0 YJ,Nat.zero_add,
  O1.ld (h.K6 hc) F3 (o:=7) (v := .int .i64 s.now) rfl,O1.ld (h.K6 hc) F3 (o:=8) (v := .int .i64 s.top) rfl,O1.ld (h.K6 hc) F3 (o:=9) (v := .int .i64 s.next) rfl,O1.ld (h.K6 hc) F3 (o:=10) (v := .int .i64 s.refused) rfl,
  O1.ld (h.K6 hc) jA (o:=11) (v:=pv.1) rfl,O1.ld (h.K6 hc) bA (o:=12) (v:=vP m) rfl]
 refine h.ask (fun B2 own base2=>KC (base2 hB) hf.now) fun w1 h=>?_
 refine⟨is h bA rfl,is h jA rfl,is h F3 rfl,is h F3 rfl,is h F3 rfl,?_⟩
 refine h.ask (fun B2 own base2=>KC (base2 hB) htop) fun w2 h=>?_
 refine⟨is h bA rfl,is h jA rfl,is h F3 rfl,is h F3 rfl,?_⟩
 rw[q9 (by omega)]
 refine h.ask (fun B2 own base2=>KC (base2 hB) hf.next) fun w3 h=>?_
 refine⟨is h bA rfl,is h jA rfl,is h F3 rfl,?_⟩
 rw[q9 (by simp only[List.length_append];omega)]
 refine h.ask (fun B2 own base2=>KC (base2 hB) hf.refused) fun w4 h=>?_
 refine⟨is h bA rfl,is h jA rfl,?_⟩
 rw[q9 (by simp only[List.length_append];omega)]
 refine h.ask (fun B2 own base2=>Dv0 (base2 hB) (base2 rL) (base2 qL) (by rw[hL];exact hf.prods)) fun w5 h=>?_
 rw[hL]
 refine⟨is h bA rfl,?_⟩
 refine h.ask (fun B2 own base2=>nU (base2 hB) (by omega)) fun w6 h=>?_
 refine⟨is h bA rfl,?_⟩
 rw[q9 (by simp only[List.length_append];omega),B_.nO0 (h.K6 hm)]
 refine h.ask (fun B2 own base2=>Oj0 (base2 hB) hin) fun w7 h=>?_
 refine⟨is h F3 rfl,is h F3 rfl,?_⟩
 rw[en,q9 (by simp only[List.length_append];omega)]
 simp -zeta only[O1.ld (h.K6 hc) bA (o:=12) (v:=vP m) rfl]
 refine h.make (fun B2 own base2=>kI0 m) fun u τ w8 hp h=>?_
 obtain⟨b,rfl,rfl⟩:=hp
 refine h.make (fun B2 own base2=>jB0 (own (i:=0) rfl) (base2 hm) hk.wf hwr (by omega)) fun u τ w9 hp h=>?_
 obtain⟨ss,hss,rfl⟩:=hp
 rw[(vf0 hf.keys hk hss).1] at h
 have h:Rel B' w9 [V3 Q0 u (AJ s)]:=h.pick [1] (by decide)
 have ehd:aD0 s=((((((encI s.now++encI s.top)++encI s.next)++encI s.refused)++bB (ZW s.prods))++encI (l.length:Int))++(AJ s).flatMap (bq0 s)):=by
  unfold aD0 qN0
  rw[hperm]
 rw[ehd] at k
 generalize hhd:((((((encI s.now++encI s.top)++encI s.next)++encI s.refused)++bB (ZW s.prods))++encI (l.length:Int)))=hd at *
 have hhl:hd.length≤100000:=by rw[←hhd];simp only[List.length_append];omega
 rw[Q4.len (V3.read (h.here (i:=0) rfl)) C9]
 refine M6 (fun x w'=>∃i:Nat,i≤(AJ s).length∧x=(.string (ofL (hd++((AJ s).take i).flatMap (bq0 s))),.int .i64 i,())∧Rel B' w' [V3 Q0 u (AJ s)]) (fun x _=>(AJ s).length-(match x.2.1 with | .int _ n=>n.toNat | _=>0))
  ⟨0,Nat.zero_le _,by rw[List.take_zero,List.flatMap_nil,List.append_nil];rfl,h⟩ ?_
 clear h
 rintro x w10 ⟨i,hi,rfl,h⟩ next hnext
 simp -zeta only[D6]
 rw[K3]
 refine⟨fun hlt=>?_,fun hge=>?_⟩
 ·have hil:i<(AJ s).length:=by omega
  have hkey:=hf.key (List.getElem_mem hil)
  have m1:=X6 hkey.1
  have m2:=X6 hkey.2
  have hstep:=qI (bq0 s) (l:=AJ s) (i:=i) hil
  have hle:=fF (bq0 s) (AJ s) i
  obtain⟨g2,o2,hx2,hc2⟩:=Q4.idx (V3.read (h.here (i:=0) rfl)) C9 (P:=prog) hil
  have hc2:(F6 g2 o2 [.int .i64 (AJ s)[i]]).here w10:=hc2
  simp -zeta only[hx2,F6.ld0 hc2 F3 rfl]
  have h:=h.tick
  simp -zeta only[O1.ld (h.K6 hc) bA (o:=12) (v:=vP m) rfl]
  rw[B_.look (h.K6 hm) qF Bl0 0 Ss0 (AJ s)[i],hk.getD]
  refine h.ask (fun B2 own base2=>KC (base2 hB) hkey.1) fun w11 h=>?_
  refine⟨YD0 fun {K}=>by rw[B_.look (h.K6 hm) qF Bl0 0 Ss0 (AJ s)[i],hk.getD],is h bA rfl,?_⟩
  refine h.ask (fun B2 own base2=>KC (base2 hB) hkey.2) fun w12 h=>?_
  rw[q9 (by omega),q9 (by simp only[List.length_append];omega),V5,D5 (by omega) (by omega)]
  refine hnext _ _ ⟨i+1,by omega,?_,h⟩ (by simp only;omega)
  rw[hstep]
  unfold bq0
  simp only[List.append_assoc]
  rfl
 ·have hie:i=(AJ s).length:=by omega
  subst hie
  rw[List.take_length]
  exact k _ _ h.nil
end
end Go.Proofs.YtngbebnhegcokaaGreatDoor
namespace Go.Proofs.YtngbebnhegcokaaGreatDoor
open Go.Proofs.Tryz (prog)
open Go.RowKit Go.Shelf
set_option maxRecDepth 100000
end Go.Proofs.YtngbebnhegcokaaGreatDoor
namespace Go.Proofs.YtngbebnhegcokaaGreatDoor
open Go.Proofs.Tryz (prog)
open Go.RowKit
set_option maxRecDepth 100000
theorem fM.upd{cnt:Int→Int}{l:List (Ent Int Int)}{c:Nat}(h:fM cnt l c){t n:Int}(hn:n≠0):fM (TN0 cnt t n) (VN t n l c).1 (VN t n l c).2:=by
 refine⟨h.wf.set _ _,fun x=>?_⟩
 rw[tV h.wf.keys]
 unfold TN0
 by_cases hx:x=t
 ·rw[if_pos hx,if_pos hx,if_neg hn]
 ·rw[if_neg hx,if_neg hx,h.get]
theorem Rd2.map{α β:Type}{enc:α→Bs}{good:α→Prop}{one:RS→α×RS}(h:Rd2 enc good one)(f:α→β)(g:β→α)(hfg:∀b,f (g b)=b)(hgf:∀a,g (f a)=a):Rd2 (fun b=>enc (g b)) (fun b=>good (g b)) (fun s=>(f (one s).1,(one s).2)):=by
 refine⟨fun s hb=>?_,fun x r hx=>?_⟩
 ·obtain⟨h1,h2,h3⟩:=h.back s hb
  exact⟨h1,by simp only[hgf];exact h2,by simp only[hgf];exact h3⟩
 ·show (f (one ⟨enc (g x)++r,false⟩).1,(one ⟨enc (g x)++r,false⟩).2)=_
  rw[h.fore _ _ hx,hfg]
def vOf(x:(Int×Int)×Bs):KD:=⟨x.1.1,x.1.2,ofL x.2⟩
def vTo(v:KD):(Int×Int)×Bs:=((v.kind,v.n),bl v.s)
theorem QJ0(v:KD):vOf (vTo v)=v:=by
 obtain⟨k,n,s⟩:=v
 show (⟨k,n,ofL (bl s)⟩:KD)=_
 rw[bW]
def tO(v:KD):Bs:=encI v.kind++encI v.n++bB (bl v.s)
structure iL (v:KD):Prop where
 kind:inI v.kind
 n:inI v.n
 s:(bl v.s).length≤9223372036854775807
noncomputable def RX(s:RS):KD×RS:=(vOf (vm0 (vm0 GA GA) SA s).1,(vm0 (vm0 GA GA) SA s).2)
theorem fh0:Rd2 tO iL RX:=by
 have h:=((Qw0.seq Qw0).seq eG0).map vOf vTo QJ0 fun x=>rfl
 exact⟨fun s hb=>by
  obtain⟨h1,h2,h3⟩:=h.back s hb
  exact⟨h1,h2,⟨h3.1.1,h3.1.2,h3.2⟩⟩,fun x r hx=>h.fore x r ⟨⟨hx.kind,hx.n⟩,hx.s⟩⟩
def pG(l:List KD):Bs:=encI l.length++l.flatMap tO
theorem td0(v:KD):0<(tO v).length:=by
 unfold tO
 have:=bD0 v.kind
 simp only[List.length_append]
 omega
noncomputable def OO(t:Bs):Option (List KD) :=
 let n:=KR ⟨t,false⟩
 let p:=XK RX n.1.toNat [] n.2
 if UT p.2=true then some p.1 else none
theorem wr0{l:List KD}(hl:l.length≤9223372036854775807)(hg:∀v∈l,iL v):OO (pG l)=some l:=by
 unfold OO pG
 rw[AX (by omega) ⟨by omega,by omega⟩]
 have h:=fh0.wm0 l [] [] hg
 rw[List.append_nil,List.nil_append] at h
 simp only[Int.toNat_natCast,h]
 rfl
theorem qo0{t:Bs}{l:List KD}(h:OO t=some l):pG l=t∧∀v∈l,iL v:=by
 unfold OO at h
 simp only at h
 split at h
 ·rename_i hd
  injection h with h
  obtain⟨d1,d2⟩:=Yp0 hd
  obtain⟨b1,l2,l1,l2',l3,l4⟩:=fh0.times _ _ _ d1
  obtain⟨_,c2,c3⟩:=uI0.back _ b1
  rw[List.nil_append] at l2'
  rw[l2'] at h
  subst h
  refine⟨?_,l4⟩
  unfold pG
  have hn:(l2.length:Int)=(KR ⟨t,false⟩).1:=by omega
  have e:t=encI (KR ⟨t,false⟩).1++(KR ⟨t,false⟩).2.rest:=c2
  rw[l3,d2,List.append_nil] at e
  rw[hn]
  exact e.symm
 ·cases h
theorem as0{k:Nat}(hk:0<k){acc:List KD}{s:RS}(hs:s.rest=[]):UT (XK RX k acc s).2=false:=by
 cases hd:UT (XK RX k acc s).2
 ·rfl
 ·obtain⟨d1,d2⟩:=Yp0 hd
  obtain⟨_,l,l1,_,l3,_⟩:=fh0.times _ _ _ d1
  rw[hs,d2,List.append_nil] at l3
  cases l with
  | nil=>rw[List.length_nil] at l1;omega
  | cons v l =>
   have h1:=td0 v
   have:=congrArg List.length l3
   rw[List.flatMap_cons,List.length_append,List.length_nil] at this
   omega
theorem Am0{s:RS}(h:LW s):LW (RX s).2:=Gv0 (rl0 (rl0 h))
theorem Gs0{s:RS}(hs:LW s)(hr:s.rest≠[]):(RX s).2.rest.length+1≤s.rest.length:=by
 have hlen:0<s.rest.length:=List.length_pos_iff.2 hr
 cases hb:(RX s).2.bad
 ·obtain⟨_,h2,_⟩:=fh0.back s hb
  have:=td0 (RX s).1
  rw[h2,List.length_append]
  omega
 ·rw[Am0 hs hb,List.length_nil]
  omega
theorem el0{v:KD}(h:iL v){N:Nat}(hN:(bl v.s).length≤N):(tO v).length≤64+N:=by
 unfold tO
 have h1:=X6 h.kind
 have h2:=X6 h.n
 have h3:=LF (bl v.s) h.s
 simp only[List.length_append]
 omega
section
variable {B:Base} {w:World} {σ:List Dat} {p:Nat} {s:RS}
theorem kG0(hB:kH B){v:KD}(hg:iL v)(hs:(bl v.s).length≤1099511627776):Gives prog B (Z0 qU #[.agg v.cs.toArray]) (.string (ofL (tO v))):=by
 refine Gives.intro fun B' w K base h k=>?_
 replace hB:=base hB
 refine lU.up ?_
 unfold lU.pt
 refine h.box fun o w1 h=>?_
 have h:Rel B' w1 [O1 o R3 v.cs.toArray]:=h
 have h:=h.tick
 have h1:=X6 hg.kind
 have h2:=X6 hg.n
 have h3:=LF (bl v.s) hg.s
 have es:v.s=ofL (bl v.s):=(bW v.s).symm
 simp -zeta only[U0 CU,U0 WY,U0 ZP,Nat.add_zero,Nat.zero_add,h.ld 0 rfl F3 (o:=0) rfl,h.ld 0 rfl F3 (o:=1) rfl,h.ld 0 rfl V6 (o:=2) rfl]
 refine h.ask (fun B2 own base2=>KC (base2 hB) hg.kind) fun w2 h=>?_
 refine⟨h.is 0 rfl V6 (o:=2) rfl,h.is 0 rfl F3 (o:=1) rfl,?_⟩
 refine h.ask (fun B2 own base2=>KC (base2 hB) hg.n) fun w3 h=>?_
 refine⟨h.is 0 rfl V6 (o:=2) rfl,?_⟩
 rw[q9 (by omega)]
 refine h.ask (v := .string (ofL (bB (bl v.s)))) (fun B2 own base2=>by have:=nU (B:=B2) (base2 hB) (s:=bl v.s) (by omega);rw[←es] at this;exact this) fun w4 h=>?_
 rw[q9 (by rw[List.length_append];omega)]
 exact k _ _ h
theorem yj0(hB:kH B){u:Value}{l:List KD}(r:Q4 u l B)(hl:l.length≤1000000)(hg:∀v∈l,iL v∧(bl v.s).length≤1000000):Gives prog B (Z0 dL #[u]) (.string (ofL (pG l))):=by
 refine Gives.zi0 fun B' w K base h start k=>?_
 replace hB:=base hB
 replace r:=base r
 refine WO.up ?_
 unfold WO.pt
 have hall:=GG tO l 1000064 fun v hv=>by have:=el0 (hg v hv).1 (hg v hv).2;omega
 refine h.alloc WG fun b w1 h=>?_
 have h:=start w1 b h
 simp -zeta only[Q4.len r M_]
 have hin:inI (l.length:Int):=⟨by omega,by omega⟩
 refine h.ask (fun B2 own base2=>Oj0 (base2 hB) hin) fun w2 h=>?_
 have en:bg0 (l.length:Int)=encI l.length:=by unfold bg0;rw[if_neg (by omega)]
 rw[en]
 have h2:=X6 hin
 refine h.mO (Nat.le_refl _) (by rw[J_,List.length_nil];omega) fun _ w4 h=>?_
 have h:Rel B' w4 [qP B'.W.heap.size b (encI l.length)]:=h
 unfold pG at k
 refine M6 (fun x w'=>∃i:Nat,i≤l.length∧x=(.int .i64 i,())∧Rel B' w' [qP B'.W.heap.size b (encI l.length++(l.take i).flatMap tO)]) (fun x _=>l.length-(match x.1 with | .int _ n=>n.toNat | _=>0))
  ⟨0,Nat.zero_le _,rfl,by simpa using h⟩ ?_
 clear h
 rintro x w5 ⟨i,hi,rfl,h⟩ next hnext
 simp -zeta only[D6,K3]
 refine⟨fun hlt=>?_,fun hge=>?_⟩
 ·have hil:i<l.length:=by omega
  obtain⟨g,o,hx,hcl⟩:=Q4.idx r M_ (P:=prog) hil
  have hcl:F6 g o l[i].cs B':=hcl
  obtain⟨hgi,hsi⟩:=hg l[i] (List.getElem_mem hil)
  have hstep:=qI tO hil
  have hle:=fF tO l (i+1)
  rw[hstep,List.length_append] at hle
  rw[hx,F6.Q9 (h.K6 hcl) Z7 rfl]
  refine h.r9 (ds:=l[i].cs.toArray) YK rfl Z7 rfl (fun v hv=>Enc.one l[i] v hv) fun a w6 h=>?_
  have h:Rel B' w6 [qP B'.W.heap.size b (encI l.length++(l.take i).flatMap tO),O1 a R3 l[i].cs.toArray]:=h
  rw[h.Q9 1 rfl Z7 rfl]
  refine h.ask (fun B2 own base2=>kG0 (base2 hB) hgi (by omega)) fun w7 h=>?_
  refine(h.take 1).mO (Nat.le_refl _) (by rw[J_];simp only[List.length_append];omega) fun _ w11 h=>?_
  rw[V5,D5 (by omega) (by omega)]
  refine hnext _ _ ⟨i+1,hil,rfl,?_⟩ (by simp only;omega)
  rw[hstep,←List.append_assoc]
  exact h
 ·refine h.WU (Nat.le_refl _) fun w7 h=>?_
  have hie:i=l.length:=by omega
  subst hie
  rw[List.take_length]
  exact k _ _ h
theorem zM0(hB:lC B)(hs:s.rest.length≤140737488355328):Does prog B (rdD p s) (Z0 DV #[ie0 p]) (lW p (.agg (RX s).1.cs.toArray) (RX s).2):=by
 refine Does.rd fun B' w K base h k=>?_
 replace hB:=base hB
 refine CW.up ?_
 unfold CW.pt
 have a1:(GA s).2.rest.length≤s.rest.length:=(UR (.inl rfl) _ s).1
 have a2:(GA (GA s).2).2.rest.length≤(GA s).2.rest.length:=(UR (.inl rfl) _ (GA s).2).1
 refine h.alloc YK fun o w1 h=>?_
 refine h.rd_ 0 rfl (fun B2 own base2=>dR (base2 hB) (by omega)) fun w2 h=>?_
 refine h.rd_ 0 rfl (fun B2 own base2=>dR (base2 hB) (by omega)) fun w3 h=>?_
 rw[oP]
 refine h.r9 (ds:=(⟨(GA s).1,(GA (GA s).2).1,⟨#[]⟩⟩:KD).cs.toArray) YK rfl Z7 rfl (fun v hv=>Enc.one (⟨(GA s).1,(GA (GA s).2).1,⟨#[]⟩⟩:KD) v hv) fun o2 w5 h=>?_
 refine h.rd_ 0 rfl (fun B2 own base2=>qY (base2 hB) (by omega)) fun w6 h=>?_
 simp -zeta only[U0 ZP,Nat.zero_add]
 refine h.st 2 rfl V6 (show 2<3 by omega) rfl fun w7 h=>?_
 have h:Rel B' w7 [rdD p (RX s).2,O1 o R3 (Value.cells (.agg #[(.int .i64 0),(.int .i64 0),(.string ⟨#[]⟩)])),O1 o2 R3 (RX s).1.cs.toArray]:=h
 rw[h.Q9 2 rfl Z7 rfl]
 refine h.xI 1 (ds:=(RX s).1.cs.toArray) rfl Z7 rfl rfl (fun v hv=>Enc.one (RX s).1 v hv) fun w8 h=>?_
 rw[CJ h 1 rfl Z7 rfl]
 exact k _ _ h
theorem LA0(hB:lC B){t:Bs}(ht:t.length≤1099511627776):Makes prog B (Z0 SQ #[.string (ofL t)]) fun u τ=>(∃l v,OO t=some l∧u = .tuple #[v,.bool true]∧τ=[V3 R3 v l])∨(OO t=none∧u = .tuple #[.slice none 0 0,.bool false]∧τ=[]):=by
 refine Makes.intro fun B' w K base h k=>?_
 replace hB:=base hB
 refine oQ.up ?_
 unfold oQ.pt
 refine h.make (fun B2 own base2=>KZ) fun u τ w1 hp h=>?_
 obtain⟨p,rfl,rfl⟩:=hp
 have h:Rel B' w1 [rdD p ⟨t,false⟩]:=h
 have hsn:LW ⟨t,false⟩:=fun hb=>by cases hb
 have l1:(KR ⟨t,false⟩).2.rest.length≤t.length:=(UR (.inl rfl:vR 59) 0 ⟨t,false⟩).1
 have n0:0≤(KR ⟨t,false⟩).1:=(UR (.inl rfl:vR 59) 0 ⟨t,false⟩).2.2 (Int.le_refl 0)
 have hin:=(UR (.inl rfl:vR 59) 0 ⟨t,false⟩).2.1
 have n1:(KR ⟨t,false⟩).1≤9223372036854775807:=hin.2
 have hs1:LW (KR ⟨t,false⟩).2:=sA0 hsn
 have no:OO t=none→∀w' τ,Rel B' w' τ→K (.tuple #[.slice none 0 0,.bool false]) w':=fun hn w' τ h=>k _ _ _ (.inr ⟨hn,rfl,rfl⟩) h.nil
 have yes:∀l v,OO t=some l→∀w',Rel B' w' [V3 R3 v l]→K (.tuple #[v,.bool true]) w':=fun l v h1 w' h=>k _ _ _ (.inl ⟨l,v,h1,rfl,rfl⟩) h
 clear k hin
 unfold OO at no yes
 simp only at no yes
 refine h.rd_ 0 rfl (fun B2 own base2=>lo0 (base2 hB) (by show t.length≤_;omega)) fun w2 h=>?_
 generalize KR ⟨t,false⟩=n at *
 obtain⟨n,r1⟩:=n
 simp only at l1 n0 n1 hs1 no yes
 obtain⟨m,rfl⟩:∃m:Nat,n=m:=⟨n.toNat,by omega⟩
 rw[Int.toNat_natCast] at no yes
 have h:Rel B' w2 [rdD p r1]:=h
 have h:=h.oG KD R3
 refine M6 (fun x w'=>∃(j:Nat) (acc:List KD) (v:Value) (s':RS),j≤m∧x=(v,.int .i64 j,())∧XK RX j acc s'=XK RX m [] r1∧LW s'∧acc.length+s'.rest.length≤t.length ∧
   Rel B' w' [rdD p s',V3 R3 v acc]) (fun x _=>match x.2.1 with | .int _ n=>n.toNat | _=>0)
  ⟨m,[],.slice none 0 0,r1,Nat.le_refl _,rfl,rfl,hs1,by simpa using l1,h⟩ ?_
 clear h
 rintro x w3 ⟨j,acc,v,s',hj,rfl,htab,hsa,hlen,h⟩ next hnext
 simp -zeta only[A_,K3]
 refine⟨fun hpos=>?_,fun hz=>?_⟩
 ·obtain⟨i,rfl⟩:∃i,j=i+1:=⟨j-1,by omega⟩
  refine h.ask (fun B2 own base2=>Vg0 (own (i:=0) rfl)) fun w4 h=>?_
  rw[O6,K3]
  refine⟨fun hp=>?_,fun hp=>?_⟩
  ·have hr:s'.rest=[]:=List.eq_nil_of_length_eq_zero (by omega)
   have:=as0 (k:=i+1) (acc:=acc) (Nat.succ_pos i) hr
   rw[htab] at this
   exact no (if_neg (by rw[this];decide)) _ _ h
  ·have hr:s'.rest≠[]:=fun hh=>by rw[hh] at hp;exact hp rfl
   rw[XK] at htab
   have hsh:=Gs0 hsa hr
   have hs2:=Am0 hsa
   refine h.rd_ 0 rfl (fun B2 own base2=>zM0 (base2 hB) (by omega)) fun w5 h=>?_
   generalize RX s'=y at *
   obtain⟨x,s2⟩:=y
   simp only at hsh hs2 htab
   have h:Rel B' w5 [rdD p s2,V3 R3 v acc]:=h
   refine h.Df0 (α:=KD) 1 rfl x M_ (by decide) (by omega) (by omega) fun v2 w7 h=>?_
   rw[eF,D5 (by omega) (by omega)]
   have e4:(((i+1:Nat):Int)-1)=(i:Int):=by omega
   rw[e4]
   exact hnext _ _ ⟨i,acc++[x],v2,s2,by omega,rfl,htab,hs2,by rw[List.length_append,List.length_singleton];omega,h⟩ (by simp only;omega)
 ·obtain rfl:j=0:=by omega
  rw[XK] at htab
  rw[←htab] at no yes
  simp only at no yes
  refine h.ask (fun B2 own base2=>nY (own (i:=0) rfl)) fun w8 h=>?_
  rw[V8,K5,Q5]
  refine⟨fun cd=>?_,fun cd=>no (if_neg (by rw[cd];decide)) _ _ h⟩
  have h:=h.pick [1] (by decide)
  exact yes acc v (if_pos cd) _ h
end
end Go.Proofs.YtngbebnhegcokaaGreatDoor
namespace Go.Proofs.YtngbebnhegcokaaGreatDoor
open Go.Proofs.Tryz (prog)
open Go.RowKit
set_option maxRecDepth 100000
abbrev Val:=R9
def vj0(x:Val):Bool:=if x.kind=0 then decide (x.s=⟨#[]⟩) else if x.kind=1 then decide (x.n=0)&&decide (x.s.size≤200) else decide (x.kind=2)&&(decide (x.n=0)||decide (x.n=1))&&decide (x.s=⟨#[]⟩)
def UK(l:List Val):Bool:=decide (l.length≤12)&&l.all vj0
set_option maxRecDepth 100000
set_option maxRecDepth 100000 in
theorem SA0(v:Val):ET v=vj0 v:=by
 obtain⟨k,n,s⟩:=v
 unfold ET vj0 lG0 ws0 Of0
 simp only[R9.mk.injEq]
 by_cases h0:k=0
 ·simp [h0]
 ·by_cases h1:k=1
  ·have hs:((s.size:Int)≤200)↔s.size≤200:=by omega
   simp [h1,hs]
  ·simp only[h0,h1,if_false]
   by_cases h2:k=2
   ·by_cases h3:n=0
    ·simp [h2,h3]
    ·simp [h2,h3]
   ·simp [h2]
set_option maxRecDepth 100000 in
theorem If0(l:List Val):qV l=UK l:=by
 unfold qV UK
 have:ET=vj0:=by funext v;exact SA0 v
 rw[this,show decide ((l.length:Int)≤12)=decide (l.length≤12) from decide_eq_decide.2 (by omega)]
set_option maxRecDepth 100000 in
theorem us0{B:Base}{v:Value}{l:List Val}(r:Q4 v l B)(hs:∀x∈l,x.s.size≤9223372036854775807):Gives prog B (Z0 vF #[v]) (.bool (UK l)):=by
 rw[←If0];exact Jf0 r
end Go.Proofs.YtngbebnhegcokaaGreatDoor
namespace Go.Proofs.YtngbebnhegcokaaGreatDoor
open Go.Proofs.Tryz (prog)
open Go.RowKit
set_option maxRecDepth 100000
structure Ev where
 part:Int
 pos:Int
 source:ByteArray
 schema:Int
 time:Int
 row:List Val
 deriving DecidableEq
def Ev.raw(e:Ev)(v:SV):EI:=⟨e.part,e.pos,e.source,e.schema,e.time,v⟩
abbrev EvL:=List (Ev×SV)
def MW(L:EvL):List EI:=L.map fun p=>p.1.raw p.2
def evs(L:EvL):List Ev:=L.map (·.1)
def fc0(L:EvL):Dat:=Dat.all L fun p=>Q4 p.2.1 p.1.row
def ne0(p:Ev×SV):Dat:=V3 R3 p.2.1 p.1.row
def rN0(v:Value)(L:EvL)(B:Base):Prop:=Q4 v (MW L) B∧fc0 L B
section
variable {B:Base}
theorem zH0(e:Ev)(v:SV)(r:Q4 v.1 e.row B)(hl:e.row.length≤1000000):Makes prog B (Z0 KS #[(e.raw v).v]) fun u τ=>∃v':SV,u=(e.raw v').v∧τ=[ne0 (e,v')]:=by
 refine Makes.intro fun B' w K base h k=>?_
 replace r:=base r
 refine YR.up ?_
 unfold YR.pt
 refine h.box fun b w1 h=>?_
 replace h:Rel B' w1 [O1 b X5 (e.raw v).cs.toArray]:=by
  have e1:((e.raw v).v:Value).cells=(e.raw v).cs.toArray:=Enc.cells_val (e.raw v)
  rw[e1] at h
  exact h
 refine h.alloc Rf0 fun b2 w2 h=>?_
 simp -zeta only[U0 BU,Nat.zero_add,h.ld 0 rfl V7 (o:=5) rfl]
 refine h.make (fun B2 own base2=>rM (base2 r) (by omega) (by omega)) fun v' τ w3 hp h=>?_
 subst hp
 have h1:v'.oneCell'=true:=h.oneCell (i:=2) rfl
 refine h.st 0 rfl V7 (show 5<6 by omega) h1 fun w4 h=>?_
 rw[h.Q9 0 rfl XI rfl]
 refine h.Av0 1 rfl XI rfl (by decide) (fun u hu=>Enc.one (e.raw ⟨v',h1⟩) u hu) fun w5 h=>?_
 rw[CJ h 1 rfl XI rfl]
 exact k _ [ne0 (e,⟨v',h1⟩)] _ ⟨⟨v',h1⟩,rfl,rfl⟩ (h.pick [2] (by decide))
end
structure St where
 part:Int
 first:Int
 horizon:Int
 events:List Ev
def St.next(s:St):Int:=s.first+s.events.length
def iR(s:St)(e:Ev):Bool:=decide (e.part=s.part)&&(decide (e.source.size≤200)&&(decide (0≤e.schema)&&(decide (0≤e.time)&&decide (e.time≤1099511627776))))
def QS(s:St)(e:Ev):Int×St:=if iR s e=true then if UK e.row=true then if e.pos=s.next then if s.events.length<2000 then(0,{ s with events:=s.events++[e] }) else(6,s) else(25,s) else(16,s) else(1,s)
def hor(h:Int)(l:List Ev):Int:=l.foldl (fun h e=>max h (e.time+1)) h
def fH0(s:St)(n:Nat):St:=⟨s.part,s.first+n,hor s.horizon (s.events.take n),s.events.drop n⟩
def okS(s:St):Prop:=0≤s.first∧s.first≤2305843009213693952∧s.events.length≤2000∧∀e∈s.events,e.row.length≤1000000 ∧ -1≤e.time∧e.time≤1099511627776
def GX(b:Nat)(s:St)(v:Value):Dat:=O1 b O8 #[.int .i64 s.part,.int .i64 s.first,.int .i64 s.horizon,v]
def FC(b:Nat)(s:St):Dat:=Dat.ex fun p:SV×EvL=>(Dat.pure (evs p.2=s.events∧okS s)).and ((GX b s p.1.1).star ((V3 X5 p.1.1 (MW p.2)).star (fc0 p.2)))
def XZ(b:Nat)(s:St)(B:Base):Prop:=∃(v:SV) (L:EvL),evs L=s.events∧okS s∧GX b s v.1 B∧rN0 v.1 L B
theorem FC.read{b:Nat}{s:St}{B:Base}(h:FC b s B):XZ b s B:=by
 obtain⟨⟨v,L⟩,⟨h1,h2⟩,h3⟩:=h
 exact⟨v,L,h1,h2,Dat.star.left h3,V3.read (Dat.star.left (Dat.star.right h3)),Dat.star.right (Dat.star.right h3)⟩
theorem XZ.mono{b:Nat}{s:St}{B B':Base}(h:XZ b s B)(hb:∀{d:Dat},d B→d B'):XZ b s B':=by
 obtain⟨v,L,h1,h2,h3,h4,h5⟩:=h
 exact⟨v,L,h1,h2,hb h3,hb h4,hb h5⟩
theorem Cv0{B:Base}{w:World}{b:Nat}{s:St}(h:Rel B w [FC b s]):∃(v:SV) (L:EvL),evs L=s.events∧okS s∧Rel B w [GX b s v.1,V3 X5 v.1 (MW L),fc0 L]:=by
 obtain⟨⟨v,L⟩,h⟩:=h.ex (i:=0) rfl
 obtain⟨⟨h1,h2⟩,h⟩:=h.iW (i:=0) rfl
 have h:=h.split (i:=0) rfl
 have h:=Rel.split (i:=1) h rfl
 exact⟨v,L,h1,h2,h⟩
theorem LX{B:Base}{w:World}{b:Nat}{s:St}{v:Value}{L:EvL}{τ:List Dat}(h:Rel B w (GX b s v :: V3 X5 v (MW L) :: fc0 L :: τ))(he:evs L=s.events)(ho:okS s):Rel B w (FC b s :: τ):=by
 have hv:v.oneCell'=true:=h.oneCell (i:=1) rfl
 have h:=h.join 1 2 rfl rfl (by omega)
 have h:=h.join 0 1 rfl rfl (by omega)
 have h:=h.imp (i:=0) (e:=FC b s) rfl fun B hB=>⟨⟨⟨v,hv⟩,L⟩,⟨he,ho⟩,hB⟩
 exact Rel.mid (σ:=[FC b s]) (ρ:=[emp,emp]) h
section
variable {B:Base} {b:Nat} {s:St}
theorem Rb0{L:EvL}{l:List Ev}(h:evs L=l):(MW L).length=l.length:=by subst h;simp [MW,evs]
theorem KE0(hs:XZ b s B):Gives prog B (Z0 qH #[ptr b]) (.int .i64 s.next):=by
 refine Gives.intro fun B' w K base h k=>?_
 obtain⟨v,L,he,ho,hc,hr,-⟩:=hs.mono base
 obtain⟨o1,o2,o3,-⟩:=ho
 refine kK.up ?_
 unfold kK.pt
 simp -zeta only[y5,U0 fV,U0 uP,Nat.zero_add,O1.ld (h.tick.K6 hc) F3 (o:=1) rfl,O1.ld (h.tick.K6 hc) qB (o:=3) rfl,Q4.len hr iE,V5,Rb0 he]
 rw[D5 (by omega) (by omega)]
 exact k _ _ h.tick
theorem fJ0(hs:XZ b s B)(e:Ev)(v:SV):Gives prog B (Z0 EK #[ptr b,(e.raw v).v]) (.bool (iR s e)):=by
 refine Gives.intro fun B' w K base h k=>?_
 obtain⟨v',L,he,ho,hc,-⟩:=hs.mono base
 refine sJ.up ?_
 unfold sJ.pt
 refine h.box fun b1 w1 h=>?_
 have e1:((e.raw v).v:Value).cells=(e.raw v).cs.toArray:=Enc.cells_val (e.raw v)
 rw[e1] at h
 have h:=h.tick
 have hc:=h.K6 hc
 simp -zeta only[y5,U0 qk0,U0 SY,U0 TY,U0 UY,U0 dV,Nat.zero_add,O1.ld hc F3 (o:=0) rfl,h.ld 0 rfl F3 (o:=0) rfl,h.ld 0 rfl V6 (o:=2) rfl,h.ld 0 rfl F3 (o:=3) rfl,h.ld 0 rfl F3 (o:=4) rfl,WC C8,V5,eF,dw0,D6,gD,A_,LD,O6,X7,wa0,sC0,V8,PP,kL,K5,K3,VC,t_,h_,Y9,PV,Kg0,Lg0,decide_true,decide_false,Bool.not_true,Bool.not_false,y5]
 have kk:=fun b (hb:iR s e=b)=>(show K (.bool b) (tick w1) by rw[←hb];exact k _ _ h)
 have hu:iR s e=(decide (e.part=s.part)&&(decide (e.source.size≤200)&&(decide (0≤e.schema)&&(decide (0≤e.time)&&decide (e.time≤1099511627776))))):=rfl
 refine⟨fun h1=>⟨fun h2=>⟨fun h3=>⟨fun h4=>?_,fun h4=>?_⟩,fun h3=>?_⟩,fun h2=>?_⟩,fun h1=>?_⟩
 ·refine kk _ ?_
  have h1:e.part=s.part:=h1
  have h2:(e.source.size:Int)≤200:=h2
  rw[hu,decide_eq_true h1,decide_eq_true (show e.source.size≤200 by omega),decide_eq_true (show 0≤e.schema from h3),decide_eq_true (show 0≤e.time from h4)]
  simp only[Bool.true_and]
  rfl
 ·refine kk _ ?_
  rw[hu,decide_eq_false (p:=0≤e.time) h4];simp
 ·refine kk _ ?_
  rw[hu,decide_eq_false (p:=0≤e.schema) h3];simp
 ·refine kk _ ?_
  have h2:¬(e.source.size:Int)≤200:=h2
  rw[hu,decide_eq_false (p:=e.source.size≤200) (by omega)];simp
 ·refine kk _ ?_
  rw[hu,decide_eq_false (p:=e.part=s.part) h1];simp
end
section
variable {B:Base} {b:Nat} {s:St}
theorem vK0(part:Int):Makes prog B (Z0 BV #[.int .i64 part]) fun u τ=>∃b,u=ptr b∧τ=[FC b ⟨part,0,0,[]⟩]:=by
 refine Makes.intro fun B' w K base h k=>?_
 refine nW.up ?_
 unfold nW.pt
 simp -zeta only[va0]
 refine h.box fun b w1 h=>?_
 have h:=h.oG EI X5
 refine k _ _ _ ⟨b,rfl,rfl⟩ ?_
 have ho:okS ⟨part,0,0,[]⟩:=⟨Int.le_refl 0,by show (0:Int)≤_;decide,Nat.zero_le _,fun e he=>by cases he⟩
 have h:Rel B' w1 ([GX b ⟨part,0,0,[]⟩ (.slice none 0 0),V3 X5 (.slice none 0 0) (MW [])]++([]:EvL).map ne0):=h
 have h:=h.gather (g:=fun p=>Q4 p.2.1 p.1.row) (fun x hx=>by cases hx)
 exact LX (τ:=[]) h rfl ho
theorem RK0(e:Ev)(v:SV)(r:Q4 v.1 e.row B)(hz:∀x∈e.row,x.s.size≤9223372036854775807) :
  Does prog B (FC b s) (Z0 WI #[ptr b,(e.raw v).v]) fun u e' τ=>u = .int .i64 (QS s e).1∧e'=FC b (QS s e).2∧τ=[]:=by
 refine Does.intro fun B' w K base h k=>?_
 replace r:=base r
 obtain⟨v0,L,he,ho,h⟩:=Cv0 h
 refine DL.up ?_
 unfold DL.pt
 refine h.box fun b1 w1 h=>?_
 have e1:((e.raw v).v:Value).cells=(e.raw v).cs.toArray:=Enc.cells_val (e.raw v)
 rw[e1] at h
 replace h:Rel B' w1 [GX b s v0.1,V3 X5 v0.1 (MW L),fc0 L,O1 b1 X5 (e.raw v).cs.toArray]:=h
 have same:∀w' c,(QS s e)=(c,s)→Rel B' w' [GX b s v0.1,V3 X5 v0.1 (MW L),fc0 L,O1 b1 X5 (e.raw v).cs.toArray]→K (.int .i64 c) w':=fun w' c hc h=>by
  rw[hc] at k
  exact k _ _ _ _ ⟨rfl,rfl,rfl⟩ ((LX h he ho).take 1)
 rw[h.Q9 3 rfl XI rfl]
 refine h.ask (fun B2 own base2=>fJ0 ⟨v0,L,he,ho,own (i:=0) rfl,V3.read (own (i:=1) rfl),own (i:=2) rfl⟩ e v) fun w2 h=>?_
 rw[V8,K5,Q5]
 refine⟨fun hr=>?_,fun hr=>same _ _ (by unfold QS;rw[if_neg (by rw[hr];decide)]) h⟩
 simp -zeta only[U0 BU,Nat.zero_add,h.ld 3 rfl V7 (o:=5) rfl]
 refine h.ask (fun B2 own base2=>us0 (base2 r) hz) fun w3 h=>?_
 rw[V8,K5,Q5]
 refine⟨fun hrr=>?_,fun hrr=>same _ _ (by unfold QS;rw[if_pos hr,if_neg (by rw[hrr];decide)]) h⟩
 have h:=h.tick
 simp -zeta only[U0 rk0,Nat.zero_add,h.ld 3 rfl F3 (o:=1) rfl]
 refine h.ask (fun B2 own base2=>KE0 ⟨v0,L,he,ho,own (i:=0) rfl,V3.read (own (i:=1) rfl),own (i:=2) rfl⟩) fun w4 h=>⟨h.is 3 rfl F3 (o:=1) rfl,?_⟩
 simp -zeta only[X7,K5,K3]
 refine⟨fun(hp:e.pos=s.next)=>?_,fun(hp:¬e.pos=s.next)=>same _ _ (by unfold QS;rw[if_pos hr,if_pos hrr,if_neg hp]) h⟩
 obtain⟨o1,o2,o3,o4⟩:=ho
 have hrd:=V3.read (h.here (i:=1) rfl)
 simp -zeta only[y5,U0 uP,Nat.zero_add,h.ld 0 rfl qB (o:=3) rfl,Q4.len hrd iE,Rb0 he,LD,K3]
 refine⟨fun hf=>same _ _ (by unfold QS;rw[if_pos hr,if_pos hrr,if_pos hp,if_neg (by omega)]) h,fun hf=>?_⟩
 have hok:QS s e=(0,{ s with events:=s.events++[e] }):=by unfold QS;rw[if_pos hr,if_pos hrr,if_pos hp,if_pos (by omega)]
 have h:=h.tick
 rw[h.ld 0 rfl qB (o:=3) rfl,h.Q9 3 rfl XI rfl]
 have hl:e.row.length≤1000000:=by
  have h12:=hrr
  unfold UK at h12
  rw[Bool.and_eq_true] at h12
  have:=of_decide_eq_true h12.1
  omega
 refine h.make (fun B2 own base2=>zH0 e v (base2 r) hl) fun y τ w5 hp2 h=>?_
 obtain⟨v',rfl,rfl⟩:=hp2
 refine⟨h.is 0 rfl qB (o:=3) rfl,?_⟩
 have hrl:=Rb0 he
 refine h.bH (e.raw v') iE (by decide) fun t w6 h=>⟨h.is 0 rfl qB (o:=3) rfl,?_⟩
 refine h.append 1 rfl iE (Rd.at 5 rfl) (by simp;omega) (by simp;omega) fun u w7 h=>?_
 have hu:u.oneCell'=true:=h.oneCell (i:=1) rfl
 refine h.st 0 rfl qB (show 3<4 by omega) hu fun w8 h=>?_
 rw[hok] at k
 refine k _ _ _ _ ⟨rfl,rfl,rfl⟩ ?_
 have h:=h.pick [0,1,2,4] (by decide)
 have h:=h.join 2 3 rfl rfl (by omega)
 have h:=h.imp (i:=2) (e:=fc0 (L++[(e,v')])) rfl fun B hB=>Dat.all_append (Dat.star.left hB) (by
  intro p hp
  simp only[List.mem_cons,List.not_mem_nil,or_false] at hp
  subst hp
  exact V3.read (Dat.star.right hB))
 have h:=h.take 3
 have hev:MW L++[e.raw v']=MW (L++[(e,v')]):=by simp [MW]
 have h:Rel B' w8 [GX b { s with events:=s.events++[e] } u,V3 X5 u (MW L++[e.raw v']),fc0 (L++[(e,v')])]:=h
 rw[hev] at h
 refine LX (s:={ s with events:=s.events++[e] }) (τ:=[]) h (by simp [evs,←he]) ⟨o1,o2,by simp;omega,fun x hx=>?_⟩
 rcases List.mem_append.1 hx with hx | hx
 ·exact o4 x hx
 ·simp only[List.mem_cons,List.not_mem_nil,or_false] at hx
  subst hx
  simp only[iR,Bool.and_eq_true,decide_eq_true_eq] at hr
  exact⟨hl,by omega,by omega⟩
theorem dN0(e:Ev)(v:SV)(r:Q4 v.1 e.row B)(_:e.row.length≤1000000)(hz:∀x∈e.row,x.s.size≤9223372036854775807) :
  Does prog B (FC b s) (Z0 WI #[ptr b,(e.raw v).v]) fun u e' τ=>u = .int .i64 (QS s e).1∧e'=FC b (QS s e).2∧τ=[]:=RK0 e v r hz
def fM0(u:Value)(es:List Ev)(τ:List Dat):Prop:=∃L':EvL,evs L'=es∧τ=V3 X5 u (MW L') :: L'.map ne0
end
def evB(e:Ev):Bs:=((bB (bl e.source)++encI e.schema)++encI e.time)++bB (pG e.row)
def mK0(s:St):Bs:=(((encI s.part++encI s.first)++encI s.horizon)++encI s.events.length)++s.events.flatMap evB
structure sU (s:St) (e:Ev):Prop where
 right:iR s e=true
 row:UK e.row=true
 vals:∀v∈e.row,iL v
 schema:inI e.schema
 time:inI e.time
theorem sU.src{s:St}{e:Ev}(h:sU s e):(bl e.source).length≤200:=by
 have:=h.right
 unfold iR at this
 simp only[Bool.and_eq_true,decide_eq_true_eq] at this
 rw[y8];exact this.2.1
theorem sU.part{s:St}{e:Ev}(h:sU s e):e.part=s.part:=by
 have:=h.right
 unfold iR at this
 simp only[Bool.and_eq_true,decide_eq_true_eq] at this
 exact this.1
theorem sU.tm{s:St}{e:Ev}(h:sU s e):0≤e.time∧e.time≤1099511627776∧0≤e.schema:=by
 have:=h.right
 unfold iR at this
 simp only[Bool.and_eq_true,decide_eq_true_eq] at this
 exact⟨this.2.2.2.1,this.2.2.2.2,this.2.2.1⟩
theorem sU.len{s:St}{e:Ev}(h:sU s e):e.row.length≤12∧∀v∈e.row,(bl v.s).length≤200:=by
 have:=h.row
 unfold UK at this
 rw[Bool.and_eq_true] at this
 refine⟨of_decide_eq_true this.1,fun v hv=>?_⟩
 have hv:=List.all_eq_true.1 this.2 v hv
 unfold vj0 at hv
 by_cases h0:v.kind=0
 ·rw[if_pos h0] at hv
  rw[of_decide_eq_true hv];exact Nat.zero_le _
 rw[if_neg h0] at hv
 by_cases h1:v.kind=1
 ·rw[if_pos h1,Bool.and_eq_true] at hv
  rw[y8];exact of_decide_eq_true hv.2
 rw[if_neg h1,Bool.and_eq_true] at hv
 rw[of_decide_eq_true hv.2];exact Nat.zero_le _
theorem Yh0{l:List Val}(h1:l.length≤12)(h2:∀v∈l,(bl v.s).length≤200)(hg:∀v∈l,iL v):(pG l).length≤4000:=by
 have:=GG tO l 264 fun v hv=>el0 (hg v hv) (h2 v hv)
 have h3:=X6 (n:=(l.length:Int)) ⟨by omega,by omega⟩
 unfold pG
 rw[List.length_append]
 have:264 * l.length≤264 * 12:=Nat.mul_le_mul_left _ h1
 omega
theorem qH0{s:St}{e:Ev}(h:sU s e):(evB e).length≤5000:=by
 have h1:=LF (bl e.source) (by have:=h.src;omega)
 have h2:=X6 h.schema
 have h3:=X6 h.time
 have h4:=Yh0 h.len.1 h.len.2 h.vals
 have h5:=LF (pG e.row) (by omega)
 have:=h.src
 unfold evB
 simp only[List.length_append]
 omega
structure QW (s:St):Prop where
 part:inI s.part
 first:0≤s.first∧s.first≤1152921504606846976
 horz:0≤s.horizon∧s.horizon≤1099511627777
 zero:s.horizon=0↔s.first=0
 count:s.events.length≤2000
 good:∀e∈s.events,sU s e
 pos:∀i (h:i<s.events.length),s.events[i].pos=s.first+i
theorem mt0(s:St)(e:Ev):((QS s e).1=0∧(QS s e).2={ s with events:=s.events++[e] }∧iR s e=true∧UK e.row=true∧e.pos=s.next∧s.events.length<2000)∨((QS s e).1≠0∧(QS s e).2=s):=by
 unfold QS
 by_cases h1:iR s e=true
 ·rw[if_pos h1]
  by_cases h2:UK e.row=true
  ·rw[if_pos h2]
   by_cases h3:e.pos=s.next
   ·rw[if_pos h3]
    by_cases h4:s.events.length<2000
    ·rw[if_pos h4];exact .inl ⟨rfl,rfl,h1,h2,h3,h4⟩
    ·rw[if_neg h4];exact .inr ⟨show (6:Int)≠0 by decide,rfl⟩
   ·rw[if_neg h3];exact .inr ⟨show (25:Int)≠0 by decide,rfl⟩
  ·rw[if_neg h2];exact .inr ⟨show (16:Int)≠0 by decide,rfl⟩
 ·rw[if_neg h1];exact .inr ⟨show (1:Int)≠0 by decide,rfl⟩
theorem VG0{s:St}{e:Ev}(h1:iR s e=true)(h2:UK e.row=true)(h3:e.pos=s.next)(h4:s.events.length<2000):QS s e=(0,{ s with events:=s.events++[e] }):=by
 unfold QS
 rw[if_pos h1,if_pos h2,if_pos h3,if_pos h4]
theorem tu0(h:Int):∀l:List Ev,h≤hor h l∧∀e∈l,e.time+1≤hor h l
 | []=>⟨Int.le_refl _,fun e he=>by cases he⟩
 | a :: l=>by
  obtain⟨h1,h2⟩:=tu0 (max h (a.time+1)) l
  show h≤hor (max h (a.time+1)) l∧∀e∈a :: l,e.time+1≤hor (max h (a.time+1)) l
  refine⟨by omega,fun e he=>?_⟩
  rcases List.mem_cons.1 he with rfl | he
  ·omega
  ·exact h2 e he
theorem QD0{M:Int}:∀(l:List Ev) (h:Int),h≤M→(∀e∈l,e.time+1≤M)→hor h l≤M
 | [],h,h1,_=>h1
 | a :: l,h,h1,h2=>QD0 l (max h (a.time+1)) (by have:=h2 a List.mem_cons_self;omega) fun e he=>h2 e (List.mem_cons_of_mem _ he)
theorem QW.add{s:St}(h:QW s)(e:Ev)(hv:∀v∈e.row,iL v)(hs:inI e.schema)(ht:inI e.time):QW (QS s e).2:=by
 rcases mt0 s e with⟨_,e2,e3,e4,e5,e6⟩ | ⟨_,e2⟩
 ·rw[e2]
  refine⟨h.part,h.first,h.horz,h.zero,by simp only[List.length_append,List.length_singleton];omega,fun x hx=>?_,fun i hi=>?_⟩
  ·rcases List.mem_append.1 hx with hx | hx
   ·have g:=h.good x hx
    exact⟨g.right,g.row,g.vals,g.schema,g.time⟩
   ·rw[List.mem_singleton.1 hx];exact⟨e3,e4,hv,hs,ht⟩
  ·simp only[List.length_append,List.length_singleton] at hi
   by_cases c:i<s.events.length
   ·simp only[List.getElem_append_left c];exact h.pos i c
   ·have e7:i=s.events.length:=by omega
    subst e7
    simp only[List.getElem_append_right (Nat.le_refl _),Nat.sub_self,List.getElem_cons_zero]
    exact e5
 ·rw[e2];exact h
theorem QW.cut{s:St}(h:QW s){n:Nat}(hn:n≤s.events.length)(hb:s.first+s.events.length≤1152921504606846976):QW (fH0 s n):=by
 have h1:=h.first
 have h2:=h.horz
 obtain⟨g1,g2⟩:=tu0 s.horizon (s.events.take n)
 have htm:∀e∈s.events.take n,0≤e.time∧e.time+1≤1099511627777:=fun e he=>by
  have:=(h.good e (List.mem_of_mem_take he)).tm
  omega
 refine⟨h.part,⟨by show 0≤s.first+n;omega,by show s.first+n≤_;omega⟩,⟨by show 0≤hor s.horizon (s.events.take n);omega,QD0 _ _ h2.2 fun e he=>(htm e he).2⟩,?_,by show (s.events.drop n).length≤_;rw[List.length_drop];have:=h.count;omega,fun e he=>?_,fun i hi=>?_⟩
 ·show hor s.horizon (s.events.take n)=0↔s.first+n=0
  by_cases c:n=0
  ·subst c
   rw[List.take_zero]
   show s.horizon=0↔s.first+0=0
   rw[Int.add_zero];exact h.zero
  ·have hm:s.events[0]'(by omega)∈s.events.take n:=by
    rw[List.mem_take_iff_getElem];exact⟨0,by omega,rfl⟩
   have:=g2 _ hm
   have:=(htm _ hm).1
   exact⟨fun hh=>by omega,fun hh=>by omega⟩
 ·have g:=h.good e (List.mem_of_mem_drop he)
  exact⟨g.right,g.row,g.vals,g.schema,g.time⟩
 ·have hi2:i<(s.events.drop n).length:=hi
  have e:(fH0 s n).events[i]=(s.events.drop n)[i]'hi2:=rfl
  refine(congrArg Ev.pos e).trans ?_
  rw[List.getElem_drop,h.pos]
  show s.first+((n+i:Nat):Int)=s.first+n+i
  omega
section
variable {B:Base} {w:World} {σ:List Dat}
theorem rm0{b:Nat}{s:St}(hB:lC B)(hs:XZ b s B)(hR:QW s):Gives prog B (Z0 zG #[ptr b]) (.string (ofL (mK0 s))):=by
 refine Gives.zi0 fun B' w K base h start k=>?_
 replace hB:=base hB
 obtain⟨v,L,he,ho,hc,r,q⟩:=hs
 replace hc:=base hc
 replace r:=base r
 replace q:fc0 L B':=base q
 refine rJ.up ?_
 unfold rJ.pt
 have hlen:(MW L).length=s.events.length:=Rb0 he
 have hcount:=hR.count
 have hfi:=hR.first
 have hho:=hR.horz
 have hall:=GG evB s.events 5000 fun e hx=>qH0 (hR.good e hx)
 refine h.alloc WG fun bb w1 h=>?_
 have h:=start w1 bb h
 have h:=h.tick
 have hin:inI (s.events.length:Int):=⟨by omega,by omega⟩
 have f1:inI s.first:=⟨by omega,by omega⟩
 have f2:inI s.horizon:=⟨by omega,by omega⟩
 have l1:=X6 hR.part
 have l2:=X6 f1
 have l3:=X6 f2
 have l4:=X6 hin
 have en:bg0 (s.events.length:Int)=encI s.events.length:=by unfold bg0;rw[if_neg (by omega)]
 have ld:∀{w:World} {σ:List Dat} {o:Nat} {T:TypeId} {x:Value} {Kp:Value→Prop},Rel B' w σ→scB prog T=true→(#[Value.int .i64 s.part,.int .i64 s.first,.int .i64 s.horizon,v.1]:Array Value).toList[o]? = some x→Y0 prog (X0 T (.pointer (some ⟨b,o,none⟩))) w Kp=Kp x:=fun h ht hx=>O1.ld (h.K6 hc) ht hx
 have is:∀{w:World} {σ:List Dat} {o:Nat} {T:TypeId} {x:Value},Rel B' w σ→scB prog T=true→(#[Value.int .i64 s.part,.int .i64 s.first,.int .i64 s.horizon,v.1]:Array Value).toList[o]? = some x→Is prog (X0 T (.pointer (some ⟨b,o,none⟩))) x w:=fun h ht hx=>O1.is (h.K6 hc) ht hx
 have lenIs:∀{w:World} {σ:List Dat},Rel B' w σ→Is prog (J5 .len #[R7] Q0 #[false] #[v.1]) (.int .i64 s.events.length) w:=fun _=>YD0 fun {K}=>by rw[Q4.len r iE,hlen]
 simp -zeta only[y5,U0 dV,U0 fV,U0 vd0,U0 uP,Nat.add_zero,Nat.zero_add]
 rw[ld h F3 (o:=0) rfl,ld h F3 (o:=1) rfl,ld h F3 (o:=2) rfl,ld h qB (o:=3) rfl,Q4.len r iE,hlen]
 refine h.ask (fun B2 own base2=>KC (base2 hB) hR.part) fun w2 h=>?_
 refine⟨lenIs h,is h qB (o:=3) rfl,is h F3 (o:=2) rfl,is h F3 (o:=1) rfl,?_⟩
 refine h.ask (fun B2 own base2=>KC (base2 hB) f1) fun w3 h=>?_
 refine⟨lenIs h,is h qB (o:=3) rfl,is h F3 (o:=2) rfl,?_⟩
 rw[q9 (by omega)]
 refine h.ask (fun B2 own base2=>KC (base2 hB) f2) fun w4 h=>?_
 refine⟨lenIs h,is h qB (o:=3) rfl,?_⟩
 rw[q9 (by simp only[List.length_append];omega)]
 refine h.ask (fun B2 own base2=>Oj0 (base2 hB) hin) fun w5 h=>?_
 rw[en,q9 (by simp only[List.length_append];omega)]
 refine h.mO (Nat.le_refl _) (by rw[J_];simp only[List.length_append,List.length_nil];omega) fun _ w6 h=>?_
 rw[BD,List.nil_append] at h
 rw[ld h qB (o:=3) rfl,Q4.len r iE,hlen]
 unfold mK0 at k
 generalize hhd:(((encI s.part++encI s.first)++encI s.horizon)++encI s.events.length)=hd at *
 have hhl:hd.length≤84:=by rw[←hhd];simp only[List.length_append];omega
 refine M6 (fun x w'=>∃i:Nat,i≤s.events.length∧x=(.int .i64 i,())∧Rel B' w' [qP B'.W.heap.size bb (hd++(s.events.take i).flatMap evB)]) (fun x _=>s.events.length-(match x.1 with | .int _ n=>n.toNat | _=>0))
  ⟨0,Nat.zero_le _,rfl,by simpa using h⟩ ?_
 clear h
 rintro x w7 ⟨i,hi,rfl,h⟩ next hnext
 simp -zeta only[D6,K3]
 refine⟨fun hlt=>?_,fun hge=>?_⟩
 ·have hil:i<s.events.length:=by omega
  have hiL:i<L.length:=by rw[←he,evs,List.length_map] at hil;exact hil
  obtain⟨g,o,hx,hcl⟩:=Q4.idx r iE (P:=prog) (i:=i) (by rw[hlen];exact hil)
  have hev:s.events[i]=L[i].1:=by
   have:s.events[i]? = (evs L)[i]? := by rw[he]
   rw[List.getElem?_eq_getElem hil,evs,List.getElem?_map,List.getElem?_eq_getElem hiL] at this
   injection this
  have hraw:(MW L)[i]'(by rw[hlen];exact hil)=L[i].1.raw L[i].2:=by simp [MW]
  rw[hraw] at hcl
  have hcl:F6 g o (L[i].1.raw L[i].2).cs B':=hcl
  have hq:Q4 L[i].2.1 L[i].1.row B':=q _ (List.getElem_mem hiL)
  have hgd:=hR.good s.events[i] (List.getElem_mem hil)
  rw[hev] at hgd
  have hstep:=qI evB hil
  have hle:=fF evB s.events (i+1)
  rw[hstep,List.length_append,hev] at hle
  rw[hev] at hstep
  generalize L[i].1=e at *
  generalize L[i].2=ev at *
  have hsrc:=hgd.src
  have hrl:=Yh0 hgd.len.1 hgd.len.2 hgd.vals
  have a1:=LF (bl e.source) (by omega)
  have a2:=X6 hgd.schema
  have a3:=X6 hgd.time
  have a4:=LF (pG e.row) (by omega)
  rw[hx,F6.Q9 (h.K6 hcl) XI rfl]
  refine h.r9 (ds:=(e.raw ev).cs.toArray) Rf0 rfl XI rfl (fun v hv=>Enc.one (e.raw ev) v hv) fun a w9 h=>?_
  have h:Rel B' w9 [qP B'.W.heap.size bb (hd++(s.events.take i).flatMap evB),O1 a X5 (e.raw ev).cs.toArray]:=h
  have h:=h.tick
  simp -zeta only[U0 SY,U0 TY,U0 UY,U0 BU,Nat.add_zero,Nat.zero_add]
  rw[h.ld 1 rfl V6 (o:=2) (v := .string e.source) rfl,h.ld 1 rfl F3 (o:=3) (v := .int .i64 e.schema) rfl,h.ld 1 rfl F3 (o:=4) (v := .int .i64 e.time) rfl,h.ld 1 rfl V7 (o:=5) (v:=ev.1) rfl]
  have es:e.source=ofL (bl e.source):=(bW e.source).symm
  refine h.ask (v := .string (ofL (bB (bl e.source)))) (fun B2 own base2=>by have:=nU (B:=B2) (base2 hB) (s:=bl e.source) (by omega);rw[←es] at this;exact this) fun w10 h=>?_
  refine⟨h.is 1 rfl V7 (o:=5) rfl,h.is 1 rfl F3 (o:=4) rfl,h.is 1 rfl F3 (o:=3) rfl,?_⟩
  refine h.ask (fun B2 own base2=>KC (base2 hB) hgd.schema) fun w11 h=>?_
  refine⟨h.is 1 rfl V7 (o:=5) rfl,h.is 1 rfl F3 (o:=4) rfl,?_⟩
  rw[q9 (by omega)]
  refine h.ask (fun B2 own base2=>KC (base2 hB) hgd.time) fun w12 h=>?_
  refine⟨h.is 1 rfl V7 (o:=5) rfl,?_⟩
  rw[q9 (by simp only[List.length_append];omega)]
  refine h.ask (fun B2 own base2=>yj0 (base2 hB) (base2 hq) (by have:=hgd.len.1;omega) fun v hv=>⟨hgd.vals v hv,by have:=hgd.len.2 v hv;omega⟩) fun w13 h=>?_
  refine h.ask (fun B2 own base2=>nU (base2 hB) (by omega)) fun w14 h=>?_
  rw[q9 (by simp only[List.length_append];omega)]
  have hevl:(evB e).length=(bB (bl e.source)).length+(encI e.schema).length+(encI e.time).length+(bB (pG e.row)).length:=by unfold evB;simp only[List.length_append]
  refine(h.take 1).mO (Nat.le_refl _) (by rw[J_];simp only[List.length_append];omega) fun _ w15 h=>?_
  rw[BD] at h
  rw[V5,D5 (by omega) (by omega)]
  refine hnext _ _ ⟨i+1,hil,rfl,?_⟩ (by simp only;omega)
  rw[hstep,←List.append_assoc]
  exact h
 ·refine h.WU (Nat.le_refl _) fun w7 h=>?_
  have hie:i=s.events.length:=by omega
  subst hie
  rw[List.take_length]
  exact k _ _ h
end
section
variable {B:Base}
theorem fM0.read{σ:List Dat}{u:Value}{L':EvL}{B2:Base}(own:∀{i:Nat} {d:Dat},(σ++V3 X5 u (MW L') :: L'.map ne0)[i]? = some d→d B2):rN0 u L' B2:=by
 refine⟨V3.read (E:=X5) (own (i:=σ.length) (by rw[List.getElem?_append_right (Nat.le_refl _)];simp)),fun p hp=>?_⟩
 obtain⟨m,hm,rfl⟩:=List.getElem_of_mem hp
 have:ne0 L'[m] B2:=own (i:=σ.length+(m+1)) (by rw[List.getElem?_append_right (by omega)];simp [hm])
 exact V3.read (E:=R3) (v:=L'[m].2.1) (l:=L'[m].1.row) this
end
structure EnP where
 kind:Int
 producer:Int
 epoch:Int
 seq:Int
 source:ByteArray
 schema:Int
 time:Int
 row:List KD
 deriving DecidableEq
def EnP.raw(e:EnP)(v:SV):EnD:=⟨e.kind,e.producer,e.epoch,e.seq,e.source,e.schema,e.time,v⟩
def eU:EnP:=⟨4,0,0,0,⟨#[]⟩,0,0,[]⟩
def xZ(e:EnP):Bs:=encI e.kind++encI e.producer++encI e.epoch++encI e.seq++bB (bl e.source)++encI e.schema++encI e.time++bB (pG e.row)
noncomputable def OZ(a:Int)(b:Int)(c:Int)(d:Int)(src:Bs)(e:Int)(f:Int)(x:Bs×RS):EnP:=match OO x.1 with
 | some r=>if UT x.2=true then⟨a,b,c,d,ofL src,e,f,r⟩ else eU
 | none=>eU
noncomputable def no0(a b c d:Int)(x:Bs×RS):EnP:=OZ a b c d x.1 (GA x.2).1 (GA (GA x.2).2).1 (SA (GA (GA x.2).2).2)
noncomputable def mo0(x1 x2 x3 x4:Int×RS):EnP:=no0 x1.1 x2.1 x3.1 x4.1 (SA x4.2)
noncomputable def xC(t:Bs):EnP:=mo0 (GA ⟨t,false⟩) (GA (GA ⟨t,false⟩).2) (GA (GA (GA ⟨t,false⟩).2).2) (GA (GA (GA (GA ⟨t,false⟩).2).2).2)
structure Us0 (e:EnP):Prop where
 kind:inI e.kind
 producer:inI e.producer
 epoch:inI e.epoch
 seq:inI e.seq
 schema:inI e.schema
 time:inI e.time
 source:e.source.size≤1000
 len:e.row.length≤100
 row:∀v∈e.row,iL v∧(bl v.s).length≤1000
theorem to0{l:List KD}(hl:l.length≤100)(hg:∀v∈l,iL v∧(bl v.s).length≤1000):(pG l).length≤200000:=by
 unfold pG
 have h1:=X6 (n:=(l.length:Int)) (by unfold inI;omega)
 have h2:=GG tO l 1100 fun v hv=>by
  obtain⟨h1,h2⟩:=hg v hv
  have:=X6 h1.kind
  have:=X6 h1.n
  have:=LF (bl v.s) (by omega)
  unfold tO
  rw[List.length_append,List.length_append]
  omega
 rw[List.length_append]
 omega
theorem im0{e:EnP}(h:Us0 e):xC (xZ e)=e:=by
 have hr:=to0 h.len h.row
 have hs:(bl e.source).length≤1000:=by rw[jO];exact h.source
 have e1:xZ e=encI e.kind++(encI e.producer++(encI e.epoch++(encI e.seq++(bB (bl e.source)++(encI e.schema++(encI e.time++bB (pG e.row))))))):=by
  unfold xZ
  simp only[List.append_assoc]
 unfold xC
 rw[e1,uI h.kind]
 simp only
 rw[uI h.producer]
 simp only
 rw[uI h.epoch]
 simp only
 rw[uI h.seq]
 unfold mo0
 simp only
 rw[RN (by omega)]
 unfold no0
 simp only
 rw[uI h.schema]
 simp only
 rw[uI h.time]
 simp only
 have:=RN (t:=pG e.row) (by omega) []
 rw[List.append_nil] at this
 rw[this]
 unfold OZ
 simp only
 rw[wr0 (by have:=h.len;omega) fun v hv=>(h.row v hv).1]
 simp only
 rw[if_pos (by rfl),QM]
def ksL:List Kn:=[⟨⟨#[115]⟩,1,[⟨⟨#[97]⟩,0,⟨#[]⟩⟩]⟩]
def JR(n m:Int):Int:=if m<1 then 0 else n % m
section
variable {B:Base} {w:World} {σ τ:List Dat} {K:PtK}
theorem iY{n m:Int}(hn:inI n)(hm:inI m):Gives prog B (Z0 bD #[.int .i64 n,.int .i64 m]) (.int .i64 (JR n m)):=by
 refine Gives.intro fun B' w K base h k=>?_
 refine TJ.up ?_
 unfold TJ.pt
 unfold JR at k
 rw[D6,K3]
 refine⟨fun c=>?_,fun c=>?_⟩
 ·rw[if_pos c] at k;exact k _ _ h
 rw[if_neg c] at k
 rw[gw0 (by omega)]
 have h1:=Int.tmod_add_mul_tdiv n m
 have h5:=Int.tmod_lt_of_pos (-n) (show 0<m by omega)
 rw[Int.neg_tmod] at h5
 have h3:n.tmod m<m:=Int.tmod_lt_of_pos n (by omega)
 have h4:n % m=if n.tmod m<0 then n.tmod m+m else n.tmod m:=by
  generalize n.tmod m=r at *
  generalize n.tdiv m=q at *
  split
  ·have e:n=(r+m)+m * (q-1):=by rw[Int.mul_sub,Int.mul_one];omega
   rw[e,Int.add_mul_emod_self_left]
   exact Int.emod_eq_of_lt (by omega) (by omega)
  ·rw[←h1,Int.add_mul_emod_self_left]
   exact Int.emod_eq_of_lt (by omega) (by omega)
 unfold inI at hn hm
 refine Q6 fun J hJ=>?_
 replace hJ:∀w',Rel B' w' []→J (.int .i64 (n % m),()) w':=fun w' h=>hJ _ _ (k _ _ h)
 rw[h4] at hJ
 generalize n.tmod m=r at *
 rw[D6,K3]
 refine⟨fun c2=>?_,fun c2=>?_⟩
 ·rw[if_pos c2] at hJ
  rw[V5,D5 (by omega) (by omega)]
  exact hJ _ h
 ·rw[if_neg c2] at hJ
  exact hJ _ h
theorem Tq0:Makes prog B (Z0 KJ #[]) fun u τ=>τ=[iF u ksL]:=by
 refine Makes.intro fun B' w K base h k=>?_
 refine sH.up ?_
 unfold sH.pt
 rw[cn0]
 refine h.bH (α:=FB0) ⟨⟨#[97]⟩,0,⟨#[]⟩⟩ QO (by decide) fun v w1 h=>?_
 obtain⟨x,n,c,rfl⟩:=FX h 0 rfl
 rw[sZ]
 refine h.bH (α:=KnD) ⟨⟨#[115]⟩,1,⟨.slice x n c,rfl⟩⟩ jE (by decide) fun v2 w2 h=>?_
 refine k _ _ _ rfl (Rel.wrap (σ:=[]) (c:=iF v2 ksL) h fun B2 own=>?_)
 refine⟨[(⟨⟨#[115]⟩,1,[⟨⟨#[97]⟩,0,⟨#[]⟩⟩]⟩,⟨.slice x n c,rfl⟩)],rfl,V3.read (own (i:=1) rfl),fun q hq=>?_⟩
 rw[List.mem_singleton.1 hq]
 exact V3.read (own (i:=0) rfl)
set_option maxHeartbeats 1000000 in
theorem zQ(hB:kH B){e:EnP}{v:SV}(he:Us0 e)(q:Q4 v.1 e.row B):Gives prog B (Z0 TA #[(e.raw v).v]) (.string (ofL (xZ e))):=by
 refine Gives.intro fun B' w K base h k=>?_
 replace hB:=base hB
 replace q:=base q
 refine rH.up ?_
 unfold rH.pt
 have hr:=to0 he.len he.row
 have hs:(bl e.source).length≤1000:=by rw[jO];exact he.source
 have l1:=X6 he.kind
 have l2:=X6 he.producer
 have l3:=X6 he.epoch
 have l4:=X6 he.seq
 have l5:=LF (bl e.source) (by omega)
 have l6:=X6 he.schema
 have l7:=X6 he.time
 have l8:=LF (pG e.row) (by omega)
 refine h.box fun o w1 h=>?_
 have h:Rel B' w1 [O1 o Y1 (e.raw v).cs.toArray]:=h
 have h:=h.tick
 generalize tick w1=w1 at *
 simp -zeta only[U0 AU,U0 eH,U0 oM,U0 XP,U0 pM,U0 YP,U0 fH,U0 gH,Nat.zero_add]
 rw[h.ld 0 rfl F3 (o:=0) (v := .int .i64 e.kind) rfl,h.ld 0 rfl F3 (o:=1) (v := .int .i64 e.producer) rfl,h.ld 0 rfl F3 (o:=2) (v := .int .i64 e.epoch) rfl,h.ld 0 rfl F3 (o:=3) (v := .int .i64 e.seq) rfl,h.ld 0 rfl V6 (o:=4) (v := .string e.source) rfl,h.ld 0 rfl F3 (o:=5) (v := .int .i64 e.schema) rfl,h.ld 0 rfl F3 (o:=6) (v := .int .i64 e.time) rfl,h.ld 0 rfl V7 (o:=7) (v:=v.1) rfl]
 have is:∀{w':World} {T:TypeId} {o':Nat} {x:Value},Rel B' w' [O1 o Y1 (e.raw v).cs.toArray]→scB prog T=true→(e.raw v).cs.toArray.toList[o']? = some x→Is prog (X0 T (.pointer (some ⟨o,o',none⟩))) x w':=fun h ht hx=>h.is 0 rfl ht hx
 refine h.ask (fun B2 own base2=>KC (base2 hB) he.kind) fun w2 h=>?_
 refine⟨is h V7 rfl,is h F3 rfl,is h F3 rfl,is h V6 rfl,is h F3 rfl,is h F3 rfl,is h F3 rfl,?_⟩
 refine h.ask (fun B2 own base2=>KC (base2 hB) he.producer) fun w2 h=>?_
 refine⟨is h V7 rfl,is h F3 rfl,is h F3 rfl,is h V6 rfl,is h F3 rfl,is h F3 rfl,?_⟩
 rw[q9 (by omega)]
 refine h.ask (fun B2 own base2=>KC (base2 hB) he.epoch) fun w2 h=>?_
 refine⟨is h V7 rfl,is h F3 rfl,is h F3 rfl,is h V6 rfl,is h F3 rfl,?_⟩
 rw[q9 (by simp only[List.length_append];omega)]
 refine h.ask (fun B2 own base2=>KC (base2 hB) he.seq) fun w2 h=>?_
 refine⟨is h V7 rfl,is h F3 rfl,is h F3 rfl,is h V6 rfl,?_⟩
 rw[q9 (by simp only[List.length_append];omega)]
 refine h.ask (v := .string (ofL (bB (bl e.source)))) (fun B2 own base2=>by
  have:=nU (base2 hB) (s:=bl e.source) (by omega)
  rw[QM] at this
  exact this) fun w2 h=>?_
 refine⟨is h V7 rfl,is h F3 rfl,is h F3 rfl,?_⟩
 rw[q9 (by simp only[List.length_append];omega)]
 refine h.ask (fun B2 own base2=>KC (base2 hB) he.schema) fun w2 h=>?_
 refine⟨is h V7 rfl,is h F3 rfl,?_⟩
 rw[q9 (by simp only[List.length_append];omega)]
 refine h.ask (fun B2 own base2=>KC (base2 hB) he.time) fun w2 h=>?_
 refine⟨is h V7 rfl,is h F3 rfl,?_⟩
 rw[q9 (by simp only[List.length_append];omega)]
 refine h.ask (fun B2 own base2=>yj0 (base2 hB) (base2 q) (by have:=he.len;omega) fun x hx=>⟨(he.row x hx).1,by have:=(he.row x hx).2;omega⟩) fun w2 h=>?_
 refine⟨is h F3 rfl,is h F3 rfl,?_⟩
 refine h.ask (fun B2 own base2=>nU (base2 hB) (by omega)) fun w2 h=>?_
 refine⟨is h F3 rfl,is h F3 rfl,is h F3 rfl,?_⟩
 rw[q9 (by simp only[List.length_append];omega)]
 exact k _ _ h.nil
end
def YI(L:List (EnP×SV)):List EnD:=L.map fun x=>x.1.raw x.2
def Jg0(L:List (EnP×SV)):Dat:=Dat.all L fun x=>Q4 x.2.1 x.1.row
def fQ(e:EnP):Bool:=decide (e.row.length≤3)&&(decide (e.source.size≤20)&&e.row.all fun v=>decide (v.s.size≤20))
def AH0(l:List EnP)(n:Int):Bool:=decide ((l.length:Int)≤n)&&l.all fQ
section
variable {B:Base} {w:World} {σ τ:List Dat} {K:PtK}
set_option maxHeartbeats 2000000 in
theorem YV(hB:lC B){t:Bs}(ht:t.length≤100000000):Makes prog B (Z0 qC #[.string (ofL t)]) fun u τ=>∃v:SV,u=((xC t).raw v).v∧τ=[V3 R3 v.1 (xC t).row]:=by
 refine Makes.intro fun B' w K base h k=>?_
 replace hB:=base hB
 refine bJ.up ?_
 unfold bJ.pt
 refine h.alloc oU fun t2 w1 h=>?_
 refine h.make (fun B2 own base2=>KZ) fun u τ w2 hp h=>?_
 obtain⟨p,rfl,rfl⟩:=hp
 rw[WW]
 refine h.r9 (ds:=(eU.raw YB).cs.toArray) oU rfl P8 rfl (fun v hv=>Enc.one (eU.raw YB) v hv) fun o4 w3 h=>?_
 have h:Rel B' w3 [O1 t2 Y1 (((⟨0,0,0,0,⟨#[]⟩,0,0,[]⟩:EnP).raw YB).cs.toArray),rdD p ⟨t,false⟩,O1 o4 Y1 (eU.raw YB).cs.toArray]:=h
 rw[uB Sf0,t_]
 have fail:xC t=eU→∀(s:RS) (ρ:List Dat) w',Rel B' w' ([O1 t2 Y1 (((⟨0,0,0,0,⟨#[]⟩,0,0,[]⟩:EnP).raw YB).cs.toArray),rdD p s,O1 o4 Y1 (eU.raw YB).cs.toArray]++ρ) →
   Y0 prog (X0 Y1 (.pointer (some ⟨o4,0,none⟩))) w' fun t50=>upK prog (F4 Y1 (.pointer (some ⟨t2,0,none⟩)) t50) w' fun _ w24=>S9 prog (do loadVar Y1 (←asAddr (.pointer (some ⟨t2,0,none⟩)))) w24 fun t2_2=>K t2_2 w24:=by
  intro e s ρ w' h
  rw[e] at k
  have h:Rel B' w' [O1 t2 Y1 (((⟨0,0,0,0,⟨#[]⟩,0,0,[]⟩:EnP).raw YB).cs.toArray),rdD p s,O1 o4 Y1 (eU.raw YB).cs.toArray]:=h.drop
  rw[h.Q9 2 rfl P8 rfl]
  refine h.xI 0 rfl P8 rfl rfl (fun v hv=>Enc.one (eU.raw YB) v hv) fun w8 h=>?_
  rw[CJ h 0 rfl P8 rfl]
  refine k _ _ _ ⟨YB,rfl,rfl⟩ ?_
  exact(h.nil).oG KD R3
 unfold xC at k fail
 have q1:(GA ⟨t,false⟩).2.rest.length≤t.length:=gK ⟨t,false⟩
 refine h.rd_ 1 rfl (fun B2 own base2=>dR (base2 hB) (show t.length≤_ by omega)) fun w4 h=>?_
 generalize GA ⟨t,false⟩=x1 at *
 rw[WW]
 refine h.r9 (ds:=((⟨x1.1,0,0,0,⟨#[]⟩,0,0,[]⟩:EnP).raw YB).cs.toArray) oU rfl P8 rfl (fun v hv=>Enc.one ((⟨x1.1,0,0,0,⟨#[]⟩,0,0,[]⟩:EnP).raw YB) v hv) fun e5 w5 h=>?_
 simp -zeta only[U0 eH,U0 oM,U0 XP,U0 pM,U0 YP,U0 fH,U0 gH,Nat.zero_add]
 have q2:=gK x1.2
 refine h.rd_ 1 rfl (fun B2 own base2=>dR (base2 hB) (by omega)) fun w6 h=>?_
 generalize GA x1.2=x2 at *
 refine h.st 3 rfl F3 (o:=1) (show 1<8 by omega) rfl fun w7 h=>?_
 have q3:=gK x2.2
 refine h.rd_ 1 rfl (fun B2 own base2=>dR (base2 hB) (by omega)) fun w6 h=>?_
 generalize GA x2.2=x3 at *
 refine h.st 3 rfl F3 (o:=2) (show 2<8 by omega) rfl fun w7 h=>?_
 have q4:=gK x3.2
 refine h.rd_ 1 rfl (fun B2 own base2=>dR (base2 hB) (by omega)) fun w6 h=>?_
 generalize GA x3.2=x4 at *
 refine h.st 3 rfl F3 (o:=3) (show 3<8 by omega) rfl fun w7 h=>?_
 have q5:=OX x4.2
 unfold mo0 at k fail
 refine h.rd_ 1 rfl (fun B2 own base2=>qY (base2 hB) (by omega)) fun w6 h=>?_
 generalize SA x4.2=x5 at *
 refine h.st 3 rfl V6 (o:=4) (show 4<8 by omega) rfl fun w7 h=>?_
 unfold no0 at k fail
 have q6:=gK x5.2
 refine h.rd_ 1 rfl (fun B2 own base2=>dR (base2 hB) (by omega)) fun w6 h=>?_
 generalize GA x5.2=x6 at *
 refine h.st 3 rfl F3 (o:=5) (show 5<8 by omega) rfl fun w7 h=>?_
 have q7:=gK x6.2
 refine h.rd_ 1 rfl (fun B2 own base2=>dR (base2 hB) (by omega)) fun w6 h=>?_
 generalize GA x6.2=x7 at *
 refine h.st 3 rfl F3 (o:=6) (show 6<8 by omega) rfl fun w7 h=>?_
 have q8:=OX x7.2
 refine h.rd_ 1 rfl (fun B2 own base2=>qY (base2 hB) (by omega)) fun w6 h=>?_
 generalize SA x7.2=x8 at *
 unfold OZ at k fail
 have h:Rel B' w6 [O1 t2 Y1 (((⟨0,0,0,0,⟨#[]⟩,0,0,[]⟩:EnP).raw YB).cs.toArray),rdD p x8.2,O1 o4 Y1 (eU.raw YB).cs.toArray,O1 e5 Y1 ((⟨x1.1,x2.1,x3.1,x4.1,ofL x5.1,x6.1,x7.1,[]⟩:EnP).raw YB).cs.toArray]:=h
 refine h.make (fun B2 own base2=>LA0 (base2 hB) (t:=x8.1) (by omega)) fun u τ w8 hp h=>?_
 rcases hp with⟨r,v,er,rfl,rfl⟩ | ⟨er,rfl,rfl⟩
 ·rw[er] at k fail
  simp only at k fail
  rw[h_,Y9]
  have hv:v.oneCell'=true:=h.oneCell (i:=4) rfl
  refine h.st 3 rfl V7 (o:=7) (show 7<8 by omega) hv fun w9 h=>?_
  have h:Rel B' w9 [O1 t2 Y1 (((⟨0,0,0,0,⟨#[]⟩,0,0,[]⟩:EnP).raw YB).cs.toArray),rdD p x8.2,O1 o4 Y1 (eU.raw YB).cs.toArray,O1 e5 Y1 ((⟨x1.1,x2.1,x3.1,x4.1,ofL x5.1,x6.1,x7.1,r⟩:EnP).raw ⟨v,hv⟩).cs.toArray,V3 R3 v r]:=h
  rw[V8,K5,Q5]
  refine⟨fun _=>?_,fun c=>by cases c⟩
  refine h.ask (fun B2 own base2=>nY (own (i:=1) rfl)) fun w10 h=>?_
  rw[V8,K5,Q5]
  refine⟨fun c=>?_,fun c=>?_⟩
  ·rw[if_pos c] at k
   rw[h.Q9 3 rfl P8 rfl]
   refine h.xI 0 rfl P8 rfl rfl (fun x hx=>Enc.one ((⟨x1.1,x2.1,x3.1,x4.1,ofL x5.1,x6.1,x7.1,r⟩:EnP).raw ⟨v,hv⟩) x hx) fun w11 h=>?_
   rw[CJ h 0 rfl P8 rfl]
   exact k _ _ _ ⟨⟨v,hv⟩,rfl,rfl⟩ (h.pick [4] (by decide))
  ·exact fail (by rw[if_neg (by rw[c];decide)]) x8.2 _ _ h
 ·rw[er] at k fail
  simp only at k fail
  rw[h_,Y9]
  refine h.st 3 rfl V7 (o:=7) (show 7<8 by omega) rfl fun w9 h=>?_
  rw[V8,K5,Q5]
  refine⟨fun c=>(by cases c),fun _=>?_⟩
  exact fail trivial x8.2 _ _ h
theorem gA0{v:Value}{L:List (EnP×SV)}(q:Q4 v (YI L) B)(qs:Jg0 L B)(hl:L.length≤9223372036854775807){n:Int}(hn:0≤n∧n≤1000000):Gives prog B (Z0 PL #[v,.int .i64 n]) (.bool (AH0 (L.map (·.1)) n)):=by
 refine Gives.intro fun B' w K base h k=>?_
 replace q:=base q
 replace qs:=base qs
 refine RJ.up ?_
 unfold RJ.pt
 have hel:(YI L).length=L.length:=List.length_map ..
 have hml:(L.map (·.1)).length=L.length:=List.length_map ..
 unfold AH0 at k
 rw[hml] at k
 refine Q6 fun J hJ=>?_
 replace hJ:((∀i (hi:i<L.length),(i:Int)≤n→fQ (L[i]).1=true))→∀w',Rel B' w' []→J () w':=by
  intro hall w' h
  refine hJ _ _ ?_
  rw[Q4.len q p9,hel,gD]
  have e:(decide ((L.length:Int)≤n)&&(L.map (·.1)).all fQ)=decide ((L.length:Int)≤n):=by
   by_cases c:(L.length:Int)≤n
   ·rw[decide_eq_true c,Bool.true_and,List.all_eq_true]
    intro x hx
    obtain⟨y,hy,rfl⟩:=List.mem_map.1 hx
    obtain⟨i,hi,rfl⟩:=List.getElem_of_mem hy
    exact hall i hi (by omega)
   ·rw[decide_eq_false c,Bool.false_and]
  rw[e] at k
  exact k _ _ h
 have bad:∀i (hi:i<L.length),fQ (L[i]).1=false→∀w',Rel B' w' []→K (.bool false) w':=by
  intro i hi hb w' h
  have e:(decide ((L.length:Int)≤n)&&(L.map (·.1)).all fQ)=false:=by
   have:(L.map (·.1)).all fQ=false:=by
    rw[List.all_eq_false]
    exact⟨(L[i]).1,List.mem_map.2 ⟨L[i],List.getElem_mem hi,rfl⟩,by rw[hb];decide⟩
   rw[this,Bool.and_false]
  rw[e] at k
  exact k _ _ h
 clear k
 refine M6 (fun z w'=>∃i:Nat,i≤L.length∧z=(.int .i64 i,())∧(∀j (hj:j<L.length),j<i→fQ (L[j]).1=true)∧Rel B' w' [])
  (fun z _=>L.length-(match z.1 with | .int _ n=>n.toNat | _=>0)) ⟨0,Nat.zero_le _,rfl,fun j _ hj=>absurd hj (by omega),h⟩ ?_
 clear h
 rintro z w1 ⟨i,hi,rfl,hal,h⟩ next hnext
 rw[Q4.len q p9,hel,D6,K3]
 refine⟨fun hlt=>?_,fun hge=>hJ (fun j hj _=>hal j hj (by omega)) _ h⟩
 rw[gD,K3]
 refine⟨fun hle=>?_,fun hgt=>hJ (fun j hj hjn=>hal j hj (by omega)) _ h⟩
 have hil:i<L.length:=by omega
 have hil2:i<(YI L).length:=by omega
 refine Q6 fun J2 hJ2=>?_
 replace hJ2:fQ (L[i]).1=true→∀w',Rel B' w' []→J2 () w':=by
  intro hs w' h
  refine hJ2 _ _ ?_
  rw[V5,D5 (by omega) (by omega)]
  refine hnext _ _ ⟨i+1,hil,rfl,fun j hj hji=>?_,h⟩ (by simp only;omega)
  by_cases c:j=i
  ·subst c;exact hs
  ·exact hal j hj (by omega)
 clear hnext
 obtain⟨g,o,hx,hc⟩:=Q4.idx q p9 (P:=prog) hil2
 have hc:F6 g o ((L[i]).1.raw (L[i]).2).cs B':=by
  have e:(YI L)[i]=(L[i]).1.raw (L[i]).2:=List.getElem_map ..
  rw[e] at hc
  exact hc
 have hrow:Q4 (L[i]).2.1 (L[i]).1.row B':=qs _ (List.getElem_mem hil)
 have bad:=bad i hil
 clear hal hJ
 generalize L[i]=x at *
 obtain⟨e,rv⟩:=x
 simp only at hc hrow bad hJ2
 rw[hx,U0 gH,F6.ld (h.K6 hc) V7 (j:=7) (v:=rv.1) rfl,Q4.len hrow M_,A_,K3]
 unfold fQ at bad hJ2
 refine⟨fun c=>bad (by rw[decide_eq_false (by omega),Bool.false_and]) _ h,fun c=>?_⟩
 rw[decide_eq_true (p:=e.row.length≤3) (by omega),Bool.true_and] at bad hJ2
 rw[hx,U0 pM,F6.ld (h.K6 hc) V6 (j:=4) (v := .string e.source) rfl,WC C8,A_,K3]
 refine⟨fun c=>bad (by rw[decide_eq_false (by omega),Bool.false_and]) _ h,fun c=>?_⟩
 rw[decide_eq_true (p:=e.source.size≤20) (by omega),Bool.true_and] at bad hJ2
 refine M6 (fun z w'=>∃i:Nat,i≤e.row.length∧z=(.int .i64 i,())∧(∀j (hj:j<e.row.length),j<i→(e.row[j]).s.size≤20)∧Rel B' w' [])
  (fun z _=>e.row.length-(match z.1 with | .int _ n=>n.toNat | _=>0)) ⟨0,Nat.zero_le _,rfl,fun j _ hj=>absurd hj (by omega),h⟩ ?_
 clear h
 rintro z w1 ⟨k2,hk2,rfl,hal,h⟩ next hnext
 rw[hx,U0 gH,F6.ld (h.K6 hc) V7 (j:=7) (v:=rv.1) rfl,Q4.len hrow M_,D6,K3]
 refine⟨fun hlt=>?_,fun hge=>hJ2 (by
  rw[List.all_eq_true]
  intro y hy
  obtain⟨j,hj,rfl⟩:=List.getElem_of_mem hy
  exact decide_eq_true (hal j hj (by omega))) _ h⟩
 have hkl:k2<e.row.length:=by omega
 rw[hx,U0 gH,F6.ld (h.K6 hc) V7 (j:=7) (v:=rv.1) rfl]
 obtain⟨g2,o2,hx2,hc2⟩:=Q4.idx hrow M_ (P:=prog) hkl
 have hc2:F6 g2 o2 (e.row[k2]).cs B':=hc2
 rw[hx2,U0 ZP,F6.ld (h.K6 hc2) V6 (j:=2) (v := .string (e.row[k2]).s) rfl,WC C8,A_,K3]
 refine⟨fun c=>bad (by
  rw[List.all_eq_false]
  exact⟨e.row[k2],List.getElem_mem hkl,by rw[decide_eq_false (by omega)];decide⟩) _ h,fun c=>?_⟩
 rw[V5,D5 (by omega) (by omega)]
 refine hnext _ _ ⟨k2+1,hkl,rfl,fun j hj hji=>?_,h⟩ (by simp only;omega)
 by_cases c2:j=k2
 ·subst c2;omega
 ·exact hal j hj (by omega)
end
structure LS where
 x:IS
 s:St
 done:List EnD
def evL(pos:Int)(e:EnP):Ev:=⟨0,pos,e.source,e.schema,e.time,e.row⟩
def cd0(l:LS)(e:EnP)(v:SV)(a:(Int×Int)×IS):LS×Bool :=
 if e.kind≠0∨a.1.2≠0 then({ l with x:=a.2 },true)
 else(⟨a.2,(QS l.s (evL a.1.1 e)).2,l.done++[e.raw v]⟩,decide ((QS l.s (evL a.1.1 e)).1=0))
def KA(l:LS)(e:EnP)(v:SV):LS×Bool:=cd0 l e v (WB l.x (e.raw v) e.row)
def lsL(pl:Nat)(l:LS)(q:Nat×Nat)(v:SV):List Dat:=[O1 pl J4 #[ptr q.1,ptr q.2,v.1],intD q.1 l.x,FC q.2 l.s,V3 Y1 v.1 l.done]
def lsD(pl:Nat)(l:LS):Dat:=Dat.ex fun x:(Nat×Nat)×SV=>eD (lsL pl l x.1 x.2)
structure LOk (l:LS):Prop where
 x:fO l.x
 next:l.x.next<1000000
 refused:l.x.refused<1000000
 known:l.x.known.length≤1000000
 done:l.done.length≤1000000
section
variable {B:Base} {w:World} {σ τ:List Dat} {pl:Nat} {l:LS} {K:PtK}
theorem lsD.open(h:Rel B w (lsD pl l :: τ)):∃q v,Rel B w (lsL pl l q v++τ):=by
 obtain⟨x,h⟩:=h.ex (i:=0) rfl
 exact⟨x.1,x.2,Rel.BQ h⟩
theorem lsD.close{q:Nat×Nat}{v:SV}(h:Rel B w (lsL pl l q v++τ)):Rel B w (lsD pl l :: τ) :=
 (Rel.QJ h).imp (i:=0) (e:=lsD pl l) rfl fun B hB=>⟨(q,v),hB⟩
theorem wN0:CK0 ksL:=⟨by show 1≤1000000;omega,fun x hx=>by rw[List.mem_singleton.1 hx];show 1≤1000000;omega⟩
theorem Qd0(c:CfD):Makes prog B (Z0 OE #[.agg c.cs.toArray]) fun u τ=>(nG c∧∃pl,u=ptr pl∧τ=[lsD pl ⟨lT c ksL,⟨0,0,0,[]⟩,[]⟩])∨(¬nG c∧u = .pointer none∧τ=[]):=by
 refine Makes.intro fun B' w K base h k=>?_
 refine UJ.up ?_
 unfold UJ.pt
 refine h.box fun o w1 h=>?_
 have h:Rel B' w1 [O1 o E5 c.cs.toArray]:=h
 have h:=h.tick
 generalize tick w1=w1 at *
 rw[h.Q9 0 rfl EJ rfl]
 refine h.make (fun B2 own base2=>Tq0) fun kv τ w2 hp h=>?_
 subst hp
 refine⟨h.uX 0 rfl EJ rfl,?_⟩
 refine h.make (fun B2 own base2=>VM0 c (ks:=ksL) (own (i:=1) rfl) wN0) fun u τ w3 hp h=>?_
 rcases hp with⟨hr,p,rfl,rfl⟩ | ⟨hr,rfl,rfl⟩
 ·refine h.make (fun B2 own base2=>vK0 0) fun u τ w4 hp h=>?_
  obtain⟨b,rfl,rfl⟩:=hp
  rw[GK]
  refine h.box fun pl w5 h=>?_
  have h:Rel B' w5 [O1 o E5 c.cs.toArray,iF kv ksL,intD p (lT c ksL),FC b ⟨0,0,0,[]⟩,O1 pl J4 #[ptr p,ptr b,.slice none 0 0]]:=h
  simp -zeta only[y5,U0 eB,U0 wC,Nat.zero_add]
  rw[h.ld 4 rfl A9 (o:=0) (v:=ptr p) rfl,uB QT,t_,h.ld 4 rfl iA (o:=1) (v:=ptr b) rfl,uB Vc0,t_]
  have h:=h.oG EnD Y1
  have h:Rel B' w5 (lsL pl ⟨lT c ksL,⟨0,0,0,[]⟩,[]⟩ (p,b) ⟨.slice none 0 0,rfl⟩++[]):=h.pick [4,2,3,5] (by decide)
  exact k _ _ _ (.inl ⟨hr,pl,rfl,rfl⟩) (lsD.close h)
 ·refine h.make (fun B2 own base2=>vK0 0) fun u τ w4 hp h=>?_
  obtain⟨b,rfl,rfl⟩:=hp
  rw[GK]
  refine h.box fun pl w5 h=>?_
  simp -zeta only[y5,U0 eB,U0 wC,Nat.zero_add]
  have h:Rel B' w5 [O1 o E5 c.cs.toArray,iF kv ksL,FC b ⟨0,0,0,[]⟩,O1 pl J4 #[.pointer none,ptr b,.slice none 0 0]]:=h
  rw[h.ld 3 rfl A9 (o:=0) (v := .pointer none) rfl,zU QT,VC]
  exact k _ [] _ (.inr ⟨hr,rfl,rfl⟩) h.nil
set_option maxHeartbeats 2000000 in
theorem Dh0(hok:LOk l){e:EnP}{v:SV}(q:Q4 v.1 e.row B)(hrl:e.row.length≤1000000)(hrs:∀x∈e.row,x.s.size≤9223372036854775807):Does prog B (lsD pl l) (Z0 YA #[ptr pl,(e.raw v).v]) fun u e' τ=>u = .bool (KA l e v).2∧e'=lsD pl (KA l e v).1∧τ=[]:=by
 refine Does.intro fun B' w K base h k=>?_
 replace q:=base q
 refine iD.up ?_
 unfold iD.pt
 have hn:=hok.next
 have hrf:=hok.refused
 have hkn:=hok.known
 have hdn:=hok.done
 obtain⟨⟨px,ps⟩,dv,h⟩:=lsD.open h
 have h:Rel B' w [O1 pl J4 #[ptr px,ptr ps,dv.1],intD px l.x,FC ps l.s,V3 Y1 dv.1 l.done]:=h
 refine h.box fun e3 w1 h=>?_
 have h:Rel B' w1 [O1 pl J4 #[ptr px,ptr ps,dv.1],intD px l.x,FC ps l.s,V3 Y1 dv.1 l.done,O1 e3 Y1 (e.raw v).cs.toArray]:=h
 have h:=h.tick
 generalize tick w1=w1 at *
 simp -zeta only[y5,U0 eB,U0 wC,U0 vE,U0 AU,U0 pM,U0 YP,U0 fH,U0 gH,Nat.zero_add]
 rw[h.ld 0 rfl A9 (o:=0) (v:=ptr px) rfl,h.Q9 4 rfl P8 rfl]
 refine h.act 1 rfl (fun B2 own base2=>Vv0 (en:=e.raw v) (r:=e.row) hok.x (by omega) (by omega) (base2 q) (by omega) (by omega)) fun u e' τ w2 hp h=>?_
 obtain⟨rfl,rfl,rfl⟩:=hp
 unfold KA at k
 generalize WB l.x (e.raw v) e.row=a at *
 obtain⟨⟨n,f⟩,x2⟩:=a
 unfold cd0 at k
 simp only at h k ⊢
 have h:Rel B' w2 [O1 pl J4 #[ptr px,ptr ps,dv.1],intD px x2,FC ps l.s,V3 Y1 dv.1 l.done,O1 e3 Y1 (e.raw v).cs.toArray]:=h
 rw[h_,Y9,h.ld 4 rfl F3 (o:=0) (v := .int .i64 e.kind) rfl,X7,K5,K3]
 refine⟨fun c1=>?_,fun c1=>?_⟩
 case refine_2 =>
  rw[if_pos (.inl c1)] at k
  exact k _ _ [] _ ⟨rfl,rfl,rfl⟩ (lsD.close (l:={ l with x:=x2 }) (q:=(px,ps)) (v:=dv) (h.take 4))
 rw[X7,K5,K3]
 refine⟨fun c2=>?_,fun c2=>?_⟩
 case refine_2 =>
  rw[if_pos (.inr c2)] at k
  exact k _ _ [] _ ⟨rfl,rfl,rfl⟩ (lsD.close (l:={ l with x:=x2 }) (q:=(px,ps)) (v:=dv) (h.take 4))
 rw[if_neg (fun hh=>hh.elim (fun h=>h c1) fun h=>h c2)] at k
 have h:=h.tick
 generalize tick w2=w2 at *
 rw[h.ld 0 rfl U9 (o:=2) (v:=dv.1) rfl,h.Q9 4 rfl P8 rfl]
 refine h.bH (α:=EnD) (e.raw v) p9 (by decide) fun v1 w3 h=>?_
 refine⟨h.is 0 rfl U9 (o:=2) rfl,?_⟩
 refine h.append (α:=EnD) 3 rfl p9 (Rd.at 5 rfl) (show (l.done.length+1) * _≤_ by omega) (show l.done.length+1≤_ by omega) fun v2 w4 h=>?_
 have hv2:v2.oneCell'=true:=h.oneCell (i:=3) rfl
 refine h.st 0 rfl U9 (o:=2) (show 2<3 by omega) hv2 fun w5 h=>?_
 have h:=h.tick
 generalize tick w5=w5 at *
 rw[h.ld 0 rfl iA (o:=1) (v:=ptr ps) rfl,h.ld 4 rfl V6 (o:=4) (v := .string e.source) rfl,h.ld 4 rfl F3 (o:=5) (v := .int .i64 e.schema) rfl,h.ld 4 rfl F3 (o:=6) (v := .int .i64 e.time) rfl,h.ld 4 rfl V7 (o:=7) (v:=v.1) rfl]
 obtain⟨vx,vn,vc,hvs⟩:∃x n c,v.1 = .slice x n c:=by obtain⟨x,c,hx,_⟩:=q;exact⟨x,_,c,hx⟩
 rw[hvs,JV]
 have hev:(Value.agg #[(.int .i64 0),.int .i64 n,.string e.source,.int .i64 e.schema,.int .i64 e.time,.slice vx vn vc])=((evL n e).raw v).v:=by
  show _=Value.agg #[.int .i64 0,.int .i64 n,.string e.source,.int .i64 e.schema,.int .i64 e.time,v.1]
  rw[hvs]
 rw[hev]
 refine h.act 2 rfl (fun B2 own base2=>dN0 (evL n e) v (base2 q) hrl hrs) fun u e' τ w6 hp h=>?_
 obtain⟨rfl,rfl,rfl⟩:=hp
 rw[O6]
 exact k _ _ [] _ ⟨rfl,rfl,rfl⟩ (lsD.close (l:=⟨x2,(QS l.s (evL n e)).2,l.done++[e.raw v]⟩) (q:=(px,ps)) (v:=⟨v2,hv2⟩) (h.take 4))
end
abbrev OpD:=xB
structure OpP where
 kind:Int
 id:Int
 n:Int
 data:ByteArray
 keep:List Int
def OpP.raw(o:OpP)(v:SV):OpD:=⟨o.kind,o.id,o.n,o.data,v⟩
def JU(L:List (OpP×SV)):List OpD:=L.map fun x=>x.1.raw x.2
def rx0(L:List (OpP×SV)):Dat:=Dat.all L fun x=>Q4 x.2.1 x.1.keep
def nD0(l:List OpP)(n:Int):Bool:=decide ((l.length:Int)≤n)&&l.all fun o=>decide (o.keep.length≤20)
def YS(l:List EnD)(p e:Int):Nat:=(l.filter fun x=>decide (x.producer=p)&&decide (x.epoch=e)).length
def ir0(l:List EnD):Prop:=∀i (hi:i<l.length),(l[i]).seq=YS (l.take i) (l[i]).producer (l[i]).epoch
section
variable {B:Base} {w:World} {σ τ:List Dat} {K:PtK}
theorem Me0{a b:Value}{l m:List ByteArray}(ra:Q4 a l B)(rb:Q4 b m B)(hl:l.length≤4611686018427387904):Gives prog B (Z0 mE #[a,b]) (.bool (decide (l=m))):=by
 refine Gives.intro fun B' w K base h k=>?_
 replace ra:=base ra
 replace rb:=base rb
 refine bG.up ?_
 unfold bG.pt
 have no:∀w' τ,Rel B' w' τ→l≠m→K (.bool false) w':=fun w' τ h hn=>by rw[decide_eq_false hn] at k;exact k _ _ h
 simp -zeta only[Q4.len ra U6,Q4.len rb U6,X7,K5,K3]
 refine⟨fun he=>?_,fun hne=>no _ _ h fun hh=>hne (by rw[hh])⟩
 refine M6 (fun x w'=>∃i:Nat,i≤l.length∧x=(.int .i64 i,())∧(∀j (h1:j<l.length) (h2:j<m.length),j<i→l[j]=m[j])∧Rel B' w' []) (fun x _=>l.length-(match x.1 with | .int _ n=>n.toNat | _=>0))
  ⟨0,Nat.zero_le _,rfl,fun j _ _ hj=>absurd hj (Nat.not_lt_zero j),h⟩ ?_
 clear h
 rintro x w1 ⟨i,hi,rfl,hin,h⟩ next hnext
 simp -zeta only[D6,K3]
 refine⟨fun hlt=>?_,fun hge=>?_⟩
 ·have hil:i<l.length:=by omega
  have him:i<m.length:=by omega
  have h:=h.tick
  obtain⟨q,q1,q2⟩:=Q4.Fh0 ra h U6 hil V6 (x := .string l[i]) rfl
  obtain⟨q',q3,q4⟩:=Q4.Fh0 rb h U6 him V6 (x := .string m[i]) rfl
  simp -zeta only[q1,q2,q3,q4,eo0,K5,K3]
  refine⟨fun c=>?_,fun c=>no _ _ h fun hh=>c (by simp only[hh])⟩
  rw[V5,D5 (by omega) (by omega)]
  refine hnext _ _ ⟨i+1,hil,rfl,fun j h1 h2 hj=>?_,h⟩ (by simp only;omega)
  by_cases e:j=i
  ·subst e;exact c
  ·exact hin j h1 h2 (by omega)
 ·have:l=m:=List.ext_getElem (by omega) fun j h1 h2=>hin j h1 h2 (by omega)
  rw[decide_eq_true this] at k
  exact k _ _ h
theorem Gu0{v:Value}{L:List (OpP×SV)}(q:Q4 v (JU L) B)(qs:rx0 L B)(hl:L.length≤9223372036854775807){n:Int}(hn:0≤n∧n≤1000000):Gives prog B (Z0 vK #[v,.int .i64 n]) (.bool (nD0 (L.map (·.1)) n)):=by
 refine Gives.intro fun B' w K base h k=>?_
 replace q:=base q
 replace qs:=base qs
 refine ZI.up ?_
 unfold ZI.pt
 have hel:(JU L).length=L.length:=List.length_map ..
 have hml:(L.map (·.1)).length=L.length:=List.length_map ..
 unfold nD0 at k
 rw[hml] at k
 refine Q6 fun J hJ=>?_
 replace hJ:((∀i (hi:i<L.length),(i:Int)≤n→(L[i]).1.keep.length≤20))→∀w',Rel B' w' []→J () w':=by
  intro hall w' h
  refine hJ _ _ ?_
  rw[Q4.len q VE,hel,gD]
  have e:(decide ((L.length:Int)≤n)&&(L.map (·.1)).all fun o=>decide (o.keep.length≤20))=decide ((L.length:Int)≤n):=by
   by_cases c:(L.length:Int)≤n
   ·rw[decide_eq_true c,Bool.true_and,List.all_eq_true]
    intro x hx
    obtain⟨y,hy,rfl⟩:=List.mem_map.1 hx
    obtain⟨i,hi,rfl⟩:=List.getElem_of_mem hy
    exact decide_eq_true (hall i hi (by omega))
   ·rw[decide_eq_false c,Bool.false_and]
  rw[e] at k
  exact k _ _ h
 have bad:∀i (hi:i<L.length),¬(L[i]).1.keep.length≤20→∀w',Rel B' w' []→K (.bool false) w':=by
  intro i hi hb w' h
  have e:(decide ((L.length:Int)≤n)&&(L.map (·.1)).all fun o=>decide (o.keep.length≤20))=false:=by
   have:((L.map (·.1)).all fun o=>decide (o.keep.length≤20))=false:=by
    rw[List.all_eq_false]
    exact⟨(L[i]).1,List.mem_map.2 ⟨L[i],List.getElem_mem hi,rfl⟩,by rw[decide_eq_false hb];decide⟩
   rw[this,Bool.and_false]
  rw[e] at k
  exact k _ _ h
 clear k
 refine M6 (fun z w'=>∃i:Nat,i≤L.length∧z=(.int .i64 i,())∧(∀j (hj:j<L.length),j<i→(L[j]).1.keep.length≤20)∧Rel B' w' [])
  (fun z _=>L.length-(match z.1 with | .int _ n=>n.toNat | _=>0)) ⟨0,Nat.zero_le _,rfl,fun j _ hj=>absurd hj (by omega),h⟩ ?_
 clear h
 rintro z w1 ⟨i,hi,rfl,hal,h⟩ next hnext
 rw[Q4.len q VE,hel,D6,K3]
 refine⟨fun hlt=>?_,fun hge=>hJ (fun j hj _=>hal j hj (by omega)) _ h⟩
 rw[gD,K3]
 refine⟨fun hle=>?_,fun hgt=>hJ (fun j hj hjn=>hal j hj (by omega)) _ h⟩
 have hil:i<L.length:=by omega
 have hil2:i<(JU L).length:=by omega
 obtain⟨g,o,hx,hc⟩:=Q4.idx q VE (P:=prog) hil2
 have hc:F6 g o ((L[i]).1.raw (L[i]).2).cs B':=by
  have e:(JU L)[i]=(L[i]).1.raw (L[i]).2:=List.getElem_map ..
  rw[e] at hc
  exact hc
 have hrow:Q4 (L[i]).2.1 (L[i]).1.keep B':=qs _ (List.getElem_mem hil)
 rw[hx,U0 iT,F6.ld (h.K6 hc) XC (j:=4) (v:=(L[i]).2.1) rfl,Q4.len hrow C9,A_,K3]
 refine⟨fun c=>bad i hil (by omega) _ h,fun c=>?_⟩
 rw[V5,D5 (by omega) (by omega)]
 refine hnext _ _ ⟨i+1,hil,rfl,fun j hj hji=>?_,h⟩ (by simp only;omega)
 by_cases c2:j=i
 ·subst c2;omega
 ·exact hal j hj (by omega)
end
def Fb0(l:List EnD)(i:Nat):Bool:=match l[i]? with
 | some x=>decide (x.seq=YS (l.take i) x.producer x.epoch)
 | none=>true
def nx0(l:List EnD):Bool:=(List.range l.length).all (Fb0 l)
theorem AA0(l:List EnD):nx0 l=true↔ir0 l:=by
 unfold nx0 ir0
 rw[List.all_eq_true]
 refine⟨fun h i hi=>?_,fun h i hi=>?_⟩
 ·have:=h i (List.mem_range.2 hi)
  unfold Fb0 at this
  rw[List.getElem?_eq_getElem hi] at this
  exact of_decide_eq_true this
 ·have hi:=List.mem_range.1 hi
  unfold Fb0
  rw[List.getElem?_eq_getElem hi]
  exact decide_eq_true (h i hi)
theorem Gt0(l:List EnD){k:Nat}(hk:k<l.length)(p e:Int):YS (l.take (k+1)) p e=YS (l.take k) p e+(if(l[k]).producer=p∧(l[k]).epoch=e then 1 else 0):=by
 unfold YS
 rw[List.take_succ_eq_append_getElem hk,List.filter_append,List.length_append]
 congr 1
 by_cases h1:(l[k]).producer=p
 ·by_cases h2:(l[k]).epoch=e
  ·rw[if_pos ⟨h1,h2⟩];simp [h1,h2]
  ·rw[if_neg (fun h=>h2 h.2)];simp [h2]
 ·rw[if_neg (fun h=>h1 h.1)];simp [h1]
theorem count_le(l:List EnD)(p e:Int):YS l p e≤l.length:=List.length_filter_le _ _
section
variable {B:Base} {w:World} {σ τ:List Dat} {K:PtK}
theorem Ku0{v:Value}{l:List EnD}(q:Q4 v l B)(hl:l.length≤1000000000):Gives prog B (Z0 wK #[v]) (.bool (nx0 l)):=by
 refine Gives.intro fun B' w K base h k=>?_
 replace q:=base q
 refine aJ.up ?_
 unfold aJ.pt
 unfold nx0 at k
 have bad:∀i,i<l.length→Fb0 l i=false→∀w',Rel B' w' []→K (.bool false) w':=by
  intro i hi hb w' h
  have:((List.range l.length).all (Fb0 l))=false:=by
   rw[List.all_eq_false]
   exact⟨i,List.mem_range.2 hi,by rw[hb];decide⟩
  rw[this] at k
  exact k _ _ h
 refine M6 (fun z w'=>∃i:Nat,i≤l.length∧z=(.int .i64 i,())∧(∀j,j<i→Fb0 l j=true)∧Rel B' w' [])
  (fun z _=>l.length-(match z.1 with | .int _ n=>n.toNat | _=>0)) ⟨0,Nat.zero_le _,rfl,fun j hj=>absurd hj (by omega),h⟩ ?_
 clear h
 rintro z w1 ⟨i,hi,rfl,hal,h⟩ next hnext
 rw[Q4.len q p9,D6,K3]
 refine⟨fun hlt=>?_,fun hge=>?_⟩
 case refine_2 =>
  have:((List.range l.length).all (Fb0 l))=true:=by
   rw[List.all_eq_true]
   exact fun j hj=>hal j (by have:=List.mem_range.1 hj;omega)
  rw[this] at k
  exact k _ _ h
 have hil:i<l.length:=by omega
 refine Q6 fun J hJ=>?_
 replace hJ:Fb0 l i=true→∀w',Rel B' w' []→J () w':=by
  intro hs w' h
  refine hJ _ _ ?_
  rw[V5,D5 (by omega) (by omega)]
  refine hnext _ _ ⟨i+1,hil,rfl,fun j hj=>?_,h⟩ (by simp only;omega)
  by_cases c:j=i
  ·subst c;exact hs
  ·exact hal j (by omega)
 clear hnext k hal
 have bad:=bad i hil
 obtain⟨g,o,hx,hc⟩:=Q4.idx q p9 (P:=prog) hil
 have hc:F6 g o (l[i]).cs B':=hc
 refine M6 (fun z w'=>∃k:Nat,k≤i∧z=(.int .i64 (YS (l.take k) (l[i]).producer (l[i]).epoch),.int .i64 k,())∧Rel B' w' [])
  (fun z _=>i-(match z.2.1 with | .int _ n=>n.toNat | _=>0)) ⟨0,Nat.zero_le _,rfl,h⟩ ?_
 clear h
 rintro z w2 ⟨k,hk,rfl,h⟩ next hnext
 simp -zeta only[D6,K3]
 refine⟨fun hlt2=>?_,fun hge2=>?_⟩
 case refine_2 =>
  have:k=i:=by omega
  subst this
  rw[hx,U0 XP,F6.ld (h.K6 hc) F3 (j:=3) (v := .int .i64 (l[k]).seq) rfl,X7,K5,K3]
  unfold Fb0 at bad hJ
  rw[List.getElem?_eq_getElem hil] at bad hJ
  exact⟨fun c=>hJ (decide_eq_true c) _ h,fun c=>bad (decide_eq_false c) _ h⟩
 have hkl:k<l.length:=by omega
 have hcs:=Gt0 l hkl (l[i]).producer (l[i]).epoch
 have hcl:=count_le (l.take k) (l[i]).producer (l[i]).epoch
 have htl:(l.take k).length≤k:=by rw[List.length_take];omega
 refine Q6 fun J2 hJ2=>?_
 replace hJ2:∀w',Rel B' w' []→J2 (.int .i64 (YS (l.take (k+1)) (l[i]).producer (l[i]).epoch),()) w':=by
  intro w' h
  refine hJ2 _ _ ?_
  rw[V5,D5 (by omega) (by omega)]
  exact hnext _ _ ⟨k+1,by omega,rfl,h⟩ (by simp only;omega)
 clear hnext
 rw[hcs] at hJ2
 obtain⟨g2,o2,hx2,hc2⟩:=Q4.idx q p9 (P:=prog) hkl
 have hc2:F6 g2 o2 (l[k]).cs B':=hc2
 have h:=h.tick
 generalize tick w2=w2 at *
 rw[hx2,U0 eH,F6.ld (h.K6 hc2) F3 (j:=1) (v := .int .i64 (l[k]).producer) rfl,hx,U0 eH,F6.ld (h.K6 hc) F3 (j:=1) (v := .int .i64 (l[i]).producer) rfl,O6,K3]
 refine⟨fun c1=>?_,fun c1=>?_⟩
 case refine_2 =>
  rw[if_neg (fun hh=>c1 hh.1),Nat.add_zero] at hJ2
  exact hJ2 _ h
 rw[hx2,U0 oM,F6.ld (h.K6 hc2) F3 (j:=2) (v := .int .i64 (l[k]).epoch) rfl,hx,U0 oM,F6.ld (h.K6 hc) F3 (j:=2) (v := .int .i64 (l[i]).epoch) rfl,O6,K3]
 refine⟨fun c2=>?_,fun c2=>?_⟩
 ·rw[if_pos ⟨c1,c2⟩] at hJ2
  rw[V5,D5 (by omega) (by omega)]
  exact hJ2 _ h
 ·rw[if_neg (fun hh=>c2 hh.2),Nat.add_zero] at hJ2
  exact hJ2 _ h
end
noncomputable def doK(g:L8)(o:OpP)(l:List EnP)(kv:Value)(k i:Int):L8 :=
 if k=0 then(PX g o.id).1
 else if k=1 then(match l[(JR o.n l.length).toNat]? with | some e=>(fE g o.id (ofL (xZ e))).g | none=>g)
 else if k=2∨k=3∨k=4 then(nO g i).1
 else if k=5 then DJ g (Fa0 g.net i).2
 else if k=6 then DJ g (sO g.net i).2
 else if k=7 then DJ g { g.net with sp:=Yw0 o.n }
 else if k=8 then DJ g { g.net with sp:=0 }
 else if k=9 then ln0 g o.id o.keep
 else if k=10 then Mo0 g o.id
 else if k=11 then Uw0 g o.id o.n
 else if k=12 then sp0 g o.id o.n o.keep kv
 else nQ g o.id (JR o.n 100)
noncomputable def doG(g:L8)(o:OpP)(l:List EnP)(kv:Value):L8:=doK g o l kv (JR o.kind 14) (JR o.n g.net.fl.length)
structure Sv0 (o:OpP):Prop where
 kind:inI o.kind
 id:inI o.id
 n:inI o.n
 keep:o.keep.length≤1000000
theorem IZ{n m:Int}(hm:0<m):0≤JR n m∧JR n m<m:=by
 unfold JR
 rw[if_neg (by omega)]
 exact⟨Int.emod_nonneg n (by omega),Int.emod_lt_of_pos n hm⟩
section
variable {B:Base} {w:World} {σ τ:List Dat} {pg:Nat} {g:L8} {K:PtK}
set_option maxHeartbeats 2000000 in
theorem rE0(hT:bR B)(hW:lC B)(hP:kH B)(hok:GOk g)(hke:DC g.mem B){o:OpP}{ov:SV}(ho:Sv0 o)(ro:Q4 ov.1 o.keep B){lv:Value}{L:List (EnP×SV)}(q:Q4 lv (YI L) B)(qs:Jg0 L B)(hl:L.length≤1000000)(hfe:∀x∈L,Us0 x.1) :
  Does prog B (Y8 pg g) (Z0 KI #[ptr pg,(o.raw ov).v,lv]) fun _ e' τ=>∃kv d,e'=Y8 pg (doG g o (L.map (·.1)) kv)∧τ=[d]∧(JR o.kind 14=12→I3 o.id→d=V3 Q0 kv o.keep):=by
 refine Does.intro fun B' w K base h k=>?_
 replace hT:=base hT
 replace hW:=base hW
 replace hP:=base hP
 replace hke:=hke.mono base
 replace ro:=base ro
 replace q:=base q
 replace qs:=base qs
 have hnm:=ho.n
 refine nL.up ?_
 unfold nL.pt
 refine h.box fun o4 w1 h=>?_
 have h:Rel B' w1 [Y8 pg g,O1 o4 H6 (o.raw ov).cs.toArray]:=h
 have h:=h.tick
 generalize tick w1=w1 at *
 simp -zeta only[U0 zZ,U0 AZ,U0 BZ,U0 iT,Nat.zero_add]
 rw[h.ld 1 rfl F3 (o:=2) (v := .int .i64 o.n) rfl]
 refine h.ask (fun B2 own base2=>em0 (own (i:=0) rfl)) fun w2 h=>?_
 refine⟨h.is 1 rfl F3 (o:=2) rfl,?_⟩
 have hfl:=hok.net.1
 refine h.ask (fun B2 own base2=>iY ho.n (m:=g.net.fl.length) (by unfold inI;omega)) fun w3 h=>?_
 rw[h.ld 1 rfl F3 (o:=0) (v := .int .i64 o.kind) rfl]
 refine h.ask (fun B2 own base2=>iY ho.kind (m:=14) (by unfold inI;omega)) fun w4 h=>?_
 unfold doG at k
 generalize JR o.n g.net.fl.length=i at *
 have hkr:=IZ (n:=o.kind) (m:=14) (by omega)
 generalize JR o.kind 14=kk at *
 have hno:∀{kv:Value} {d:Dat},kk≠12→(kk=12→I3 o.id→d=V3 Q0 kv o.keep):=fun h1 h2=>absurd h2 h1
 unfold doK at k
 have hml:(L.map (·.1)).length=L.length:=List.length_map ..
 rw[O6,K3]
 refine⟨fun c0=>?_,fun c0=>?_⟩
 ·rw[h.ld 1 rfl F3 (o:=1) (v := .int .i64 o.id) rfl]
  refine h.act 0 rfl (fun B2 own base2=>by0 (base2 hT) (base2 hP) hok (hke.mono base2) o.id) fun v e' τ w5 hp h=>?_
  obtain⟨_,rfl,rfl⟩:=hp
  exact k _ _ [emp] _ ⟨gNil,emp,by rw[if_pos c0],rfl,hno (by omega)⟩ (h.take 1).jI
 rw[O6,K3]
 refine⟨fun c1=>?_,fun c1=>?_⟩
 ·have hel:(YI L).length=L.length:=List.length_map ..
  rw[Q4.len q p9,hel,A_,K3]
  refine⟨fun c2=>?_,fun c2=>?_⟩
  ·have h:=h.tick
   generalize tick w4=w4 at *
   rw[h.ld 1 rfl F3 (o:=1) (v := .int .i64 o.id) rfl,h.ld 1 rfl F3 (o:=2) (v := .int .i64 o.n) rfl,Q4.len q p9,hel]
   refine h.ask (fun B2 own base2=>iY ho.n (m:=L.length) (by unfold inI;omega)) fun w6 h=>?_
   refine⟨h.is 1 rfl F3 (o:=1) rfl,?_⟩
   have hmr:=IZ (n:=o.n) (m:=L.length) (by omega)
   obtain⟨j,hj⟩:∃j:Nat,JR o.n L.length=j:=⟨(JR o.n L.length).toNat,by omega⟩
   have hjl:j<L.length:=by omega
   have hjl2:j<(YI L).length:=by omega
   rw[hj]
   obtain⟨gb,go,hx,hc⟩:=Q4.idx q p9 (P:=prog) hjl2
   have hc:F6 gb go ((L[j]).1.raw (L[j]).2).cs B':=by
    have e:(YI L)[j]=(L[j]).1.raw (L[j]).2:=List.getElem_map ..
    rw[e] at hc
    exact hc
   have hrow:Q4 (L[j]).2.1 (L[j]).1.row B':=qs _ (List.getElem_mem hjl)
   have hfj:Us0 (L[j]).1:=hfe _ (List.getElem_mem hjl)
   rw[hx,F6.Q9 (h.K6 hc) P8 rfl]
   refine h.ask (fun B2 own base2=>zQ (base2 hP) hfj (base2 hrow)) fun w7 h=>?_
   refine⟨h.is 1 rfl F3 (o:=1) rfl,?_⟩
   refine h.act 0 rfl (fun B2 own base2=>LZ (base2 hT) (base2 hP) hok (hke.mono base2) o.id (ofL (xZ (L[j]).1))) fun v e' τ w5 hp h=>?_
   obtain⟨_,rfl,rfl⟩:=hp
   refine k _ _ [emp] _ ⟨gNil,emp,?_,rfl,hno (by omega)⟩ (h.take 1).jI
   rw[if_neg c0,if_pos c1,hml,hj,Int.toNat_natCast,List.getElem?_map,List.getElem?_eq_getElem hjl]
   rfl
  ·have hl0:L=[]:=List.eq_nil_of_length_eq_zero (by omega)
   refine k _ _ [emp] _ ⟨gNil,emp,?_,rfl,hno (by omega)⟩ (h.take 1).jI
   rw[if_neg c0,if_pos c1,hl0]
   rfl
 refine Q6 fun J hJ=>?_
 have go:∀b:Bool,(b=true↔kk=2∨kk=3∨kk=4)→J (.bool b,()) w4:=by
  intro b hb
  refine hJ _ _ ?_
  rw[Q5]
  refine⟨fun c2=>?_,fun c2=>?_⟩
  ·have c2:=hb.1 c2
   refine h.act 0 rfl (fun B2 own base2=>Wh0 (base2 hT) (base2 hW) (base2 hP) hok (hke.mono base2) i (m:=nV (M9 g.net i).1.1.body) (ff0 hok i)) fun v e' τ w5 hp h=>?_
   obtain⟨_,rfl,rfl⟩:=hp
   exact k _ _ [emp] _ ⟨gNil,emp,by rw[if_neg c0,if_neg c1,if_pos c2];rfl,rfl,hno (by omega)⟩ (h.take 1).jI
  have c2:¬(kk=2∨kk=3∨kk=4):=fun hh=>by rw[hb.2 hh] at c2;cases c2
  rw[O6,K3]
  refine⟨fun c5=>?_,fun c5=>?_⟩
  ·refine h.act 0 rfl (fun B2 own base2=>lH0 hok i) fun v e' τ w5 hp h=>?_
   obtain⟨rfl,rfl⟩:=hp
   exact k _ _ [emp] _ ⟨gNil,emp,by rw[if_neg c0,if_neg c1,if_neg c2,if_pos c5],rfl,hno (by omega)⟩ (h.take 1).jI
  rw[O6,K3]
  refine⟨fun c6=>?_,fun c6=>?_⟩
  ·refine h.act 0 rfl (fun B2 own base2=>az0 hok i) fun v e' τ w5 hp h=>?_
   obtain⟨rfl,rfl⟩:=hp
   exact k _ _ [emp] _ ⟨gNil,emp,by rw[if_neg c0,if_neg c1,if_neg c2,if_neg c5,if_pos c6],rfl,hno (by omega)⟩ (h.take 1).jI
  rw[O6,K3]
  refine⟨fun c7=>?_,fun c7=>?_⟩
  ·rw[h.ld 1 rfl F3 (o:=2) (v := .int .i64 o.n) rfl]
   refine h.act 0 rfl (fun B2 own base2=>RF0 o.n) fun v e' τ w5 hp h=>?_
   obtain⟨rfl,rfl⟩:=hp
   exact k _ _ [emp] _ ⟨gNil,emp,by rw[if_neg c0,if_neg c1,if_neg c2,if_neg c5,if_neg c6,if_pos c7],rfl,hno (by omega)⟩ (h.take 1).jI
  rw[O6,K3]
  refine⟨fun c8=>?_,fun c8=>?_⟩
  ·refine h.act 0 rfl (fun B2 own base2=>YH0) fun v e' τ w5 hp h=>?_
   obtain⟨rfl,rfl⟩:=hp
   exact k _ _ [emp] _ ⟨gNil,emp,by rw[if_neg c0,if_neg c1,if_neg c2,if_neg c5,if_neg c6,if_neg c7,if_pos c8],rfl,hno (by omega)⟩ (h.take 1).jI
  rw[O6,K3]
  refine⟨fun c9=>?_,fun c9=>?_⟩
  ·rw[h.ld 1 rfl F3 (o:=1) (v := .int .i64 o.id) rfl,h.ld 1 rfl XC (o:=4) (v:=ov.1) rfl]
   refine h.act 0 rfl (fun B2 own base2=>JC0 hok o.id (base2 ro) ho.keep) fun v e' τ w5 hp h=>?_
   obtain⟨rfl,rfl⟩:=hp
   exact k _ _ [emp] _ ⟨gNil,emp,by rw[if_neg c0,if_neg c1,if_neg c2,if_neg c5,if_neg c6,if_neg c7,if_neg c8,if_pos c9],rfl,hno (by omega)⟩ (h.take 1).jI
  rw[O6,K3]
  refine⟨fun c10=>?_,fun c10=>?_⟩
  ·rw[h.ld 1 rfl F3 (o:=1) (v := .int .i64 o.id) rfl]
   refine h.act 0 rfl (fun B2 own base2=>YF0 (base2 hT) (base2 hW) (base2 hP) hok (hke.mono base2) o.id) fun v e' τ w5 hp h=>?_
   obtain⟨rfl,rfl⟩:=hp
   exact k _ _ [emp] _ ⟨gNil,emp,by rw[if_neg c0,if_neg c1,if_neg c2,if_neg c5,if_neg c6,if_neg c7,if_neg c8,if_neg c9,if_pos c10],rfl,hno (by omega)⟩ (h.take 1).jI
  rw[O6,K3]
  refine⟨fun c11=>?_,fun c11=>?_⟩
  ·rw[h.ld 1 rfl F3 (o:=1) (v := .int .i64 o.id) rfl,h.ld 1 rfl F3 (o:=2) (v := .int .i64 o.n) rfl]
   refine h.act 0 rfl (fun B2 own base2=>qI0 hok o.id (n:=o.n) (by unfold inI at hnm;omega)) fun v e' τ w5 hp h=>?_
   obtain⟨rfl,rfl⟩:=hp
   exact k _ _ [emp] _ ⟨gNil,emp,by rw[if_neg c0,if_neg c1,if_neg c2,if_neg c5,if_neg c6,if_neg c7,if_neg c8,if_neg c9,if_neg c10,if_pos c11],rfl,hno (by omega)⟩ (h.take 1).jI
  rw[O6,K3]
  refine⟨fun c12=>?_,fun c12=>?_⟩
  ·rw[h.ld 1 rfl F3 (o:=1) (v := .int .i64 o.id) rfl,h.ld 1 rfl F3 (o:=2) (v := .int .i64 o.n) rfl,h.ld 1 rfl XC (o:=4) (v:=ov.1) rfl]
   refine h.act 0 rfl (fun B2 own base2=>eL0 hok o.id (n:=o.n) (by unfold inI at hnm;omega) (base2 ro) ho.keep) fun v e' τ w5 hp h=>?_
   obtain⟨kv,rfl,hd⟩:=hp
   rcases hd with⟨hi,rfl⟩ | ⟨hi,rfl⟩
   ·have h:Rel B' w5 [Y8 pg (sp0 g o.id o.n o.keep kv),V3 Q0 kv o.keep]:=h.pick [0,2] (by decide)
    exact k _ _ [V3 Q0 kv o.keep] _ ⟨kv,_,by rw[if_neg c0,if_neg c1,if_neg c2,if_neg c5,if_neg c6,if_neg c7,if_neg c8,if_neg c9,if_neg c10,if_neg c11,if_pos c12],rfl,fun _ _=>rfl⟩ h
   ·exact k _ _ [emp] _ ⟨kv,_,by rw[if_neg c0,if_neg c1,if_neg c2,if_neg c5,if_neg c6,if_neg c7,if_neg c8,if_neg c9,if_neg c10,if_neg c11,if_pos c12],rfl,fun _ h2=>absurd h2 hi⟩ (h.take 1).jI
  have h:=h.tick
  generalize tick w4=w4 at *
  rw[h.ld 1 rfl F3 (o:=1) (v := .int .i64 o.id) rfl,h.ld 1 rfl F3 (o:=2) (v := .int .i64 o.n) rfl]
  refine h.ask (fun B2 own base2=>iY ho.n (m:=100) (by unfold inI;omega)) fun w6 h=>?_
  refine⟨h.is 1 rfl F3 (o:=1) rfl,?_⟩
  have hm100:=IZ (n:=o.n) (m:=100) (by omega)
  refine h.act 0 rfl (fun B2 own base2=>qe0 (base2 hT) (base2 hW) (base2 hP) hok (hke.mono base2) o.id (JR o.n 100) (by omega)) fun v e' τ w5 hp h=>?_
  obtain⟨rfl,rfl⟩:=hp
  exact k _ _ [emp] _ ⟨gNil,emp,by rw[if_neg c0,if_neg c1,if_neg c2,if_neg c5,if_neg c6,if_neg c7,if_neg c8,if_neg c9,if_neg c10,if_neg c11,if_neg c12],rfl,hno c12⟩ (h.take 1).jI
 rw[O6,K3]
 refine⟨fun c2=>?_,fun c2=>?_⟩
 ·rw[decide_eq_true c2]
  exact go true ⟨fun _ => .inl c2,fun _=>rfl⟩
 rw[O6,K3]
 refine⟨fun c3=>?_,fun c3=>?_⟩
 ·rw[decide_eq_true c3]
  exact go true ⟨fun _ => .inr (.inl c3),fun _=>rfl⟩
 rw[O6]
 exact go _ ⟨fun hh => .inr (.inr (of_decide_eq_true hh)),fun hh=>decide_eq_true (hh.elim (fun h=>absurd h c2) fun hh=>hh.elim (fun h=>absurd h c3) id)⟩
end
def smE:EnP:=⟨0,1,0,0,⟨#[115]⟩,1,7,[⟨0,3,⟨#[]⟩⟩]⟩
def smC:CfD:=⟨0,0,5,50,1,0⟩
def smL:LS:=⟨lT smC ksL,⟨0,0,0,[]⟩,[]⟩
theorem qm0:nG smC:=by decide
theorem LF0:LOk smL:=⟨ar0 qm0 ksL,by show (0:Int)<1000000;omega,by show (0:Int)<1000000;omega,by show 1≤1000000;omega,Nat.zero_le _⟩
theorem nK:Us0 smE:=⟨by unfold inI;decide,by unfold inI;decide,by unfold inI;decide,by unfold inI;decide,by unfold inI;decide,by unfold inI;decide,by decide,by decide,fun v hv=>by
 rw[List.mem_singleton.1 hv]
 exact⟨⟨by unfold inI;decide,by unfold inI;decide,by decide⟩,by decide⟩⟩
theorem QF0(v:SV):(KA smL smE v).2=true∧(KA smL smE v).1.done.length=1∧(KA smL smE v).1.s.next=1∧X9 (KA smL smE v).1.x=1:=⟨rfl,rfl,rfl,rfl⟩
theorem OF0(v v':SV):(WB (KA smL smE v).1.x (smE.raw v') smE.row).1=(0,5)∧X9 (WB (KA smL smE v).1.x (smE.raw v') smE.row).2=1:=⟨rfl,rfl⟩
def smD:ByteArray:=ofL (xZ smE)
noncomputable def qv0:L8:=nQ Ud0 0 99
noncomputable def rv0:L8:=(fE qv0 0 smD).g
noncomputable def KF0:L8:=(fE rv0 0 smD).g
noncomputable def Dj0:L8:=nQ KF0 0 99
theorem Mf0:∀(k:Nat) {g:L8},GOk g→GOk (QF k g)
 | 0,_,h=>h
 | k+1,g,h=>by
  rw[QF]
  split
  ·exact h
  ·exact Mf0 k (tQ h 0 _)
theorem lZ:∀(k:Nat) (g:L8),X8 g (QF k g)
 | 0,g=>X8.refl g
 | k+1,g=>by
  rw[QF]
  split
  ·exact X8.refl g
  ·exact(yU g 0 _).trans (lZ k _)
theorem qW{g:L8}(h:GOk g)(id most:Int):GOk (nQ g id most):=Mf0 _ (wV h id)
theorem kc0(g:L8)(id most:Int):X8 g (nQ g id most):=(wW g id uF).trans (lZ _ _)
theorem KU(g:L8)(id:Int)(data:ByteArray):X8 g (fE g id data).g:=by
 unfold fE
 split
 ·exact X8.refl g
 rename_i c
 obtain⟨hi,u,hu⟩:=LQ (Classical.byContradiction c)
 rw[hu]
 show X8 g (TK g id u (G7 u.r data)).g
 have h1:X8 g (zC g id u (G7 u.r data).r):=X8.MB g hi ⟨rfl,rfl⟩
 have h2:X8 (zC g id u (G7 u.r data).r) (doS (zC g id u (G7 u.r data).r) id { u with r:=(G7 u.r data).r } (G7 u.r data).o).1:=Up0 _ hi _ _
 unfold TK
 split
 ·exact h1
 split
 ·exact h1.trans h2
 ·exact h1.trans h2
section
variable {B:Base} {w:World} {σ τ:List Dat} {K:PtK}
set_option maxHeartbeats 4000000 in
theorem Uq0(hT:bR B)(hW:lC B)(hP:kH B)(hcom:Dj0.committed=[xZ smE,xZ smE]):Gives prog B (Z0 SF #[]) (.bool true):=by
 refine Gives.intro fun B' w K base h k=>?_
 replace hT:=base hT
 replace hW:=base hW
 replace hP:=base hP
 refine tH.up ?_
 unfold tH.pt
 have ok0:=ub0.1
 have ke0:=ub0.2 B'
 have ok1:GOk qv0:=qW ok0 0 99
 have ke1:DC qv0.mem B':=(kc0 Ud0 0 99).keep ke0
 have ok2:GOk rv0:=CQ ok1 0 smD
 have ke2:DC rv0.mem B':=(KU qv0 0 smD).keep ke1
 have ok3:GOk KF0:=CQ ok2 0 smD
 have ke3:DC KF0.mem B':=(KU rv0 0 smD).keep ke2
 have ok4:GOk Dj0:=qW ok3 0 99
 refine h.make (fun B2 own base2=>DE0 (base2 hT) (base2 hW) (base2 hP)) fun u τ w1 hp h=>?_
 obtain⟨pg,rfl,rfl⟩:=hp
 rw[EY]
 refine h.make (fun B2 own base2=>Qd0 smC) fun u τ w2 hp h=>?_
 rcases hp with⟨_,pl,rfl,rfl⟩ | ⟨hr,_,_⟩
 case inr=>exact absurd qm0 hr
 have h:Rel B' w2 [Y8 pg Ud0,lsD pl smL]:=h
 rw[uB WQ,t_,uB rE,t_,Lh0]
 refine h.bH (α:=KD) ⟨0,3,⟨#[]⟩⟩ M_ (by decide) fun rv w3 h=>?_
 have hrv:rv.oneCell'=true:=h.oneCell (i:=2) rfl
 obtain⟨rx,rn,rc,rfl⟩:=FX h 2 rfl
 rw[IV]
 refine h.r9 (ds:=(smE.raw ⟨.slice rx rn rc,rfl⟩).cs.toArray) oU rfl P8 rfl (fun v hv=>Enc.one (smE.raw ⟨.slice rx rn rc,rfl⟩) v hv) fun e3 w4 h=>?_
 have h:Rel B' w4 [Y8 pg Ud0,lsD pl smL,V3 R3 (.slice rx rn rc) smE.row,O1 e3 Y1 (smE.raw ⟨.slice rx rn rc,rfl⟩).cs.toArray]:=h
 refine h.act 0 rfl (fun B2 own base2=>qe0 (base2 hT) (base2 hW) (base2 hP) ok0 (ke0.mono base2) 0 99 (by omega)) fun v e' τ w5 hp h=>?_
 obtain⟨rfl,rfl⟩:=hp
 have h:Rel B' w5 [Y8 pg qv0,lsD pl smL,V3 R3 (.slice rx rn rc) smE.row,O1 e3 Y1 (smE.raw ⟨.slice rx rn rc,rfl⟩).cs.toArray]:=h
 rw[h.Q9 3 rfl P8 rfl]
 refine h.ask (fun B2 own base2=>zQ (base2 hP) nK (v:=⟨.slice rx rn rc,rfl⟩) (V3.read (own (i:=2) rfl))) fun w6 h=>?_
 refine h.act 0 rfl (fun B2 own base2=>LZ (base2 hT) (base2 hP) ok1 (ke1.mono base2) 0 smD) fun v e' τ w7 hp h=>?_
 obtain⟨_,rfl,rfl⟩:=hp
 have h:Rel B' w7 [Y8 pg rv0,lsD pl smL,V3 R3 (.slice rx rn rc) smE.row,O1 e3 Y1 (smE.raw ⟨.slice rx rn rc,rfl⟩).cs.toArray]:=h
 rw[h.Q9 3 rfl P8 rfl]
 refine h.ask (fun B2 own base2=>zQ (base2 hP) nK (v:=⟨.slice rx rn rc,rfl⟩) (V3.read (own (i:=2) rfl))) fun w6 h=>?_
 refine h.act 0 rfl (fun B2 own base2=>LZ (base2 hT) (base2 hP) ok2 (ke2.mono base2) 0 smD) fun v e' τ w7 hp h=>?_
 obtain⟨_,rfl,rfl⟩:=hp
 refine h.act 0 rfl (fun B2 own base2=>qe0 (base2 hT) (base2 hW) (base2 hP) ok3 (ke3.mono base2) 0 99 (by omega)) fun v e' τ w8 hp h=>?_
 obtain⟨rfl,rfl⟩:=hp
 have h:Rel B' w8 [Y8 pg Dj0,lsD pl smL,V3 R3 (.slice rx rn rc) smE.row,O1 e3 Y1 (smE.raw ⟨.slice rx rn rc,rfl⟩).cs.toArray]:=h
 refine h.make (fun B2 own base2=>df0 (own (i:=0) rfl) ok4.com) fun cv τ w9 hp h=>?_
 subst hp
 rw[hcom] at h
 have h:Rel B' w9 [Y8 pg Dj0,lsD pl smL,V3 R3 (.slice rx rn rc) smE.row,O1 e3 Y1 (smE.raw ⟨.slice rx rn rc,rfl⟩).cs.toArray,V3 U2 cv ([smD,smD]:List ByteArray)]:=h
 rw[Q4.len (V3.read (h.here (i:=4) rfl)) U6,X7,K5,K3]
 refine⟨fun _=>?_,fun c=>absurd rfl c⟩
 have i0:∀{Kp:Value→Prop} {w':World} {τ:List Dat},Rel B' w' (Y8 pg Dj0 :: lsD pl smL :: V3 R3 (.slice rx rn rc) smE.row :: O1 e3 Y1 (smE.raw ⟨.slice rx rn rc,rfl⟩).cs.toArray :: V3 U2 cv ([smD,smD]:List ByteArray) :: τ)→(M0 prog (Y4 K4 cv (.int .i64 0)) fun t39=>Y0 prog (X0 U2 t39) w' Kp)=Kp (.string smD):=by
  intro Kp w' τ h
  obtain⟨g,o,hx,hc⟩:=Q4.idx (V3.read (h.here (i:=4) rfl)) U6 (P:=prog) (i:=0) (show 0<2 by omega)
  rw[show ((0:Int))=((0:Nat):Int) from rfl,hx,F6.ld0 hc V6 (v := .string smD) rfl]
 rw[i0 h]
 clear i0
 have hsl:(xZ smE).length≤100000000:=by
  have hr:=to0 nK.len nK.row
  have l1:=X6 nK.kind
  have l2:=X6 nK.producer
  have l3:=X6 nK.epoch
  have l4:=X6 nK.seq
  have l5:=LF (bl smE.source) (by decide)
  have l6:=X6 nK.schema
  have l7:=X6 nK.time
  have l8:=LF (pG smE.row) (by omega)
  have l9:(bl smE.source).length≤20:=by decide
  unfold xZ
  simp only[List.length_append]
  omega
 refine h.make (fun B2 own base2=>YV (base2 hW) hsl) fun u τ w10 hp h=>?_
 obtain⟨v1,rfl,rfl⟩:=hp
 rw[im0 nK] at h ⊢
 have h:Rel B' w10 [Y8 pg Dj0,lsD pl smL,V3 R3 (.slice rx rn rc) smE.row,O1 e3 Y1 (smE.raw ⟨.slice rx rn rc,rfl⟩).cs.toArray,V3 U2 cv ([smD,smD]:List ByteArray),V3 R3 v1.1 smE.row]:=h
 refine h.act 1 rfl (fun B2 own base2=>Dh0 LF0 (V3.read (own (j:=5) (by decide) rfl)) (by decide) (fun x hx=>by rw[List.mem_singleton.1 hx];decide)) fun u e' τ w11 hp h=>?_
 obtain⟨rfl,rfl,rfl⟩:=hp
 obtain⟨f1,f2,f3,f4⟩:=QF0 v1
 have f5:=fun v'=>OF0 v1 v'
 have hgood:=(rZ LF0.x (smE.raw v1) smE.row (by show (0:Int)<_;omega) (by show (0:Int)<_;omega))
 have hxe:(KA smL smE v1).1.x=(WB smL.x (smE.raw v1) smE.row).2:=rfl
 rw[←hxe] at hgood
 have hnx:(KA smL smE v1).1.x.next<1000000000:=by have:=hgood.2.2.2.1;have e:smL.x.next=0:=rfl;omega
 have hrx:(KA smL smE v1).1.x.refused<1000000000:=by have:=hgood.2.2.2.2;have e:smL.x.refused=0:=rfl;omega
 have hkx:(KA smL smE v1).1.x.known.length≤4611686018427387904:=by rw[hgood.2.2.1];decide
 rw[f1]
 generalize (KA smL smE v1).1=l1 at *
 have h:Rel B' w11 (lsD pl l1 :: [Y8 pg Dj0,V3 R3 (.slice rx rn rc) smE.row,O1 e3 Y1 (smE.raw ⟨.slice rx rn rc,rfl⟩).cs.toArray,V3 U2 cv ([smD,smD]:List ByteArray),V3 R3 v1.1 smE.row]):=h.pick [1,0,2,3,4,5] (by decide)
 obtain⟨⟨px,ps⟩,dv,h⟩:=lsD.open h
 have h:Rel B' w11 [O1 pl J4 #[ptr px,ptr ps,dv.1],intD px l1.x,FC ps l1.s,V3 Y1 dv.1 l1.done,Y8 pg Dj0,V3 R3 (.slice rx rn rc) smE.row,O1 e3 Y1 (smE.raw ⟨.slice rx rn rc,rfl⟩).cs.toArray,V3 U2 cv ([smD,smD]:List ByteArray),V3 R3 v1.1 smE.row]:=h
 have h:=h.tick
 generalize tick w11=w11 at *
 simp -zeta only[y5,U0 eB,U0 wC,U0 vE,Nat.zero_add]
 rw[h.ld 0 rfl A9 (o:=0) (v:=ptr px) rfl]
 obtain⟨g,o,hx,hc⟩:=Q4.idx (V3.read (h.here (i:=7) rfl)) U6 (P:=prog) (i:=1) (show 1<2 by omega)
 rw[show ((1:Int))=((1:Nat):Int) from rfl,hx,F6.ld0 hc V6 (v := .string smD) rfl]
 clear hx hc
 refine h.make (fun B2 own base2=>YV (base2 hW) hsl) fun u τ w12 hp h=>?_
 obtain⟨v2,rfl,rfl⟩:=hp
 rw[im0 nK] at h ⊢
 refine⟨h.is 0 rfl A9 (o:=0) rfl,?_⟩
 refine h.act 1 rfl (fun B2 own base2=>Vv0 (en:=smE.raw v2) (r:=smE.row) hgood.1 hnx hrx (V3.read (own (j:=9) (by decide) rfl)) (by decide) hkx) fun u e' τ w13 hp h=>?_
 obtain⟨rfl,rfl,rfl⟩:=hp
 obtain⟨f6,f7⟩:=f5 v2
 have hg2:=(rZ hgood.1 (smE.raw v2) smE.row hnx hrx).1
 generalize WB l1.x (smE.raw v2) smE.row=a at *
 obtain⟨⟨n,f⟩,x2⟩:=a
 simp only[Prod.mk.injEq] at f6
 obtain⟨rfl,rfl⟩:=f6
 rw[h_,Y9,VC]
 have h:Rel B' w13 [O1 pl J4 #[ptr px,ptr ps,dv.1],intD px x2,FC ps l1.s,V3 Y1 dv.1 l1.done,Y8 pg Dj0,V3 R3 (.slice rx rn rc) smE.row,O1 e3 Y1 (smE.raw ⟨.slice rx rn rc,rfl⟩).cs.toArray,V3 U2 cv ([smD,smD]:List ByteArray),V3 R3 v1.1 smE.row,V3 R3 v2.1 smE.row]:=h
 have h:=h.tick
 generalize tick w13=w13 at *
 have isl:∀{w':World} {ρ:List Dat},Rel B' w' (O1 pl J4 #[ptr px,ptr ps,dv.1] :: intD px x2 :: FC ps l1.s :: V3 Y1 dv.1 l1.done :: ρ)→Is prog (J5 .len #[Z4] Q0 #[false] #[dv.1]) (.int .i64 l1.done.length) w':=by
  intro w' ρ h
  have:=Q4.len (P:=prog) (w:=w') (T:=Z4) (U:=Q0) (bs:=#[false]) (Kp:=fun x=>x = .int .i64 l1.done.length) (V3.read (h.here (i:=3) rfl)) p9
  obtain⟨x,h1,rfl⟩:=this.mpr rfl
  exact h1
 rw[h.ld 0 rfl U9 (o:=2) (v:=dv.1) rfl,Q4.len (V3.read (h.here (i:=3) rfl)) p9,O6,K3]
 refine⟨fun _=>?_,fun c=>absurd (show (l1.done.length:Int)=1 by omega) c⟩
 rw[h.ld 0 rfl iA (o:=1) (v:=ptr ps) rfl]
 refine h.ask (fun B2 own base2=>KE0 (FC.read (own (i:=2) rfl))) fun w14 h=>?_
 rw[O6,K3]
 refine⟨fun _=>?_,fun c=>absurd f3 c⟩
 rw[O6,K3]
 refine⟨fun _=>?_,fun c=>absurd rfl c⟩
 rw[O6,K3]
 refine⟨fun _=>?_,fun c=>absurd rfl c⟩
 rw[h.ld 0 rfl A9 (o:=0) (v:=ptr px) rfl]
 refine h.ask (fun B2 own base2=>dY (own (i:=1) rfl) hg2) fun w15 h=>?_
 refine⟨isl h,h.is 0 rfl U9 (o:=2) rfl,?_⟩
 rw[O6,K3]
 refine⟨fun _=>?_,fun c=>absurd f7 c⟩
 rw[h.Q9 6 rfl P8 rfl,h.Q9 6 rfl P8 rfl]
 refine h.ask (fun B2 own base2=>zQ (base2 hP) nK (v:=⟨.slice rx rn rc,rfl⟩) (V3.read (own (i:=5) rfl))) fun w16 h=>?_
 refine⟨h.uX 6 rfl P8 rfl,h.is 0 rfl iA (o:=1) rfl,isl h,h.is 0 rfl U9 (o:=2) rfl,?_⟩
 refine h.ask (fun B2 own base2=>zQ (base2 hP) nK (v:=⟨.slice rx rn rc,rfl⟩) (V3.read (own (i:=5) rfl))) fun w17 h=>?_
 refine⟨h.is 0 rfl iA (o:=1) rfl,isl h,h.is 0 rfl U9 (o:=2) rfl,?_⟩
 refine h.XW ([smD,smD]:List ByteArray) U6 fun v5 w18 h=>?_
 refine⟨h.is 0 rfl iA (o:=1) rfl,isl h,h.is 0 rfl U9 (o:=2) rfl,?_⟩
 refine h.ask (fun B2 own base2=>Me0 (V3.read (own (i:=7) rfl)) (V3.read (own (i:=10) rfl)) (show 2≤_ by omega)) fun w19 h=>?_
 refine⟨h.is 0 rfl iA (o:=1) rfl,isl h,h.is 0 rfl U9 (o:=2) rfl,?_⟩
 rw[decide_eq_true rfl]
 exact k _ _ h.nil
end
theorem nH0{s:zI}(h:NS s)(i:Int):NS (Fa0 s i).2:=by
 unfold Fa0
 split
 ·exact uF0 h
 ·exact h
theorem bz0{s:zI}(h:NS s)(i:Int):NS (sO s i).2:=by
 refine⟨Zp0 h.1,fun p hp=>?_⟩
 unfold sO at hp
 split at hp
 ·rename_i n x ha
  split at hp
  ·rcases List.mem_append.1 hp with hp | hp
   ·exact h.2 p hp
   ·rw[List.mem_singleton.1 hp]
    obtain⟨_,hn,hx⟩:=ta0 ha
    exact h.2 x (by rw[←hx];exact List.getElem_mem hn)
  ·exact h.2 p hp
 ·exact h.2 p hp
theorem uL0{g:L8}(h:GOk g)(hd:∀i,I3 i→DOk (g.mem.get i).d)(o:OpP)(l:List EnP)(kv:Value):GOk (doG g o l kv):=by
 unfold doG doK
 split
 ·exact wV h _
 split
 ·split
  ·exact CQ h _ _
  ·exact h
 split
 ·exact tQ h _ _
 split
 ·exact FT h (nH0 h.net _)
 split
 ·exact FT h (bz0 h.net _)
 split
 ·exact FT h h.net
 split
 ·exact FT h h.net
 split
 ·exact nb0 h fun _ u hu=>by cases hu
 split
 ·exact nb0 h fun hi=>Qr0 hi (h.ups _ hi) (hd _ hi)
 split
 ·exact nb0 h fun hi=>h.ups _ hi
 split
 ·exact nb0 h fun hi=>h.ups _ hi
 ·exact qW h _ _
theorem nB0(id:Int)(m:aB):(jR id m).1.kv=m.kv∧(jR id m).1.d.keep=m.d.keep:=by
 unfold jR
 split
 ·exact⟨rfl,rfl⟩
 ·exact aa0 id m.kv { m.d with down:=false }
theorem MC0{g:L8}{o:OpP}{l:List EnP}{kv:Value}(hk:JR o.kind 14≠12):X8 g (doG g o l kv):=by
 unfold doG doK
 split
 ·exact wW _ _ _
 split
 ·split
  ·exact KU _ _ _
  ·exact X8.refl g
 split
 ·exact yU _ _ _
 split
 ·exact X8.refl g
 split
 ·exact X8.refl g
 split
 ·exact X8.refl g
 split
 ·exact X8.refl g
 split
 ·exact HZ fun _=>⟨rfl,DZ _ _⟩
 split
 ·exact HZ fun _=>nB0 _ _
 split
 ·exact HZ fun _=>⟨rfl,rfl⟩
 exact kc0 _ _ _
theorem kH0{g:L8}{o:OpP}{l:List EnP}{kv:Value}(hk:JR o.kind 14=12):doG g o l kv=sp0 g o.id o.n o.keep kv:=by
 unfold doG doK
 rw[hk,if_neg (by decide),if_neg (by decide),if_neg (by decide),if_neg (by decide),if_neg (by decide),if_neg (by decide),if_neg (by decide),if_neg (by decide),if_neg (by decide),if_neg (by decide),if_pos rfl]
theorem Mt0{g:L8}{o:OpP}{l:List EnP}{kv:Value}{B:Base}(h:DC g.mem B)(ho:o.keep.length≤1000000)(hr:JR o.kind 14=12→I3 o.id→Q4 kv o.keep B):DC (doG g o l kv).mem B:=by
 by_cases hk:JR o.kind 14=12
 ·rw[kH0 hk]
  unfold sp0 AQ
  split
  ·rename_i hi
   exact h.set hi ⟨hr hk hi,ho⟩
  ·exact h
 ·exact(MC0 hk).keep h
theorem sE0{B:Base}{w:World}{pg:Nat}{g:L8}{ρ:List Dat}{K:PtK}(hT:bR B)(hW:lC B)(hP:kH B)(hok:GOk g)(hke:DC g.mem B){o:OpP}{ov:SV}(ho:Sv0 o)(ro:Q4 ov.1 o.keep B){lv:Value}{L:List (EnP×SV)}(q:Q4 lv (YI L) B)(qs:Jg0 L B)(hl:L.length≤1000000)(hfe:∀x∈L,Us0 x.1)
  (h:Rel B w (Y8 pg g :: ρ))
  (k:∀B2 g' v w',B.ext B2→GOk g'→DC g'.mem B2→(∃kv,g'=doG g o (L.map (·.1)) kv)→Rel B2 w' (Y8 pg g' :: ρ)→K v w'):upK prog (Z0 KI #[ptr pg,(o.raw ov).v,lv]) w K:=by
 have hd:∀i,I3 i→DOk (g.mem.get i).d:=fun i hi=>by
  have h1:Rel B w [Y8 pg g]:=h.take 1
  exact Nw0 h1 hi
 refine h.act 0 rfl (fun B2 own base2=>rE0 (base2 hT) (base2 hW) (base2 hP) hok (hke.mono base2) ho (base2 ro) (base2 q) (base2 qs) hl hfe) fun v e' τ w' hp h=>?_
 obtain⟨kv,d,rfl,rfl,hd2⟩:=hp
 have h:Rel B w' ((Y8 pg (doG g o (L.map (·.1)) kv) :: ρ)++[d]):=h
 obtain⟨B2,ext,h2,hdB⟩:=h.Bk0
 refine k B2 _ v w' ext (uL0 hok hd _ _ _) (Mt0 (hke.mono fun hd=>Dat.mono _ ext.le hd) ho.keep fun h1 hi=>?_) ⟨kv,rfl⟩ h2
 have e:=hd2 h1 hi
 rw[e] at hdB
 exact V3.read hdB
theorem mM{a b:Int}{r s:Bs}(ha:inI a)(hb:inI b)(h:encI a++r=encI b++s):a=b∧r=s:=by
 have h1:=uI ha r false
 rw[h,uI hb s false] at h1
 cases h1
 exact⟨rfl,rfl⟩
theorem gD0{a b r s:Bs}(ha:a.length≤9223372036854775807)(hb:b.length≤9223372036854775807)(h:bB a++r=bB b++s):a=b∧r=s:=by
 have h1:=RN ha r
 rw[h,RN hb s] at h1
 cases h1
 exact⟨rfl,rfl⟩
theorem Yt0{x y:J7}{r s:Bs}(hx:iN x)(hy:iN y)(h:A7 x++r=A7 y++s):x=y∧r=s:=by
 unfold A7 at h
 rw[List.append_assoc,List.append_assoc] at h
 obtain⟨h1,h2⟩:=mM hx.term hy.term h
 have l1:=hx.data
 have l2:=hy.data
 obtain⟨h3,h4⟩:=gD0 (by rw[jO];omega) (by rw[jO];omega) h2
 refine⟨?_,h4⟩
 obtain⟨a,b⟩:=x
 obtain⟨c,d⟩:=y
 simp only at h1 h3
 rw[h1,←QM b,h3,QM]
theorem Ar0:∀{l m:List J7},(∀x∈l,iN x)→(∀x∈m,iN x)→l.length=m.length→l.flatMap A7=m.flatMap A7→l=m
 | [],[],_,_,_,_=>rfl
 | [],y :: m,_,_,h,_=>by cases h
 | x :: l,[],_,_,h,_=>by cases h
 | x :: l,y :: m,hl,hm,hn,h=>by
  rw[List.flatMap_cons,List.flatMap_cons] at h
  obtain⟨h1,h2⟩:=Yt0 (hl x (List.mem_cons_self ..)) (hm y (List.mem_cons_self ..)) h
  rw[h1,Ar0 (fun x hx=>hl x (List.mem_cons_of_mem _ hx)) (fun x hx=>hm x (List.mem_cons_of_mem _ hx)) (by simpa using hn) h2]
theorem dD0{m n:U8}(hm:gL m)(hn:gL n)(h:nM m=nM n):m=n:=by
 have e8:∀m:U8,nM m=encI m.kind++(encI m.from_++(encI m.to_++(encI m.term++(encI m.index++(encI m.prev++(encI m.commit++(encI (if m.yes then 1 else 0)++(encI m.recs.length++m.recs.flatMap A7)))))))):=fun m=>by
  unfold nM NL
  simp only[List.flatMap_cons,List.flatMap_nil,List.append_assoc,List.nil_append]
 rw[e8,e8] at h
 have hi:=hm.ints
 unfold NL at hi
 simp only[List.mem_cons,List.not_mem_nil,or_false,forall_eq_or_imp,forall_eq] at hi
 obtain⟨i0,i1,i2,i3,i4,i5,i6,i7⟩:=hi
 have hj:=hn.ints
 unfold NL at hj
 simp only[List.mem_cons,List.not_mem_nil,or_false,forall_eq_or_imp,forall_eq] at hj
 obtain⟨j0,j1,j2,j3,j4,j5,j6,j7⟩:=hj
 have f1:=hm.few
 have f2:=hn.few
 obtain⟨a0,h⟩:=mM i0 j0 h
 obtain⟨a1,h⟩:=mM i1 j1 h
 obtain⟨a2,h⟩:=mM i2 j2 h
 obtain⟨a3,h⟩:=mM i3 j3 h
 obtain⟨a4,h⟩:=mM i4 j4 h
 obtain⟨a5,h⟩:=mM i5 j5 h
 obtain⟨a6,h⟩:=mM i6 j6 h
 obtain⟨a7,h⟩:=mM i7 j7 h
 obtain⟨a8,h⟩:=mM (by unfold inI;omega) (by unfold inI;omega) h
 have a9:=Ar0 hm.recs hn.recs (by omega) h
 obtain⟨m0,m1,m2,m3,m4,m5,m6,m7,m8⟩:=m
 obtain⟨n0,n1,n2,n3,n4,n5,n6,n7,n8⟩:=n
 simp only at a0 a1 a2 a3 a4 a5 a6 a7 a9
 subst a0 a1 a2 a3 a4 a5 a6 a9
 congr 1
 cases m7<;>cases n7<;>first | rfl | (simp at a7)
theorem Ll0{m:U8}(hm:gL m):nV (ofL (nM m))=m:=by
 have hex:∃n,gL n∧ofL (nM m)=ofL (nM n):=⟨m,hm,rfl⟩
 unfold nV
 rw[dif_pos hex]
 obtain⟨h1,h2⟩:=hex.choose_spec
 have h3:=congrArg bl h2
 rw[BD,BD] at h3
 exact(dD0 hm h1 h3).symm
structure lh0 (G:Gh) (i:Int) (m:aB):Prop where
 up:∀u,m.up=some u→u.r.id=i∧UpD m.d u.j u.c u.r.hard u.r.log∧MI G i u.r.hard u.r.log∧RI G u.r
 dn:m.up=none→∃P1 P2,MD m.d P1 P2∧∀hd l,P1 hd→P2 l→MI G i hd l
theorem lh0.by{G G':Gh}{i j:Int}(h:By i G G')(hj:j≠i)(hg:GI G){m:aB}(hm:lh0 G j m):lh0 G' j m:=by
 refine⟨fun u hu=>?_,fun hu=>?_⟩
 ·obtain⟨a,b,c,d⟩:=hm.up u hu
  exact⟨a,b,c.by h hj hg,d.by h (by rw[a];exact hj)⟩
 ·obtain⟨P1,P2,a,b⟩:=hm.dn hu
  exact⟨P1,P2,a,fun hd l p q=>(b hd l p q).by h hj hg⟩
def mh0(G:Gh)(n:zI):Prop:=∀p∈n.fl,∃m,gL m∧p.body=ofL (nM m)∧MS G m
theorem mh0.ext{G G':Gh}(h:Ext G G'){n:zI}(hn:mh0 G n):mh0 G' n:=fun p hp=>by
 obtain⟨m,a,b,c⟩:=hn p hp
 exact⟨m,a,b,c.ext h⟩
def bsL(l:List J7):List Bs:=l.map fun x=>bl x.data
def Ts0(G:Gh)(c:List Bs):Prop:=∃t k,(k=0∨Com G t k)∧c=bsL ((G.L t).take k)
theorem Ts0.ext{G G':Gh}(h:Ext G G'){c:List Bs}(hc:Ts0 G c):Ts0 G' c:=by
 obtain⟨t,k,a,b⟩:=hc
 refine⟨t,k,a.imp (fun h=>h) h.com,?_⟩
 rcases a with rfl | a
 ·rw[b,List.take_zero,List.take_zero]
 ·rw[b,JI (h.L t) a.len]
structure GInv (n:Nat) (G:Gh) (g:L8):Prop where
 bd:Bd n G
 gi:GI G
 mem:∀i,I3 i→lh0 G i (g.mem.get i)
 net:mh0 G g.net
 com:Ts0 G g.committed
theorem take_prefix(l:List J7){k n:Nat}(h:k≤n):bsL (l.take k) <+: bsL (l.take n):=by
 have e:l.take k=(l.take n).take k:=by rw[List.take_take,Nat.min_eq_left h]
 rw[e]
 unfold bsL
 rw[List.map_take]
 exact List.take_prefix _ _
theorem cj0{G:Gh}(hg:GI G){i:Int}{m:aB}(hm:lh0 G i m){c:List Bs}(hc:Ts0 G c):Ts0 G (dP c m)∧c <+: dP c m:=by
 unfold dP
 cases hu:m.up with
 | none=>exact⟨hc,List.prefix_refl _⟩
 | some u =>
  simp only
  by_cases e:u.r.commit≤c.length
  ·rw[if_pos e]
   exact⟨hc,List.prefix_refl _⟩
  rw[if_neg e]
  obtain⟨_,_,_,hr⟩:=hm.up u hu
  rcases hr.com with h0 | ⟨t,_,hcm,hh⟩
  ·omega
  show Ts0 G (bsL (u.r.log.take u.r.commit.toNat))∧c <+: bsL (u.r.log.take u.r.commit.toNat)
  rw[hh.2]
  refine⟨⟨t,_,.inr hcm,rfl⟩,?_⟩
  obtain⟨t0,k0,a,b⟩:=hc
  rcases a with rfl | a
  ·rw[b,List.take_zero]
   exact List.nil_prefix
  ·have hl:=a.len
   have hk:k0≤u.r.commit.toNat:=by
    rw[b] at e
    unfold bsL at e
    rw[List.length_map,List.length_take] at e
    omega
   rw[b,←Gy0 hg a hcm hk]
   exact take_prefix _ hk
theorem Vd0{n:Nat}{G:Gh}{g:L8}(h:GInv n G g):GInv n G (jZ g)∧g.committed <+: (jZ g).committed:=by
 obtain⟨a1,a2⟩:=cj0 h.gi (h.mem 0 (by unfold I3;omega)) h.com
 obtain⟨b1,b2⟩:=cj0 h.gi (h.mem 1 (by unfold I3;omega)) a1
 obtain⟨c1,c2⟩:=cj0 h.gi (h.mem 2 (by unfold I3;omega)) b1
 exact⟨⟨h.bd,h.gi,h.mem,h.net,c1⟩,(a2.trans b2).trans c2⟩
theorem Lf0{G:Gh}{id:Int}:∀{l:List U8} {n:zI},mh0 G n→(∀m∈l,gL m∧MS G m)→mh0 G (sendAll id n l)
 | [],_,h,_=>h
 | m :: l,n,h,hl=>by
  show mh0 G (sendAll id (jU n ⟨id,m.to_,ofL (nM m)⟩).2 l)
  refine Lf0 (l:=l) (fun p hp=>?_) fun m hm=>hl m (List.mem_cons_of_mem _ hm)
  unfold jU at hp
  split at hp
  ·split at hp
   ·split at hp
    ·rcases List.mem_append.1 hp with hp | hp
     ·exact h p hp
     ·rw[List.mem_singleton.1 hp]
      obtain⟨a,b⟩:=hl m (List.mem_cons_self ..)
      exact⟨m,a,rfl,b⟩
    ·exact h p hp
   ·exact h p hp
  ·exact h p hp
structure fp0 (d:Nat) (G:Gh) (r:H7) (q:H7×LC):Prop where
 si:RU d G r q
 id:q.1.id=r.id
 save:q.2.save=true→q.2.hard=q.1.hard
 same:q.2.save=false→q.1.hard=r.hard
 fit:gN q.2
theorem Zz0(r:H7)(m:U8):(yQ r m).2.save=false:=by
 unfold yQ
 split
 ·unfold Ec0
  split<;>rfl
 split
 ·unfold NU
  split
  ·rfl
  split<;>rfl
 split
 ·unfold AR
  split
  ·rfl
  split
  ·rfl
  unfold JW
  split
  ·rfl
  split
  ·rfl
  split<;>rfl
 ·unfold FJ
  split
  ·rfl
  split
  ·rfl
  split<;>rfl
theorem NJ0{G:Gh}(hg:GI G){i:Int}{u:UpP}(hu:UOk i u)(hm:MI G u.r.id u.r.hard u.r.log)(hr:RI G u.r):fp0 0 G u.r (uF u.r):=by
 refine⟨KJ0 hg hu.r hm hr,(Bc0 hu.r).2.1,fun e=>?_,fun e=>?_,Ua0 hu.r⟩
 ·unfold uF at e ⊢
  split at e
  ·cases e
  split at e
  ·cases e
  ·rename_i h1 h2
   rw[if_neg h1,if_neg h2]
 ·unfold uF at e ⊢
  split at e
  ·rename_i h1
   rw[if_pos h1]
  split at e
  ·rename_i h1 h2
   rw[if_neg h1,if_pos h2]
  ·cases e
theorem dI0{G:Gh}(hg:GI G){i:Int}{u:UpP}(hu:UOk i u)(hm:MI G u.r.id u.r.hard u.r.log)(hr:RI G u.r){m:U8}(hM:MS G m):fp0 0 G u.r (MF u.r m):=by
 refine⟨cI0 hg hu.r hm hr hu.term hM,(Og0 hu.r hu.term m).2.1,fun e=>?_,fun e=>?_,Sa0 hu.r hu.term m⟩
 ·unfold MF at e ⊢
  split at e
  ·rename_i hR
   rw[if_pos hR]
   unfold rV at e ⊢
   split at e
   ·rw[Zz0] at e
    cases e
   ·rename_i h1
    rw[if_neg h1]
  ·cases e
 ·unfold MF at e ⊢
  split at e
  ·rename_i hR
   rw[if_pos hR]
   unfold rV at e ⊢
   split at e
   ·rename_i h1
    rw[if_pos h1]
    exact h1
   ·cases e
  ·rename_i hR
   rw[if_neg hR]
theorem OI0{G:Gh}(hg:GI G){i:Int}{u:UpP}(hu:UOk i u)(hm:MI G u.r.id u.r.hard u.r.log)(hr:RI G u.r)(data:ByteArray):fp0 1 G u.r ((G7 u.r data).r,(G7 u.r data).o):=by
 have hs:(G7 u.r data).o.save=false∧(G7 u.r data).r.hard=u.r.hard:=by
  unfold G7
  split
  ·exact⟨rfl,rfl⟩
  split
  ·exact⟨rfl,rfl⟩
  split<;>exact⟨rfl,rfl⟩
 refine⟨MI0 hg hu.r hm hr hu.term data,(CP hu.r hu.term data).2.1,fun e=>?_,fun _=>hs.2,bU hu.r hu.term data⟩
 rw[hs.1] at e
 cases e
theorem SC0{n d:Nat}{G:Gh}{g:L8}(h:GInv n G g){id:Int}(hi:I3 id){u:UpP}(hu:(g.mem.get id).up=some u){q:H7×LC}(ht:fp0 d G u.r q) :
  ∃G',GInv (n+d) G' (doS (zC g id u q.1) id { u with r:=q.1 } q.2).1∧g.committed <+: (doS (zC g id u q.1) id { u with r:=q.1 } q.2).1.committed:=by
 obtain⟨uid,uD,uM,uR⟩:=(h.mem id hi).up u hu
 obtain⟨⟨G1,G',b1,g1,b2,g2,m2,r2,s2,bd,mo,mm,mc⟩,hlog⟩:=ht.si
 obtain⟨bd1,bd2⟩:=bd n h.bd
 have hm0:(zC g id u q.1).mem.get id={ (g.mem.get id) with up:=some { u with r:=q.1 } }:=T3.Z9 _ hi _
 have hst:=aG0 (m:={ (g.mem.get id) with up:=some { u with r:=q.1 } }) (u:={ u with r:=q.1 }) (o:=q.2) (hd:=u.r.hard) (hd':=q.1.hard) (l:=u.r.log) (l':=q.1.log) uD
  (fun e=>by
   have e2:=ht.save e
   have:=ht.fit.st.hard
   rw[e2] at this
   exact⟨e2,this.1,this.2⟩) ht.same hlog ht.fit.st.recs
 rw[uid] at b1 b2 m2 mo mm mc
 have hother:∀m j,I3 j→j≠id→(MB (zC g id u q.1) id m).mem.get j=g.mem.get j:=by
  intro m j hj hne
  show (((g.mem.set id _).set id m).get j)=_
  rw[T3.LB _ hi hj _ hne,T3.LB _ hi hj _ hne]
 have hself:∀m,(MB (zC g id u q.1) id m).mem.get id=m:=fun m=>T3.Z9 _ hi _
 unfold doS
 rw[hm0]
 generalize IC { (g.mem.get id) with up:=some { u with r:=q.1 } } { u with r:=q.1 } q.2=st at hst
 rcases hst with⟨e,d',j',c',e1,hD⟩ | ⟨e,d',e1,P1,P2,hD,hP⟩
 ·have hb:=b1.trans b2
  have hinv:GInv (n+d) G' (do2 (zC g id u q.1) id st q.2.send):=by
   unfold do2
   rw[if_pos e]
   refine⟨bd2,g2,fun j hj=>?_,?_,h.com.ext hb.ext⟩
   ·show lh0 G' j ((MB (zC g id u q.1) id st.1).mem.get j)
    by_cases c:j=id
    ·subst c
     rw[hself,e1]
     refine⟨fun u' hu'=>?_,fun hn=>by cases hn⟩
     cases hu'
     exact⟨ht.id.trans uid,hD,m2,r2⟩
    ·rw[hother _ _ hj c]
     exact(h.mem j hj).by hb c h.gi
   ·exact Lf0 (h.net.ext hb.ext) fun m hm=>⟨ht.fit.send m hm,s2 m hm⟩
  obtain⟨x,y⟩:=Vd0 hinv
  refine⟨G',x,?_⟩
  have ec:(do2 (zC g id u q.1) id st q.2.send).committed=g.committed:=by unfold do2;split<;>rfl
  rw[ec] at y
  exact y
 ·have hinv:GInv (n+d) G1 (do2 (zC g id u q.1) id st q.2.send):=by
   unfold do2
   rw[if_neg e]
   refine⟨bd1,g1,fun j hj=>?_,h.net.ext b1.ext,h.com.ext b1.ext⟩
   by_cases c:j=id
   ·subst c
    rw[hself,e1]
    refine⟨fun u' hu'=>(by cases hu'),fun _=>⟨P1,P2,hD,fun a b pa pb=>?_⟩⟩
    rcases hP a b pa pb with⟨rfl | rfl,rfl⟩ | ⟨h0,rfl,rfl | rfl | rfl⟩
    ·exact mo
    ·exact mm
    ·exact mm
    ·exact(mc h0).1
    ·exact(mc h0).2
   ·rw[hother _ _ hj c]
    exact(h.mem j hj).by b1 c h.gi
  obtain⟨x,y⟩:=Vd0 hinv
  refine⟨G1,x,?_⟩
  have ec:(do2 (zC g id u q.1) id st q.2.send).committed=g.committed:=by unfold do2;split<;>rfl
  rw[ec] at y
  exact y
theorem qs0{n:Nat}{G:Gh}{g:L8}(h:GInv n G g){id:Int}{f:H7→H7×LC}(hf:∀u,I3 id→(g.mem.get id).up=some u→fp0 0 G u.r (f u.r)):∃G',GInv n G' (DT g id f).1∧g.committed <+: (DT g id f).1.committed:=by
 unfold DT
 split
 ·exact⟨G,h,List.prefix_refl _⟩
 rename_i c
 obtain⟨hi,u,hu⟩:=LQ (Classical.byContradiction c)
 rw[hu]
 exact SC0 h hi hu (hf u hi hu)
theorem Mv0{n:Nat}{G:Gh}{g:L8}(h:GInv n G g)(hok:GOk g){id:Int}(hi:I3 id){u:UpP}(hu:(g.mem.get id).up=some u):UOk id u∧MI G u.r.id u.r.hard u.r.log∧RI G u.r:=by
 obtain⟨uid,_,uM,uR⟩:=(h.mem id hi).up u hu
 exact⟨hok.ups id hi u hu,by rw[uid];exact uM,uR⟩
theorem Zr0{n:Nat}{G:Gh}{g:L8}(h:GInv n G g)(hok:GOk g)(id:Int):∃G',GInv n G' (PX g id).1∧g.committed <+: (PX g id).1.committed :=
 qs0 h fun u hi hu=>by
  obtain⟨a,b,c⟩:=Mv0 h hok hi hu
  exact NJ0 h.gi a b c
theorem rb0{k:Nat}{G:Gh}{g:L8}(h:GInv k G g){n:zI}(hn:mh0 G n):GInv k G (DJ g n):=⟨h.bd,h.gi,h.mem,hn,h.com⟩
theorem fv0{G:Gh}{n:zI}(h:mh0 G n)(i:Nat):mh0 G (rmS n i):=fun p hp=>by
 rcases List.mem_append.1 hp with hp | hp
 ·exact h p (List.mem_of_mem_take hp)
 ·exact h p (List.mem_of_mem_drop hp)
theorem ef0{n:Nat}{G:Gh}{g:L8}(h:GInv n G g)(hok:GOk g)(i:Int):∃G',GInv n G' (nO g i).1∧g.committed <+: (nO g i).1.committed:=by
 have hn:mh0 G (M9 g.net i).2:=by
  unfold M9
  split
  ·split
   ·exact fv0 h.net _
   ·exact fv0 h.net _
  ·exact h.net
 have hinv:=rb0 h hn
 have hok2:=FT hok (MV (i:=i) hok.net)
 unfold nO kM
 by_cases z:(M9 g.net i).1.2=0
 ·rw[if_neg (fun hh=>hh z)]
  have hM:MS G (nV (M9 g.net i).1.1.body):=by
   unfold M9 at z ⊢
   split at z
   ·rename_i n p ha
    split at z
    ·rename_i hh
     rw[if_pos hh]
     obtain⟨_,hn2,hp⟩:=ta0 ha
     obtain⟨m,m1,m2,m3⟩:=h.net p (by rw[←hp];exact List.getElem_mem hn2)
     show MS G (nV p.body)
     rw[m2,Ll0 m1]
     exact m3
    ·cases z
   ·cases z
  exact qs0 (f:=fun r=>MF r (nV (M9 g.net i).1.1.body)) hinv fun u hi hu=>by
   obtain⟨a,b,c⟩:=Mv0 hinv hok2 hi hu
   exact dI0 h.gi a b c hM
 ·rw[if_pos z]
  exact⟨G,hinv,List.prefix_refl _⟩
theorem lc0{n:Nat}:∀(k:Nat) {G:Gh} {g:L8},GInv n G g→GOk g→∃G',GInv n G' (QF k g)∧g.committed <+: (QF k g).committed
 | 0,G,g,h,_=>⟨G,h,List.prefix_refl _⟩
 | k+1,G,g,h,hok=>by
  rw[QF]
  split
  ·exact⟨G,h,List.prefix_refl _⟩
  ·obtain⟨G1,a,b⟩:=ef0 h hok 0
   obtain⟨G2,c,d⟩:=lc0 k a (tQ hok 0 _)
   exact⟨G2,c,b.trans d⟩
theorem nv0{n:Nat}{G:Gh}{g:L8}(h:GInv n G g)(hok:GOk g)(id most:Int):∃G',GInv n G' (nQ g id most)∧g.committed <+: (nQ g id most).committed:=by
 obtain⟨G1,a,b⟩:=Zr0 h hok id
 obtain⟨G2,c,d⟩:=lc0 most.toNat a (wV hok id)
 exact⟨G2,c,b.trans d⟩
theorem Nv0{g:L8}{id:Int}(hi:I3 id){u:UpP}(hu:(g.mem.get id).up=some u):zC g id u u.r=g:=by
 have e:({ (g.mem.get id) with up:=some { u with r:=u.r } }:aB)=g.mem.get id:=by
  rcases hm:g.mem.get id with⟨d,kv,up⟩
  rw[hm] at hu
  have hu:up=some u:=hu
  subst hu
  rfl
 unfold zC MB
 rw[e]
 obtain⟨⟨a,b,c⟩,n,cc⟩:=g
 rcases hi.cases with rfl | rfl | rfl<;>rfl
theorem or0{n:Nat}{G:Gh}{g:L8}(h:GInv n G g)(hok:GOk g)(id:Int)(data:ByteArray):∃G',GInv (n+1) G' (fE g id data).g∧g.committed <+: (fE g id data).g.committed:=by
 have hup:GInv (n+1) G g:=⟨h.bd.up (Nat.le_succ n),h.gi,h.mem,h.net,h.com⟩
 unfold fE
 split
 ·exact⟨G,hup,List.prefix_refl _⟩
 rename_i c
 obtain⟨hi,u,hu⟩:=LQ (Classical.byContradiction c)
 rw[hu]
 show ∃G',GInv (n+1) G' (TK g id u (G7 u.r data)).g∧_ <+: (TK g id u (G7 u.r data)).g.committed
 obtain⟨a,b,d⟩:=Mv0 h hok hi hu
 have hd:=SC0 h hi hu (OI0 h.gi a b d data)
 unfold TK
 by_cases e:(G7 u.r data).e≠0
 ·rw[if_pos e]
  have:(G7 u.r data).r=u.r:=by
   unfold G7 at e ⊢
   split
   ·rfl
   split
   ·rfl
   split
   ·rfl
   ·rename_i h1 h2 h3
    rw[if_neg h1,if_neg h2,if_neg h3] at e
    exact absurd rfl e
  show ∃G',GInv (n+1) G' (zC g id u (G7 u.r data).r)∧_ <+: (zC g id u (G7 u.r data).r).committed
  rw[this,Nv0 hi hu]
  exact⟨G,hup,List.prefix_refl _⟩
 rw[if_neg e]
 split
 ·exact hd
 ·exact hd
theorem ob0{n:Nat}{G:Gh}{g:L8}(h:GInv n G g){id:Int}{f:aB→aB}(hf:I3 id→lh0 G id (f (g.mem.get id))):GInv n G (AQ g id f)∧g.committed <+: (AQ g id f).committed:=by
 unfold AQ
 split
 ·rename_i hi
  have hinv:GInv n G (MB g id (f (g.mem.get id))):=by
   refine⟨h.bd,h.gi,fun j hj=>?_,h.net,h.com⟩
   show lh0 G j ((g.mem.set id _).get j)
   by_cases c:j=id
   ·subst c
    rw[T3.Z9 _ hi]
    exact hf hi
   ·rw[T3.LB _ hi hj _ c]
    exact h.mem j hj
  exact Vd0 hinv
 ·exact⟨h,List.prefix_refl _⟩
theorem lh0.poss{G:Gh}{i:Int}{m:aB}(h:lh0 G i m):∃P1 P2,MD m.d P1 P2∧∀hd l,P1 hd→P2 l→MI G i hd l:=by
 cases hu:m.up with
 | none=>exact h.dn hu
 | some u =>
  obtain⟨_,b,c,_⟩:=h.up u hu
  exact⟨_,_,b.md,fun hd l e1 e2=>by rw[e1,e2];exact c⟩
theorem QC0{P:L8→Prop}{g:L8}{o:OpP}{l:List EnP}{kv:Value}(h0:P (PX g o.id).1)(h1:∀data:ByteArray,P (fE g o.id data).g)(hs:P g)(h2:∀i:Int,P (nO g i).1)(h5:∀i:Int,P (DJ g (Fa0 g.net i).2))(h6:∀i:Int,P (DJ g (sO g.net i).2))(h7:∀m:Int,P (DJ g { g.net with sp:=m }))
  (h9:P (ln0 g o.id o.keep)) (h10:P (Mo0 g o.id)) (h11:P (Uw0 g o.id o.n)) (h12:P (sp0 g o.id o.n o.keep kv)) (h13:∀k:Int,P (nQ g o.id k)):P (doG g o l kv):=by
 show P (doK g o l kv (JR o.kind 14) (JR o.n g.net.fl.length))
 generalize JR o.kind 14=kk
 generalize JR o.n g.net.fl.length=ii
 rw[doK]
 by_cases c0:kk=0
 ·rw[if_pos c0];exact h0
 rw[if_neg c0]
 by_cases c1:kk=1
 ·rw[if_pos c1]
  cases l[(JR o.n l.length).toNat]? with
  | some e=>exact h1 _
  | none=>exact hs
 rw[if_neg c1]
 by_cases c2:kk=2∨kk=3∨kk=4
 ·rw[if_pos c2];exact h2 _
 rw[if_neg c2]
 by_cases c5:kk=5
 ·rw[if_pos c5];exact h5 _
 rw[if_neg c5]
 by_cases c6:kk=6
 ·rw[if_pos c6];exact h6 _
 rw[if_neg c6]
 by_cases c7:kk=7
 ·rw[if_pos c7];exact h7 _
 rw[if_neg c7]
 by_cases c8:kk=8
 ·rw[if_pos c8];exact h7 _
 rw[if_neg c8]
 by_cases c9:kk=9
 ·rw[if_pos c9];exact h9
 rw[if_neg c9]
 by_cases c10:kk=10
 ·rw[if_pos c10];exact h10
 rw[if_neg c10]
 by_cases c11:kk=11
 ·rw[if_pos c11];exact h11
 rw[if_neg c11]
 by_cases c12:kk=12
 ·rw[if_pos c12];exact h12
 rw[if_neg c12]
 exact h13 _
theorem zL0{n:Nat}{G:Gh}{g:L8}(h0:GInv n G g)(hok:GOk g)(o:OpP)(ho:Sv0 o)(l:List EnP)(kv:Value):∃G',GInv (n+1) G' (doG g o l kv)∧g.committed <+: (doG g o l kv).committed:=by
 have hn:=ho.n
 unfold inI at hn
 have h:GInv (n+1) G g:=⟨h0.bd.up (Nat.le_succ n),h0.gi,h0.mem,h0.net,h0.com⟩
 refine QC0 (P:=fun g'=>∃G',GInv (n+1) G' g'∧g.committed <+: g'.committed) (Zr0 h hok _) (fun data=>or0 h0 hok _ data) ⟨G,h,List.prefix_refl _⟩ (fun i=>ef0 h hok i) (fun i=>⟨G,rb0 h ?_,List.prefix_refl _⟩) (fun i=>⟨G,rb0 h ?_,List.prefix_refl _⟩)
  (fun m=>⟨G,rb0 h h.net,List.prefix_refl _⟩) ⟨G,ob0 h fun hi=>?_⟩ ⟨G,ob0 h fun hi=>?_⟩ ⟨G,ob0 h fun hi=>?_⟩ ⟨G,ob0 h fun hi=>?_⟩ fun k=>nv0 h hok _ k
 ·unfold Fa0
  split
  ·exact fv0 h.net _
  ·exact h.net
 ·unfold sO
  split
  ·rename_i n x ha
   split
   ·intro p hp
    rcases List.mem_append.1 hp with hp | hp
    ·exact h.net p hp
    ·rw[List.mem_singleton.1 hp]
     obtain⟨_,hn,hx⟩:=ta0 ha
     exact h.net x (by rw[←hx];exact List.getElem_mem hn)
   ·exact h.net
  ·exact h.net
 ·obtain⟨P1,P2,a,b⟩:=(h.mem _ hi).poss
  exact⟨fun u hu=>(by cases hu),fun _=>⟨P1,P2,a.IK _,b⟩⟩
 ·unfold jR
  split
  ·exact h.mem _ hi
  ·rename_i hup
   obtain⟨P1,P2,a,b⟩:=(h.mem _ hi).poss
   rcases iG0 (id:=o.id) (kv:=(g.mem.get o.id).kv) a.start with⟨d',Q1,Q2,e,c,p,q⟩ | ⟨d',j,c,hd,l',e,p,q,hu⟩
   ·rw[e]
    exact⟨fun u hu=>(by cases hu),fun _=>⟨Q1,Q2,c,fun hd l' x y=>b hd l' (p _ x) (q _ y)⟩⟩
   ·rw[e]
    refine⟨fun u hu2=>?_,fun hn=>(by cases hn)⟩
    cases hu2
    exact⟨rfl,hu,b _ _ p q,HE0 _ _ _ _⟩
 ·have hm:=h.mem _ hi
  refine⟨fun u hu=>?_,fun hu=>?_⟩
  ·obtain⟨a,b,c,d⟩:=hm.up u hu
   exact⟨a,b.lose (by omega),c,d⟩
  ·obtain⟨P1,P2,a,b⟩:=hm.dn hu
   exact⟨P1,P2,a.lose (by omega),b⟩
 ·have hm:=h.mem _ hi
  refine⟨fun u hu=>?_,fun hu=>?_⟩
  ·obtain⟨a,b,c,d⟩:=hm.up u hu
   exact⟨a,b.arm (by omega) _,c,d⟩
  ·obtain⟨P1,P2,a,b⟩:=hm.dn hu
   exact⟨P1,P2,a.arm (by omega) _,b⟩
theorem zI0:GInv 0 gh0 Ud0:=by
 have hm:∀i,I3 i→lh0 gh0 i (upM i gNil wB).1:=by
  intro i hi
  rcases iG0 (id:=i) (kv:=gNil) gM0 with⟨d',Q1,Q2,e,c,p,q⟩ | ⟨d',j,c,hd,l',e,p,q,hu⟩
  ·rw[e]
   refine⟨fun u hu=>(by cases hu),fun _=>⟨Q1,Q2,c,fun hd l' x y=>?_⟩⟩
   rw[p _ x,q _ y]
   exact KD0 i
  ·rw[e]
   refine⟨fun u hu2=>?_,fun hn=>(by cases hn)⟩
   cases hu2
   refine⟨rfl,hu,?_,HE0 _ _ _ _⟩
   have q:l'=[]:=q
   show MI gh0 i hd l'
   rw[q]
   exact KD0 i
 refine⟨fun t=>⟨Nat.zero_le _,fun x hx=>(by cases hx)⟩,NL0,fun i hi=>?_,fun p hp=>(by cases hp),⟨0,0,.inl rfl,rfl⟩⟩
 rcases hi.cases with rfl | rfl | rfl
 ·exact hm 0 hi
 ·exact hm 1 hi
 ·exact hm 2 hi
theorem uw0{n:Nat}{G:Gh}{g:L8}(h:GInv n G g):g.committed.length≤n∧∀s∈g.committed,s.length≤2000:=by
 obtain⟨t,k,_,e⟩:=h.com
 obtain⟨b1,b2⟩:=h.bd t
 rw[e]
 unfold bsL
 refine⟨?_,fun s hs=>?_⟩
 ·rw[List.length_map,List.length_take]
  omega
 ·obtain⟨x,hx,rfl⟩:=List.mem_map.1 hs
  rw[y8]
  exact b2 x (List.mem_of_mem_take hx)
def evD(D:List (EnP×SV)):List Ev:=D.mapIdx fun i p=>evL i p.1
theorem An0(D:List (EnP×SV)):(evD D).length=D.length:=by unfold evD;rw[List.length_mapIdx]
theorem uH0{D:List (EnP×SV)}{i:Nat}(h:i<D.length):(evD D)[i]'(by rw[An0];exact h)=evL i (D[i]).1:=by
 unfold evD
 rw[List.getElem_mapIdx]
theorem du0(D:List (EnP×SV))(p:EnP×SV):evD (D++[p])=evD D++[evL D.length p.1]:=by
 unfold evD
 rw[List.mapIdx_concat]
structure ik0 (s:St) (D:List (EnP×SV)):Prop where
 ev:s.events=(evD D).drop s.first.toNat
 first:0≤s.first∧s.first≤D.length
 hz:∀i (h:i<D.length),(i:Int)<s.first→(D[i]).1.time<s.horizon
 right:QW s
 part:s.part=0
structure KB0 (l:LS) (D:List (EnP×SV)):Prop where
 done:l.done=YI D
 next:l.x.next=D.length
 good:fO l.x
 fin:∃times,Fm0 l.x times
 known:l.x.known=ksL
theorem ik0.next{s:St}{D:List (EnP×SV)}(h:ik0 s D):s.next=D.length∧(s.events.length:Int)=D.length-s.first:=by
 have h1:=congrArg List.length h.ev
 rw[List.length_drop,An0] at h1
 have:=h.first
 unfold St.next
 omega
theorem cJ0:ik0 ⟨0,0,0,[]⟩ []:=⟨rfl,by show (0:Int)≤0∧(0:Int)≤(0:Nat);omega,fun i h=>(by cases h),
 ⟨by show inI 0;unfold inI;omega,by show (0:Int)≤0∧(0:Int)≤_;omega,by show (0:Int)≤0∧(0:Int)≤_;omega,Iff.rfl,Nat.zero_le _,fun e he=>(by cases he),fun i h=>(by cases h)⟩,rfl⟩
theorem GI0{c:CfD}(h:nG c):KB0 ⟨lT c ksL,⟨0,0,0,[]⟩,[]⟩ []:=⟨rfl,rfl,ar0 h _,⟨[],DH0 h _⟩,rfl⟩
theorem ik0.cut{s:St}{D:List (EnP×SV)}(h:ik0 s D){n:Nat}(hn:n≤s.events.length)(hD:D.length≤1000000):ik0 (fH0 s n) D:=by
 obtain⟨h1,h2⟩:=h.next
 have h3:=h.first
 obtain⟨g1,g2⟩:=tu0 s.horizon (s.events.take n)
 refine⟨?_,?_,fun i hi hlt=>?_,h.right.cut hn (by omega),h.part⟩
 ·show s.events.drop n=(evD D).drop (s.first+n).toNat
  rw[h.ev,List.drop_drop,show (s.first+(n:Int)).toNat=s.first.toNat+n by omega]
 ·show 0≤s.first+n∧s.first+n≤(D.length:Int)
  omega
 ·have hlt:(i:Int)<s.first+n:=hlt
  show (D[i]).1.time<hor s.horizon (s.events.take n)
  by_cases c:(i:Int)<s.first
  ·have:=h.hz i hi c
   omega
  ·have hj:i-s.first.toNat<s.events.length:=by omega
   have hm:s.events[i-s.first.toNat]'hj∈s.events.take n:=by
    rw[List.mem_take_iff_getElem]
    exact⟨i-s.first.toNat,by omega,rfl⟩
   have e:s.events[i-s.first.toNat]'hj=evL i (D[i]).1:=by
    rw[←uH0 hi]
    have h5:s.events[i-s.first.toNat]'hj=((evD D).drop s.first.toNat)[i-s.first.toNat]'(by rw[←h.ev];exact hj):=by congr 1;exact h.ev
    rw[h5,List.getElem_drop]
    congr 1
    omega
   have:=g2 _ hm
   rw[e] at this
   have:(evL (↑i) (D[i]).1).time=(D[i]).1.time:=rfl
   omega
theorem At0{s:IS}{e:EnD}{r:List KD}(h:¬(e.kind=0∧(WB s e r).1.2=0)):(WB s e r).2.next=s.next:=by
 unfold WB at h ⊢
 by_cases c0:e.kind=0
 ·rw[if_pos c0] at h ⊢
  unfold xR at h ⊢
  simp only at h ⊢
  by_cases c:(jW s e r).2≠0
  ·rw[if_pos c]
   simp only
   split<;>rfl
  ·rw[if_neg c] at h
   exact absurd ⟨c0,Decidable.of_not_not c⟩ h
 rw[if_neg c0]
 by_cases c1:e.kind=1
 ·rw[if_pos c1]
  simp only
  split<;>rfl
 rw[if_neg c1]
 split
 ·split
  ·rfl
  ·split
   ·rfl
   ·split<;>rfl
 ·rfl
theorem Vk0{s:IS}{e:EnD}{r:List KD}(h0:e.kind=0)(h:(WB s e r).1.2=0):(WB s e r).1.1=s.next∧(WB s e r).2.next=s.next+1∧dM e.time∧eZ s.known e.source e.schema r=0∧X9 s<e.time:=by
 unfold WB at h ⊢
 rw[if_pos h0] at h ⊢
 unfold xR at h ⊢
 simp only at h ⊢
 by_cases c:(jW s e r).2≠0
 ·rw[if_pos c] at h
  exact absurd h c
 ·rw[if_neg c]
  obtain⟨_,p2,p3,p4,_,_,p7⟩:=Qb0 (Decidable.of_not_not c)
  exact⟨p7,rfl,p2,p3,p4⟩
theorem BD0{src:ByteArray}{schema:Int}{r:List KD}(h:eZ ksL src schema r=0):UK r=true∧schema=1∧src.size≤200:=by
 unfold eZ at h
 cases hf:ksL.find? (Au0 src schema) with
 | none=>rw[hf] at h;cases h
 | some k =>
  rw[hf] at h
  simp only at h
  split at h
  ·rename_i hh
   refine⟨by rw[←If0];exact hh.2,?_⟩
   have h1:=List.find?_some hf
   have h2:=List.mem_of_find?_eq_some hf
   unfold Au0 at h1
   rw[Bool.and_eq_true,decide_eq_true_eq,decide_eq_true_eq] at h1
   have h2:=List.mem_singleton.1 h2
   rw[←h1.2,←h1.1,h2]
   exact⟨rfl,by decide⟩
  ·cases h
structure ep0 (e:EnP):Prop where
 vals:∀v∈e.row,iL v
theorem Ue0{l:LS}{D:List (EnP×SV)}(hr:ik0 l.s D)(hp:KB0 l D){e:EnP}(v:SV)(he:ep0 e)(hn:D.length<2000)(hrf:l.x.refused<1000000000) :
  (KA l e v).2=true∧(KA l e v).1.x.cfg=l.x.cfg∧(KA l e v).1.x.refused≤l.x.refused+1∧∃D',(D'=D∨D'=D++[(e,v)])∧ik0 (KA l e v).1.s D'∧KB0 (KA l e v).1 D':=by
 have hnx:=hp.next
 obtain⟨g1,g2,g3,g4,g5⟩:=rZ hp.good (e.raw v) e.row (by omega) hrf
 obtain⟨times,hfin⟩:=hp.fin
 have hF:=Ye0 hfin (e.raw v) e.row
 have hnext:=fun h=>At0 (s:=l.x) (e:=e.raw v) (r:=e.row) h
 have hput:=fun h0 h=>Vk0 (s:=l.x) (e:=e.raw v) (r:=e.row) h0 h
 unfold KA
 generalize WB l.x (e.raw v) e.row=a at *
 unfold cd0
 by_cases c:e.kind≠0∨a.1.2≠0
 ·rw[if_pos c]
  have hno:¬((e.raw v).kind=0∧a.1.2=0):=fun hh=>c.elim (fun h=>h hh.1) fun h=>h hh.2
  exact⟨rfl,g2,g5,D,.inl rfl,hr,hp.done,(hnext hno).trans hnx,g1,⟨_,hF.no hno⟩,g3.trans hp.known⟩
 ·rw[if_neg c]
  have c0:e.kind=0:=Classical.byContradiction fun h=>c (.inl h)
  have c1:a.1.2=0:=Classical.byContradiction fun h=>c (.inr h)
  obtain⟨p1,p2,p3,p4,p5⟩:=hput c0 c1
  rw[hp.known] at p4
  obtain⟨q1,q2,q3⟩:=BD0 p4
  have q3:e.source.size≤200:=q3
  have q2:e.schema=1:=q2
  have p3:dM e.time:=p3
  obtain⟨n1,n2⟩:=hr.next
  have hfs:=hr.first
  have hpos:a.1.1=l.s.next:=by rw[p1,hnx,n1]
  have hadd:QS l.s (evL a.1.1 e)=(0,{ l.s with events:=l.s.events++[evL a.1.1 e] }):=by
   refine VG0 ?_ q1 hpos (by omega)
   unfold dM at p3
   show (decide ((0:Int)=l.s.part)&&(decide (e.source.size≤200)&&(decide (0≤e.schema)&&(decide (0≤e.time)&&decide (e.time≤1099511627776)))))=true
   rw[hr.part,decide_eq_true rfl,decide_eq_true q3,decide_eq_true (show 0≤e.schema by omega),decide_eq_true p3.1,decide_eq_true p3.2]
   rfl
  have hR:=hr.right.add (evL a.1.1 e) he.vals (show inI e.schema by unfold inI;omega) (show inI e.time by unfold dM at p3;unfold inI;omega)
  rw[hadd] at hR ⊢
  refine⟨rfl,g2,g5,D++[(e,v)],.inr rfl,⟨?_,?_,fun i hi hlt=>?_,hR,hr.part⟩,?_,?_,g1,⟨_,(hF.yes c0 c1).2.2⟩,g3.trans hp.known⟩
  ·show l.s.events++[evL a.1.1 e]=(evD (D++[(e,v)])).drop l.s.first.toNat
   rw[du0,List.drop_append_of_le_length (by rw[An0];omega),←hr.ev,p1,hnx]
  ·show 0≤l.s.first∧l.s.first≤((D++[(e,v)]).length:Int)
   rw[List.length_append,List.length_singleton]
   omega
  ·have hlt:(i:Int)<l.s.first:=hlt
   show ((D++[(e,v)])[i]).1.time<l.s.horizon
   rw[List.getElem_append_left (by omega)]
   exact hr.hz i (by omega) hlt
  ·show l.done++[e.raw v]=YI (D++[(e,v)])
   unfold YI
   rw[List.map_append,hp.done]
   rfl
  ·show a.2.next=((D++[(e,v)]).length:Int)
   rw[p2,hnx,List.length_append,List.length_singleton]
   omega
structure PW (c:CfD) (L:List (EnP×SV)) (i:Nat) (l:LS) (D:List (EnP×SV)):Prop where
 par:KB0 l D
 ret:ik0 l.s D
 cfg:l.x.cfg=c
 refused:l.x.refused≤i
 len:D.length≤i
 sub:∀p∈D,p∈L
theorem PW.ok{c:CfD}{L D:List (EnP×SV)}{i:Nat}{l:LS}(h:PW c L i l D)(hi:i≤999999):LOk l:=by
 have h1:=h.par.next
 have h2:=h.refused
 have h3:=h.len
 refine⟨h.par.good,by omega,by omega,?_,?_⟩
 ·rw[h.par.known];show 1≤1000000;omega
 ·rw[h.par.done];unfold YI;rw[List.length_map];omega
theorem PW.cut{c:CfD}{L D:List (EnP×SV)}{i:Nat}{l:LS}(h:PW c L i l D)(hi:i≤999999){n:Nat}(hn:n≤l.s.events.length):PW c L i { l with s:=fH0 l.s n } D :=
 ⟨⟨h.par.done,h.par.next,h.par.good,h.par.fin,h.par.known⟩,h.ret.cut hn (by have:=h.len;omega),h.cfg,h.refused,h.len,h.sub⟩
theorem PW.step{c:CfD}{L D:List (EnP×SV)}{i:Nat}{l:LS}(h:PW c L i l D)(hi:i<2000){p:EnP×SV}(hp:p∈L)(he:ep0 p.1):(KA l p.1 p.2).2=true∧∃D',PW c L (i+1) (KA l p.1 p.2).1 D':=by
 have h2:=h.refused
 have h3:=h.len
 obtain⟨a,b,d,D',e,f,g⟩:=Ue0 h.ret h.par p.2 he (by omega) (by omega)
 refine⟨a,D',g,f,b.trans h.cfg,by omega,?_,fun q hq=>?_⟩
 ·rcases e with rfl | rfl
  ·omega
  ·rw[List.length_append,List.length_singleton];omega
 ·rcases e with rfl | rfl
  ·exact h.sub q hq
  ·rcases List.mem_append.1 hq with hq | hq
   ·exact h.sub q hq
   ·rw[List.mem_singleton.1 hq];exact hp
theorem PW.up{c:CfD}{L D:List (EnP×SV)}{i:Nat}{l:LS}(h:PW c L i l D):PW c L (i+1) l D :=
 ⟨h.par,h.ret,h.cfg,by have:=h.refused;omega,by have:=h.len;omega,h.sub⟩
end Go.Proofs.YtngbebnhegcokaaGreatDoor
namespace Go.Proofs.YtngbebnhegcokaaGreatDoor
open Go.Proofs.Tryz (prog)
open Go.RowKit
def isE(id e:Int)(x:EnD):Bool:=decide (x.producer=id)&&decide (x.epoch=e)
theorem Gq0{id e:Int}{x:EnD}:isE id e x=true↔x.producer=id∧x.epoch=e:=by simp [isE]
def sel(done:List EnD)(id e:Int):List (EnD×Nat):=done.zipIdx.filter fun p=>isE id e p.1
theorem Fr0(done:List EnD)(x:EnD)(id e:Int):sel (done++[x]) id e=sel done id e++if isE id e x=true then [(x,done.length)] else []:=by
 unfold sel
 rw[List.zipIdx_append,List.filter_append]
 congr 1
 simp only[Nat.zero_add,List.zipIdx_singleton,List.filter_cons,List.filter_nil]
theorem qJ0{done:List EnD}{id e:Int}{p:EnD×Nat}(h:p∈sel done id e):p.2<done.length:=by
 have:=(List.mem_filter.1 h).1
 rw[List.mem_zipIdx_iff_getElem?] at this
 exact(List.getElem?_eq_some_iff.1 this).1
structure PY (s:List Pr) (done:List EnD):Prop where
 right:aH s
 seqs:∀id e i (h:i<(sel done id e).length),(sel done id e)[i].1.seq=i
 next:∀id,(w_ s id).next=(sel done id (w_ s id).epoch).length
 last:∀id,(w_ s id).last=((sel done id (w_ s id).epoch).map fun p=>(p.2:Int)).drop ((sel done id (w_ s id).epoch).length-20)
 later:∀id e,(w_ s id).epoch<e→sel done id e=[]
 ok:∀x∈done,x.kind=0∧okN x.producer∧okN x.epoch∧okN x.seq
theorem kr0:PY [] []:=⟨jm0,fun id e i h=>absurd h (Nat.not_lt_zero i),fun id=>rfl,fun id=>rfl,fun id e h=>rfl,fun x hx=>(by cases hx)⟩
theorem jr0{s:List Pr}{done:List EnD}(h:PY s done){id:Int}(hz:(oI s id).2.2=0):PY (oI s id).1 done:=by
 obtain⟨f1,f2,f3,f4⟩:=mq0 hz
 have hR:=qf0 h.right hz
 rw[f4] at hR ⊢
 have hself:=(ll0 h.right.pw ⟨id,(w_ s id).epoch+1,0,[]⟩).1
 have hother:=fun i2:Int=>ab0 h.right.pw ⟨id,(w_ s id).epoch+1,0,[]⟩ (id:=i2)
 have hself:w_ (kG s ⟨id,(w_ s id).epoch+1,0,[]⟩) id=⟨id,(w_ s id).epoch+1,0,[]⟩:=hself
 have hnil:=h.later id ((w_ s id).epoch+1) (by omega)
 refine⟨hR,h.seqs,fun i2=>?_,fun i2=>?_,fun i2 e2 he2=>?_,h.ok⟩
 ·show (w_ (kG s _) i2).next=(sel done i2 (w_ (kG s _) i2).epoch).length
  by_cases c:i2=id
  ·subst c;rw[hself];simp only;rw[hnil];rfl
  ·rw[(hother i2 c).1];exact h.next i2
 ·show (w_ (kG s _) i2).last=((sel done i2 (w_ (kG s _) i2).epoch).map _).drop ((sel done i2 (w_ (kG s _) i2).epoch).length-20)
  by_cases c:i2=id
  ·subst c;rw[hself];simp only;rw[hnil];rfl
  ·rw[(hother i2 c).1];exact h.last i2
 ·have he2:(w_ (kG s ⟨id,(w_ s id).epoch+1,0,[]⟩) i2).epoch<e2:=he2
  by_cases c:i2=id
  ·subst c;rw[hself] at he2;exact h.later i2 e2 (by have:(w_ s i2).epoch+1<e2:=he2;omega)
  ·rw[(hother i2 c).1] at he2;exact h.later i2 e2 he2
theorem aM0(l:List Int)(p:Int):(l.drop (l.length-20)++[p]).drop ((l.drop (l.length-20)++[p]).length-20)=(l++[p]).drop ((l++[p]).length-20):=by
 have e1:l.drop (l.length-20)++[p]=(l++[p]).drop (l.length-20):=by rw[List.drop_append_of_le_length (by omega)]
 rw[e1,List.drop_drop,List.length_drop]
 congr 1
 simp
 omega
theorem BA0{s:List Pr}{done:List EnD}(h:PY s done){x:EnD}(hk:x.kind=0)(hz:(EN s x.producer x.epoch x.seq).2=0)(hd:done.length≤1000000) :
  x.seq=(sel done x.producer x.epoch).length∧PY (kW s x.producer x.epoch x.seq done.length) (done++[x]):=by
 obtain⟨⟨g1,g2,g3⟩,he,hq,hfull⟩:=look_ok hz
 have hR:=fm0 h.right x.producer x.epoch x.seq done.length
 have hnx:=h.next x.producer
 have hls:=h.last x.producer
 rw[←he] at hnx hls
 have hin:inP (done.length:Int):=⟨by omega,by omega⟩
 have hb:¬(0<(w_ s x.producer).last.length∧(done.length:Int)≤(w_ s x.producer).last.getD ((w_ s x.producer).last.length-1) 0):=by
  rintro⟨h0,h1⟩
  rw[List.getD_eq_getElem?_getD,List.getElem?_eq_getElem (by omega),Option.getD_some] at h1
  have hm:(w_ s x.producer).last[(w_ s x.producer).last.length-1]'(by omega)∈(w_ s x.producer).last:=List.getElem_mem _
  generalize (w_ s x.producer).last[(w_ s x.producer).last.length-1]'(by omega)=z at h1 hm
  rw[hls] at hm
  obtain⟨k,hk,rfl⟩:=List.mem_map.1 (List.mem_of_mem_drop hm)
  have:=qJ0 hk
  omega
 have e1:kW s x.producer x.epoch x.seq done.length=kG s (MZ (w_ s x.producer) done.length):=by
  unfold kW
  rw[if_neg (fun hh=>hh hz),if_neg (fun hh=>hh hin),if_neg hb]
 rw[e1] at hR ⊢
 have hidp:(MZ (w_ s x.producer) done.length).id=x.producer:=Gn0 s x.producer
 have hself:=(ll0 h.right.pw (MZ (w_ s x.producer) done.length)).1
 have hother:=fun i2:Int=>ab0 h.right.pw (MZ (w_ s x.producer) done.length) (id:=i2)
 rw[hidp] at hself
 have hep:(MZ (w_ s x.producer) done.length).epoch=x.epoch:=he.symm
 have hsel:∀i2 e2,¬(x.producer=i2∧x.epoch=e2)→sel (done++[x]) i2 e2=sel done i2 e2:=fun i2 e2 hn=>by
  rw[Fr0,if_neg (fun hh=>hn (Gq0.1 hh)),List.append_nil]
 have hps:sel (done++[x]) x.producer x.epoch=sel done x.producer x.epoch++[(x,done.length)]:=by
  rw[Fr0,if_pos (Gq0.2 ⟨rfl,rfl⟩)]
 refine⟨by rw[hq,hnx],hR,fun i2 e2=>?_,fun i2=>?_,fun i2=>?_,fun i2 e2 he2=>?_,fun y hy=>?_⟩
 ·by_cases c:x.producer=i2∧x.epoch=e2
  ·obtain⟨rfl,rfl⟩:=c
   rw[hps]
   intro i hi
   by_cases hl:i<(sel done x.producer x.epoch).length
   ·rw[List.getElem_append_left hl];exact h.seqs _ _ i hl
   ·have hi':i=(sel done x.producer x.epoch).length:=by rw[List.length_append,List.length_singleton] at hi;omega
    subst hi'
    rw[List.getElem_append_right (Nat.le_refl _)]
    simp only[Nat.sub_self,List.getElem_cons_zero]
    rw[hq,hnx]
  ·rw[hsel i2 e2 c];exact h.seqs i2 e2
 ·by_cases c:i2=x.producer
  ·subst c
   rw[hself,hep,hps,List.length_append,List.length_singleton]
   show (w_ s x.producer).next+1=_
   rw[hnx];omega
  ·rw[(hother i2 (by rw[hidp];exact c)).1,hsel _ _ (fun hh=>c hh.1.symm)];exact h.next i2
 ·by_cases c:i2=x.producer
  ·subst c
   rw[hself,hep,hps,List.map_append]
   show ((w_ s x.producer).last++[(done.length:Int)]).drop (((w_ s x.producer).last++[(done.length:Int)]).length-20)=_
   have e3:(sel done x.producer x.epoch).length=((sel done x.producer x.epoch).map fun p=>(p.2:Int)).length:=by rw[List.length_map]
   have e4:(sel done x.producer x.epoch++[(x,done.length)]).length=((sel done x.producer x.epoch).map (fun p=>(p.2:Int))++[(done.length:Int)]).length:=by simp
   rw[hls,e4,e3,aM0]
   rfl
  ·rw[(hother i2 (by rw[hidp];exact c)).1,hsel _ _ (fun hh=>c hh.1.symm)];exact h.last i2
 ·by_cases c:i2=x.producer
  ·subst c
   rw[hself,hep] at he2
   rw[hsel _ _ (fun hh=>by omega)]
   exact h.later x.producer e2 (by omega)
  ·rw[(hother i2 (by rw[hidp];exact c)).1] at he2
   rw[hsel _ _ (fun hh=>c hh.1.symm)];exact h.later i2 e2 he2
 ·rcases List.mem_append.1 hy with hy | hy
  ·exact h.ok y hy
  ·rw[List.mem_singleton.1 hy];exact⟨hk,g1,g2,g3⟩
structure ZM0 (s:IS) (done:List EnD) (e:EnD) (x:(Int×Int)×IS):Prop where
 yes:e.kind=0→x.1.2=0→x.1.1=done.length∧e.seq=(sel done e.producer e.epoch).length∧PY x.2.prods (done++[e])∧x.2.next=done.length+1
 no:¬(e.kind=0∧x.1.2=0)→PY x.2.prods done∧x.2.next=done.length
theorem Bt0{s:IS}{done:List EnD}(h:PY s.prods done)(hn:s.next=done.length)(hd:done.length≤1000000)(e:EnD)(r:List KD):ZM0 s done e (WB s e r):=by
 unfold WB
 by_cases c0:e.kind=0
 ·rw[if_pos c0]
  unfold xR
  simp only
  by_cases c:(jW s e r).2≠0
  ·rw[if_pos c]
   split
   ·exact⟨fun _ h2=>absurd h2 c,fun _=>⟨h,hn⟩⟩
   ·exact⟨fun _ h2=>absurd h2 c,fun _=>⟨h,hn⟩⟩
  ·rw[if_neg c]
   have c:=Decidable.of_not_not c
   obtain⟨p1,_,_,_,_,_,p7⟩:=Qb0 c
   obtain⟨q1,q2⟩:=BA0 h c0 p1 hd
   refine⟨fun _ _=>⟨by show (jW s e r).1=_;rw[p7,hn],q1,?_,by show s.next+1=_;rw[hn]⟩,fun hn=>absurd ⟨c0,c⟩ hn⟩
   show PY (kW s.prods e.producer e.epoch e.seq (jW s e r).1) _
   rw[p7,hn]
   exact q2
 rw[if_neg c0]
 by_cases c1:e.kind=1
 ·rw[if_pos c1]
  split
  ·rename_i hz
   exact⟨fun h=>absurd h c0,fun _=>⟨jr0 h hz,hn⟩⟩
  ·exact⟨fun h=>absurd h c0,fun _=>⟨h,hn⟩⟩
 rw[if_neg c1]
 split
 ·split
  ·exact⟨fun h=>absurd h c0,fun _=>⟨h,hn⟩⟩
  ·split
   ·exact⟨fun h=>absurd h c0,fun _=>⟨h,hn⟩⟩
   ·split
    ·exact⟨fun h=>absurd h c0,fun _=>⟨h,hn⟩⟩
    ·exact⟨fun h=>absurd h c0,fun _=>⟨h,hn⟩⟩
 ·exact⟨fun h=>absurd h c0,fun _=>⟨h,hn⟩⟩
end Go.Proofs.YtngbebnhegcokaaGreatDoor
namespace Go.Proofs.YtngbebnhegcokaaGreatDoor
open Go.Proofs.Tryz (prog)
open Go.RowKit
set_option maxRecDepth 100000
theorem le0(t:Bs)(ht:t.length≤2000):ep0 (xC t)∧(xC t).row.length≤2000∧∀v∈(xC t).row,v.s.size≤2000:=by
 have key:∀a b c d src e f (x:Bs×RS),x.1.length≤2000→ep0 (OZ a b c d src e f x)∧(OZ a b c d src e f x).row.length≤2000∧∀v∈(OZ a b c d src e f x).row,v.s.size≤2000:=by
  intro a b c d src e f x hx
  have none_:ep0 eU∧eU.row.length≤2000∧∀v∈eU.row,v.s.size≤2000:=⟨⟨fun v hv=>by cases hv⟩,Nat.zero_le _,fun v hv=>by cases hv⟩
  unfold OZ
  cases hr:OO x.1 with
  | none=>exact none_
  | some r =>
   simp only
   split
   ·obtain⟨h1,h2⟩:=qo0 hr
    have hlen:(pG r).length≤2000:=by rw[h1];exact hx
    have hf:∀(l:List KD),l.length≤(l.flatMap tO).length∧∀v∈l,v.s.size≤(l.flatMap tO).length:=by
     intro l
     induction l with
     | nil=>exact⟨Nat.le_refl _,fun v hv=>by cases hv⟩
     | cons v l ih =>
      rw[List.flatMap_cons,List.length_append,List.length_cons]
      have:=td0 v
      have hv:v.s.size≤(tO v).length:=by
       unfold tO bB
       simp only[List.length_append,List.length_cons]
       rw[y8]
       omega
      refine⟨by omega,fun y hy=>?_⟩
      rcases List.mem_cons.1 hy with rfl | hy
      ·omega
      ·have:=ih.2 y hy
       omega
    obtain⟨f1,f2⟩:=hf r
    unfold pG at hlen
    rw[List.length_append] at hlen
    refine⟨⟨h2⟩,?_,fun v hv=>?_⟩
    ·show r.length≤2000
     omega
    ·have:=f2 v hv
     omega
   ·exact none_
 have l1:=gK ⟨t,false⟩
 have l1:(GA ⟨t,false⟩).2.rest.length≤t.length:=l1
 have l2:=gK (GA ⟨t,false⟩).2
 have l3:=gK (GA (GA ⟨t,false⟩).2).2
 have l4:=gK (GA (GA (GA ⟨t,false⟩).2).2).2
 unfold xC mo0 no0
 have l5:=OX (GA (GA (GA (GA ⟨t,false⟩).2).2).2).2
 generalize SA (GA (GA (GA (GA ⟨t,false⟩).2).2).2).2=x at *
 have l6:=gK x.2
 have l7:=gK (GA x.2).2
 have l8:=OX (GA (GA x.2).2).2
 exact key _ _ _ _ _ _ _ _ (by omega)
def apX(p:IS×St)(e:EnP):IS×St:=((KA ⟨p.1,p.2,[]⟩ e YB).1.x,(KA ⟨p.1,p.2,[]⟩ e YB).1.s)
theorem bL0(l:LS)(e:EnP)(v:SV):((KA l e v).1.x,(KA l e v).1.s)=apX (l.x,l.s) e:=by
 have h:WB l.x (e.raw v) e.row=WB l.x (e.raw YB) e.row:=rfl
 unfold apX KA
 rw[h]
 unfold cd0
 split<;>rfl
noncomputable def Iw0(c:CfD)(s:List Bs):IS×St:=(s.map xC).foldl apX (lT c ksL,⟨0,0,0,[]⟩)
theorem ku0(c:CfD)(s:List Bs)(b:Bs):Iw0 c (s++[b])=apX (Iw0 c s) (xC b):=by
 unfold Iw0
 rw[List.map_append,List.foldl_append]
 rfl
theorem oJ0(l:List EnD)(id e:Int):(sel l id e).length=YS l id e:=by
 unfold sel YS
 have:((l.zipIdx.filter fun p=>isE id e p.1).map (·.1))=l.filter (isE id e):=by
  have h:(fun p:EnD×Nat=>isE id e p.1)=(isE id e) ∘ (·.1):=rfl
  rw[h,←List.filter_map,List.zipIdx_map_fst]
 rw[←List.length_map (·.1),this]
 rfl
theorem Zu0{l:List EnD}(h:ir0 l){x:EnD}(hx:x.seq=YS l x.producer x.epoch):ir0 (l++[x]):=by
 intro i hi
 by_cases c:i<l.length
 ·rw[List.getElem_append_left c,List.take_append_of_le_length (by omega)]
  exact h i c
 ·rw[List.length_append,List.length_singleton] at hi
  have e:i=l.length:=by omega
  subst e
  simp only[List.getElem_append_right (Nat.le_refl _),Nat.sub_self,List.getElem_cons_zero]
  rw[List.take_append_of_le_length (Nat.le_refl _),List.take_length]
  exact hx
structure DY (c:CfD) (s:List Bs) (l:LS) (D:List (EnP×SV)):Prop where
 par:KB0 l D
 ret:ik0 l.s D
 cfg:l.x.cfg=c
 refused:l.x.refused≤s.length
 len:D.length≤s.length
 st:(l.x,l.s)=Iw0 c s
 onceP:PY l.x.prods l.done
 once:ir0 l.done
theorem DY.new{c:CfD}(h:nG c):DY c [] ⟨lT c ksL,⟨0,0,0,[]⟩,[]⟩ []:=⟨GI0 h,cJ0,rfl,Int.le_refl _,Nat.le_refl _,rfl,kr0,fun i hi=>by cases hi⟩
theorem DY.ok{c:CfD}{s:List Bs}{l:LS}{D:List (EnP×SV)}(h:DY c s l D)(hs:s.length≤999999):LOk l:=by
 have h1:=h.par.next
 have h2:=h.refused
 have h3:=h.len
 refine⟨h.par.good,by omega,by omega,?_,?_⟩
 ·rw[h.par.known];show 1≤1000000;omega
 ·rw[h.par.done];unfold YI;rw[List.length_map];omega
theorem DY.tL0{c:CfD}{s:List Bs}{l:LS}{D:List (EnP×SV)}(h:DY c s l D):l.done.length=D.length:=by rw[h.par.done];unfold YI;rw[List.length_map]
theorem DY.step{c:CfD}{s:List Bs}{l:LS}{D:List (EnP×SV)}(h:DY c s l D)(hs:s.length<2000){b:Bs}(hb:b.length≤2000)(v:SV) :
  (KA l (xC b) v).2=true∧(∃D',DY c (s++[b]) (KA l (xC b) v).1 D')∧X9 l.x≤X9 (KA l (xC b) v).1.x ∧
   (l.done.length<(KA l (xC b) v).1.done.length→∃y,(KA l (xC b) v).1.done[l.done.length]? = some y∧X9 l.x<y.time):=by
 have h2:=h.refused
 have h3:=h.len
 have hd:=h.tL0
 obtain⟨e1,e2,e3⟩:=le0 b hb
 obtain⟨a1,a2,a3,D',a4,a5,a6⟩:=Ue0 h.ret h.par v e1 (by omega) (by omega)
 have hst:=bL0 l (xC b) v
 rw[h.st,←ku0] at hst
 have hO:=Bt0 h.onceP (by rw[h.par.next,hd]) (by omega) ((xC b).raw v) (xC b).row
 obtain⟨times,hfin⟩:=h.par.fin
 have hF:=Ye0 hfin ((xC b).raw v) (xC b).row
 have hput:=fun h0 h1=>Vk0 (s:=l.x) (e:=(xC b).raw v) (r:=(xC b).row) h0 h1
 have hlen':D'.length≤(s++[b]).length:=by
  rw[List.length_append,List.length_singleton]
  rcases a4 with rfl | rfl
  ·omega
  ·rw[List.length_append,List.length_singleton];omega
 have hx:(KA l (xC b) v).1.x=(WB l.x ((xC b).raw v) (xC b).row).2:=by
  unfold KA cd0
  split<;>rfl
 have hdone:(KA l (xC b) v).1.done=if(xC b).kind≠0∨(WB l.x ((xC b).raw v) (xC b).row).1.2≠0 then l.done else l.done++[(xC b).raw v]:=by
  unfold KA cd0
  split<;>rfl
 refine⟨a1,⟨D',a6,a5,a2.trans h.cfg,by rw[List.length_append,List.length_singleton];omega,hlen',hst,?_,?_⟩,?_,?_⟩
 ·rw[hx,hdone]
  split
  ·rename_i c0
   exact(hO.no fun hh=>c0.elim (fun k=>k hh.1) fun k=>k hh.2).1
  ·rename_i c0
   exact(hO.yes (Classical.byContradiction fun k=>c0 (.inl k)) (Classical.byContradiction fun k=>c0 (.inr k))).2.2.1
 ·rw[hdone]
  split
  ·exact h.once
  ·rename_i c0
   have:=(hO.yes (Classical.byContradiction fun k=>c0 (.inl k)) (Classical.byContradiction fun k=>c0 (.inr k))).2.1
   rw[oJ0] at this
   exact Zu0 h.once this
 ·rw[hx]
  exact(Jp0 (by rw[←hx];exact a2) hF.top).1
 ·rw[hdone]
  split
  ·intro hh
   omega
  ·rename_i c0
   intro _
   obtain⟨_,_,_,_,p5⟩:=hput (Classical.byContradiction fun k=>c0 (.inl k)) (Classical.byContradiction fun k=>c0 (.inr k))
   exact⟨(xC b).raw v,by rw[List.getElem?_append_right (Nat.le_refl _),Nat.sub_self];rfl,p5⟩
theorem Vu0{s:DS}(h:Calm s)(j:JP){b n:Int}(hb:inI b)(hn:inI n):∃s' c',wE s j b n=((s',{ j with c:=c',broken:=false }),0)∧Calm s':=by
 have hsz:=aW hb hn
 obtain⟨s',e,hs,_,_⟩:=nm0 h (f:=1) (by omega) (st:=j.c) (v:=jF b n) (by omega)
 refine⟨s',⟨u_ j.c,jF b n,true⟩,?_,hs.calm h⟩
 unfold wE
 rw[e]
 rfl
theorem FG0{s:DS}(h:Calm s){j:JP}(hj:0≤j.bytes){t:ByteArray}(ht:j.bytes+t.size≤16777216):∃s',wsJ s j t=(s',0)∧Calm s':=by
 have e1:=SX h (f:=0) (by omega) hj ht
 have h1:Calm (vC s 0 j.bytes.toNat t):=(Sim.add s 0 j.bytes.toNat t).calm h
 have e2:=zT h1 (f:=0) (by omega)
 refine⟨_,?_,(Sim.settle (vC s 0 j.bytes.toNat t) 0 ((vC s 0 j.bytes.toNat t).fs 0).now).calm h1⟩
 unfold wsJ
 rw[e1,if_pos rfl]
 exact e2
theorem Ym0{s:DS}(h:Calm s){j:JP}(hj:JOk j)(hb:j.broken=false){l:List Bs}(hl:l≠[])(hr:j.bytes+(O7 l).length≤1048576) :
  ∃s' j',uE s j l=((s',j'),0)∧Calm s'∧j'.broken=false∧j'.list=j.list++l∧JOk j':=by
 have hjb:=hj.bytes
 have hjf:=hj.form
 have hjc:=dJ j.list
 have hlc:=dJ l
 have hfs:(ofL (O7 l)).size=(O7 l).length:=J_ _
 obtain⟨s1,e1,h1⟩:=FG0 h hjb.1 (t:=ofL (O7 l)) (by rw[hfs];omega)
 obtain⟨s2,c2,e2,h2⟩:=Vu0 h1 j (b:=j.bytes+(O7 l).length) (n:=j.list.length+l.length) (by unfold inI;omega) (by unfold inI;omega)
 have e:uE s j l=((s2,{ j with c:=c2,broken:=false,list:=j.list++l,bytes:=j.bytes+(O7 l).length }),0):=by
  unfold uE
  rw[if_neg (by rw[hb];decide),if_neg hl,if_neg (by omega),e1,if_pos rfl]
  unfold VX
  simp only
  rw[e2]
  rfl
 refine⟨s2,_,e,h2,rfl,rfl,?_⟩
 have:=Bh0 (s:=s) (l:=l) hj
 rw[e] at this
 exact this
theorem Rr0{m:aB}{u:UpP}{o:LC}(h:Calm m.d)(hj:JOk u.j)(hb:u.j.broken=false)(hh:inI o.hard.term∧inI o.hard.C_)(hf:0<o.from_→o.from_-1=u.j.list.length∧o.recs≠[]∧u.j.bytes+(O7 (o.recs.map A7)).length≤1048576) :
  ∃s' j' c',IC m u o=(⟨s',m.kv,some ⟨j',c',u.r⟩⟩,0)∧Calm s'∧JOk j'∧j'.broken=false∧j'.list=if 0<o.from_ then u.j.list++o.recs.map A7 else u.j.list:=by
 have h1:∃s1 c1,RF m u o=((s1,c1),0)∧Calm s1:=by
  unfold RF
  split
  ·have hsz:=aW hh.1 hh.2
   obtain⟨s',e,hs,_,_⟩:=nm0 h (f:=2) (by omega) (st:=u.c) (v:=jF o.hard.term o.hard.C_) (by omega)
   exact⟨s',_,e,hs.calm h⟩
  ·exact⟨m.d,u.c,rfl,h⟩
 obtain⟨s1,c1,e1,h1⟩:=h1
 unfold IC
 rw[e1]
 simp only
 unfold IP
 by_cases c:0<o.from_
 ·obtain⟨f1,f2,f3⟩:=hf c
  rw[if_pos ⟨rfl,c⟩,if_pos c]
  have hcut:aT s1 u.j (min (o.from_-1) u.j.list.length)=((s1,u.j),0):=by
   have hm:min (o.from_-1) (u.j.list.length:Int)=u.j.list.length:=by omega
   rw[hm]
   unfold aT
   rw[if_neg (by rw[hb];decide),if_neg (by omega),if_pos rfl]
  obtain⟨s2,j2,e2,h2,h3,h4,h5⟩:=Ym0 h1 hj hb (l:=o.recs.map A7) (fun hh=>f2 (List.map_eq_nil_iff.1 hh)) f3
  refine⟨s2,j2,c1,?_,h2,h5,h3,h4⟩
  unfold sW
  rw[hcut,if_neg (fun hh=>hh rfl)]
  simp only
  rw[e2]
  rfl
 ·rw[if_neg (fun hh=>c hh.2),if_neg c]
  exact⟨s1,u.j,c1,rfl,h1,hj,hb,rfl⟩
structure Em0 (s:DS):Prop where
 calm:Calm s
 fs:∀f,(s.fs f).now=⟨#[]⟩
theorem rC0:Em0 wB:=⟨⟨rfl,rfl,rfl⟩,fun _=>rfl⟩
theorem dd0{s:DS}(h:Em0 s){f:Int}(hf:0≤f∧f<16):∃s',y7 s f=(s',0)∧Em0 s':=by
 refine⟨UH s f (s.fs f).now,zT h.calm hf,(Sim.settle s f (s.fs f).now).calm h.calm,fun g=>?_⟩
 show ((upd s.fs f ⟨(s.fs f).now,(s.fs f).now⟩) g).now=_
 by_cases c:g=f
 ·subst c;rw[upd_same];exact h.fs g
 ·rw[upd_ne c];exact h.fs g
theorem bl0{s:DS}(h:Em0 s){f:Int}(hf:0≤f∧f<16){a n:Int}(ha:0≤a)(hn:0≤n):GD s f a n=(⟨#[]⟩,0):=by
 rw[ac0 (BL.2 ⟨h.calm.down,hf⟩) ha hn,h.fs f]
 have e:bl (⟨#[]⟩:ByteArray)=[]:=rfl
 rw[e,List.drop_nil,List.take_nil]
 try rfl
theorem al0{s:DS}(h:Em0 s){f:Int}(hf:0≤f∧f<16):KN s f=(some c0S,0):=by
 unfold KN
 rw[bl0 h hf (by omega) (by omega)]
 rfl
def j0J:JP:=⟨[],0,false,c0S⟩
theorem Ct0{s:DS}(h:Em0 s):∃s',OL s=(s',(some j0J,0))∧Em0 s':=by
 obtain⟨s1,e1,h1⟩:=dd0 h (f:=0) (by omega)
 obtain⟨s2,e2,h2⟩:=dd0 h1 (f:=1) (by omega)
 refine⟨s2,?_,h2⟩
 unfold OL
 rw[e1]
 simp only
 rw[if_neg (fun hh=>hh rfl),e2]
 simp only
 rw[if_neg (fun hh=>hh rfl)]
 unfold oV
 rw[al0 h2 (by omega)]
 simp only
 unfold gj0
 have hn:tF c0S=((0,0),true):=by
  unfold tF
  rw[if_neg (by decide)]
 rw[hn]
 simp only
 rw[bl0 h2 (by omega) (by omega) (by omega)]
 have hq:wT (bl (⟨#[]⟩:ByteArray)) 0=([],true):=by
  have e:bl (⟨#[]⟩:ByteArray)=[]:=rfl
  rw[e]
  have hQ:kZ [] 0=([],⟨[],false⟩):=by
   unfold kZ
   show LU 0 1 [] ⟨[],false⟩=_
   rw[LU,if_neg (by decide)]
  unfold wT
  rw[hQ]
  rfl
 simp only
 rw[hq,if_neg (by decide),if_neg (fun hh=>hh rfl),if_neg (by decide),if_neg (fun hh=>hh rfl)]
 rfl
theorem DA0{s:DS}(h:Em0 s):∃s',pV s=(s',(some (j0J,c0S),0))∧Em0 s':=by
 obtain⟨s1,e1,h1⟩:=dd0 h (f:=2) (by omega)
 obtain⟨s2,e2,h2⟩:=Ct0 h1
 refine⟨s2,?_,h2⟩
 unfold pV
 rw[e1]
 simp only
 rw[if_neg (fun hh=>hh rfl)]
 unfold Tl0
 rw[e2]
 simp only
 rw[al0 h2 (by omega)]
theorem OJ0{id:Int}(hi:I3 id)(kv:Value):∃s',upM id kv wB=(⟨s',kv,some ⟨j0J,c0S,newR id ⟨0,-1⟩ []⟩⟩,0)∧Calm s':=by
 obtain⟨s',e,h⟩:=DA0 rC0
 refine⟨s',?_,h.calm⟩
 unfold upM
 rw[e]
 simp only
 have hh:IW c0S=⟨0,-1⟩:=by
  unfold IW
  rw[if_neg (by decide)]
 unfold qF0
 rw[hh]
 have hn:OY id ⟨0,-1⟩ (j0J.list.map mW):=by
  unfold I3 at hi
  exact⟨by omega,by show (0:Int)≤0∧(0:Int)≤_;omega,by show (-1:Int) ≤ -1∧(-1:Int)≤2;omega,Nat.zero_le _,rfl⟩
 rw[if_pos hn]
 rfl
abbrev bp0:=Int×Int×U8
def VW(p:bp0):KT:=⟨p.1,p.2.1,ofL (nM p.2.2)⟩
structure AG where
 r:T3 H7
 fl:List bp0
 com:List Bs
 deriving DecidableEq
def Oe0(id:Int)(fl:List bp0)(m:U8):List bp0:=if bV id=true∧bV m.to_=true∧id≠m.to_ then(if fl.length<500 then fl++[(id,m.to_,m)] else fl) else fl
def la0(c:List Bs)(r:H7):List Bs:=if r.commit≤c.length then c else(r.log.take r.commit.toNat).map fun x=>bl x.data
def aDo(a:AG)(id:Int)(r:H7)(o:LC):AG :=
 ⟨a.r.set id r,o.send.foldl (Oe0 id) a.fl,la0 (la0 (la0 a.com (a.r.set id r).a) (a.r.set id r).b) (a.r.set id r).c⟩
def th0(a:AG)(id:Int)(f:H7→H7×LC):AG:=aDo a id (f (a.r.get id)).1 (f (a.r.get id)).2
def nh0(a:AG):AG:=match a.fl with
 | []=>a
 | (_,t,m) :: fl=>th0 { a with fl:=fl } t fun r=>MF r m
def ra0:Nat→AG→AG
 | 0,a=>a
 | k+1,a=>if a.fl=[] then a else ra0 k (nh0 a)
def qh0(a:AG)(id:Int)(data:ByteArray):AG:=aDo a id (G7 (a.r.get id) data).r (G7 (a.r.get id) data).o
theorem Dp0(a:Int):By0 0 a=0:=by
 unfold By0
 rw[Int.zero_fdiv]
 rfl
theorem ml0(fl:List KT)(a b:Int):cb0 ⟨fl,0⟩ a b=(bV a&&bV b):=by
 unfold cb0
 show (bV a&&(bV b&&decide (By0 0 a=By0 0 b)))=_
 rw[Dp0,Dp0,decide_eq_true rfl,Bool.and_true]
theorem WB0(id:Int)(fl:List bp0)(m:U8):(jU ⟨fl.map VW,0⟩ ⟨id,m.to_,ofL (nM m)⟩).2=⟨(Oe0 id fl m).map VW,0⟩:=by
 unfold jU Oe0
 simp only
 split
 ·rename_i h
  rw[if_pos (by rw[ml0,h.1,h.2.1];rfl),List.length_map]
  split
  ·rw[List.map_append]
   rfl
  ·rfl
 ·rfl
theorem Re0(id:Int):∀(l:List U8) (fl:List bp0),sendAll id ⟨fl.map VW,0⟩ l=⟨(l.foldl (Oe0 id) fl).map VW,0⟩
 | [],_=>rfl
 | m :: l,fl=>by
  show sendAll id (jU ⟨fl.map VW,0⟩ ⟨id,m.to_,ofL (nM m)⟩).2 l=_
  rw[WB0,Re0 id l]
  rfl
structure zB0 (m:aB) (r:H7):Prop where
 calm:Calm m.d
 up:∃j c,m.up=some ⟨j,c,r⟩∧JOk j∧j.broken=false∧j.list=r.log.map A7
structure AIs (g:L8) (a:AG):Prop where
 mem:∀i,I3 i→zB0 (g.mem.get i) (a.r.get i)
 net:g.net=⟨a.fl.map VW,0⟩
 com:g.committed=a.com
 fit:∀p∈a.fl,gL p.2.2
theorem ry0{id:Int}{fl:List bp0}{m:U8}(h:∀p∈fl,gL p.2.2)(hm:gL m):∀p∈Oe0 id fl m,gL p.2.2:=by
 intro p hp
 unfold Oe0 at hp
 split at hp
 ·split at hp
  ·rcases List.mem_append.1 hp with hp | hp
   ·exact h p hp
   ·rw[List.mem_singleton.1 hp]
    exact hm
  ·exact h p hp
 ·exact h p hp
theorem na0(id:Int):∀(l:List U8) (fl:List bp0),(∀p∈fl,gL p.2.2)→(∀m∈l,gL m)→∀p∈l.foldl (Oe0 id) fl,gL p.2.2
 | [],_,h,_=>h
 | m :: l,fl,h,hl=>na0 id l (Oe0 id fl m) (ry0 h (hl m (List.mem_cons_self ..))) fun x hx=>hl x (List.mem_cons_of_mem _ hx)
theorem oh0{m:aB}{r:H7}(h:zB0 m r)(c:List Bs):dP c m=la0 c r:=by
 obtain⟨j,c',hu,_⟩:=h.up
 unfold dP
 rw[hu]
 rfl
theorem set_set{α:Type}(t:T3 α){i:Int}(hi:I3 i)(x y:α):(t.set i x).set i y=t.set i y:=by
 rcases hi.cases with rfl | rfl | rfl<;>rfl
theorem VB0{g:L8}{a:AG}{id:Int}(hi:I3 id)(h:AIs g a){u:UpP}(hu:(g.mem.get id).up=some u){r:H7}{o:LC}(hh:inI o.hard.term∧inI o.hard.C_)(hfit:∀m∈o.send,gL m)
  (hl:(0<o.from_∧o.from_-1=(a.r.get id).log.length∧o.recs≠[]∧r.log=(a.r.get id).log++o.recs∧u.j.bytes+(O7 (o.recs.map A7)).length≤1048576)∨(¬0<o.from_∧r.log=(a.r.get id).log)) :
  AIs (doS (zC g id u r) id { u with r:=r } o).1 (aDo a id r o)∧(doS (zC g id u r) id { u with r:=r } o).2=0:=by
 obtain⟨hcalm,j,c,hu2,hj1,hj2,hj3⟩:=h.mem id hi
 rw[hu] at hu2
 cases hu2
 have hm:(zC g id ⟨j,c,a.r.get id⟩ r).mem.get id={ (g.mem.get id) with up:=some ⟨j,c,r⟩ }:=T3.Z9 _ hi _
 obtain⟨s',j',c',e,h1,h2,h3,h4⟩:=Rr0 (m:={ (g.mem.get id) with up:=some ⟨j,c,r⟩ }) (u:=⟨j,c,r⟩) (o:=o) hcalm hj1 hj2 hh (fun hp=>by
  rcases hl with⟨_,l1,l2,_,l4⟩ | ⟨l0,_⟩
  ·exact⟨by rw[l1,hj3,List.length_map],l2,l4⟩
  ·exact absurd hp l0)
 have hj':j'.list=r.log.map A7:=by
  rw[h4]
  rcases hl with⟨l0,_,_,l3,_⟩ | ⟨l0,l3⟩
  ·rw[if_pos l0,l3,List.map_append]
   show j.list++_=_
   rw[hj3]
  ·rw[if_neg l0,l3]
   exact hj3
 unfold doS
 rw[hm,e]
 refine⟨?_,rfl⟩
 have hmem:∀i,I3 i→zB0 ((MB (zC g id ⟨j,c,a.r.get id⟩ r) id ⟨s',(g.mem.get id).kv,some ⟨j',c',r⟩⟩).mem.get i) ((a.r.set id r).get i):=by
  intro i hi2
  show zB0 (((g.mem.set id _).set id _).get i) _
  rw[set_set _ hi]
  by_cases ci:i=id
  ·subst ci
   rw[T3.Z9 _ hi,T3.Z9 _ hi]
   exact⟨h1,j',c',rfl,h2,h3,hj'⟩
  ·rw[T3.LB _ hi hi2 _ ci,T3.LB _ hi hi2 _ ci]
   exact h.mem i hi2
 unfold do2
 rw[if_pos rfl]
 refine⟨hmem,?_,?_,na0 id o.send a.fl h.fit hfit⟩
 ·show sendAll id g.net o.send=_
  rw[h.net,Re0]
  rfl
 ·show sM _ 3=_
  have n0:=fun c=>oh0 (hmem 0 (by unfold I3;omega)) c
  have n1:=fun c=>oh0 (hmem 1 (by unfold I3;omega)) c
  have n2:=fun c=>oh0 (hmem 2 (by unfold I3;omega)) c
  show dP (dP (dP g.committed _) _) _=_
  rw[h.com]
  show _=la0 (la0 (la0 a.com (a.r.set id r).a) (a.r.set id r).b) (a.r.set id r).c
  exact(n2 _).trans (congrArg (fun x=>la0 x (a.r.set id r).c) ((n1 _).trans (congrArg (fun x=>la0 x (a.r.set id r).b) (n0 _))))
def a0A:AG:=⟨⟨newR 0 ⟨0,-1⟩ [],newR 1 ⟨0,-1⟩ [],newR 2 ⟨0,-1⟩ []⟩,[],[]⟩
theorem Di0{n:Nat}(h:n<10):Go.Lib.itoa (n:Int)=[UInt8.ofNat (48+n)]:=by rw[ZD0,aV h]
theorem OV{n:Nat}(h:n<10):encI (n:Int)=[UInt8.ofNat (48+n),59]:=by
 unfold encI
 rw[Di0 h]
 rfl
theorem yZ{s:Bs}(h:s.length<10):bB s=UInt8.ofNat (48+s.length) :: 58 :: (s++[44]):=by
 unfold bB
 rw[Di0 h]
 rfl
def smB:Bs:=[48,59,49,59,48,59,48,59,49,58,115,44,49,59,55,59,57,58,49,59,48,59,51,59,48,58,44,44]
theorem JF0:xZ smE=smB:=by
 have e0:encI 0=[48,59]:=OV (n:=0) (by omega)
 have e1:encI 1=[49,59]:=OV (n:=1) (by omega)
 have e3:encI 3=[51,59]:=OV (n:=3) (by omega)
 have e7:encI 7=[55,59]:=OV (n:=7) (by omega)
 have t0:bB []=[48,58,44]:=yZ (s:=[]) (by decide)
 have ts:bB [115]=[49,58,115,44]:=yZ (s:=[115]) (by decide)
 have hr:pG smE.row=[49,59,48,59,51,59,48,58,44]:=by
  show encI 1++((encI 0++encI 3++bB [])++[])=_
  rw[e0,e1,e3,t0]
  rfl
 have tr:bB [49,59,48,59,51,59,48,58,44]=[57,58,49,59,48,59,51,59,48,58,44,44]:=yZ (s:=[49,59,48,59,51,59,48,58,44]) (by decide)
 unfold xZ
 rw[hr,tr]
 show encI 0++encI 1++encI 0++encI 0++bB [115]++encI 1++encI 7++_=_
 rw[e0,e1,e7,ts]
 rfl
theorem xM0:smD=ofL smB:=by
 unfold smD
 rw[JF0]
theorem fo0{id:Int}(hi:I3 id):zB0 (upM id gNil wB).1 (newR id ⟨0,-1⟩ []):=by
 obtain⟨s',e,h⟩:=OJ0 hi gNil
 rw[e]
 exact⟨h,j0J,c0S,rfl,⟨by show (0:Int)≤0∧(0:Int)≤_;omega,rfl⟩,rfl,rfl⟩
theorem yI0:AIs Ud0 a0A:=⟨fun i hi=>by
 rcases hi.cases with rfl | rfl | rfl
 ·exact fo0 hi
 ·exact fo0 hi
 ·exact fo0 hi,rfl,rfl,fun p hp=>by cases hp⟩
def MU(old r:H7)(o:LC):Bool :=
 decide (inI o.hard.term∧inI o.hard.C_)&&((decide (0<o.from_)&&(decide (o.from_-1=old.log.length)&&(decide (o.recs≠[])&&(decide (r.log=old.log++o.recs)&&decide (r.log.length≤10)))))||(decide (¬0<o.from_)&&decide (r.log=old.log)))
theorem qz0{l:List J7}(h:∀x∈l,iN x)(hl:l.length≤10):(O7 (l.map A7)).length≤1048576:=by
 have h1:=GG bB (l.map A7) 100065 fun x hx=>by
  obtain⟨y,hy,rfl⟩:=List.mem_map.1 hx
  have h1:=bT (h y hy)
  have h2:=LF (A7 y) (by omega)
  omega
 rw[List.length_map] at h1
 have:(O7 (l.map A7)).length≤100065 * l.length:=h1
 omega
theorem Vx0{old r:H7}{o:LC}{u:UpP}(h:MU old r o=true)(hj:JOk u.j)(hjl:u.j.list=old.log.map A7)(hr:H8 r) :
  (inI o.hard.term∧inI o.hard.C_)∧((0<o.from_∧o.from_-1=old.log.length∧o.recs≠[]∧r.log=old.log++o.recs∧u.j.bytes+(O7 (o.recs.map A7)).length≤1048576)∨(¬0<o.from_∧r.log=old.log)):=by
 unfold MU at h
 rw[Bool.and_eq_true] at h
 refine⟨of_decide_eq_true h.1,?_⟩
 have h2:=h.2
 rw[Bool.or_eq_true] at h2
 rcases h2 with h2 | h2
 ·simp only[Bool.and_eq_true,decide_eq_true_eq] at h2
  obtain⟨a,b,c,d,e⟩:=h2
  refine .inl ⟨a,b,c,d,?_⟩
  have h1:=qz0 (fun x hx=>Fw0 hr hx) e
  rw[d] at h1
  have hf:=hj.form
  rw[hjl] at hf
  unfold O7 at h1 hf ⊢
  rw[List.map_append,List.flatMap_append,List.length_append] at h1
  omega
 ·simp only[Bool.and_eq_true,decide_eq_true_eq] at h2
  exact .inr ⟨h2.1,h2.2⟩
theorem gG0{g:L8}{id:Int}(hi:I3 id){u:UpP}(hu:(g.mem.get id).up=some u):upE g id=0:=by
 unfold upE
 unfold I3 at hi
 rw[if_neg (by omega),hu]
 rfl
theorem ks0{g:L8}{a:AG}{id:Int}(hi:I3 id)(h:AIs g a){f:H7→H7×LC}(hr:H8 (f (a.r.get id)).1)(hf:gN (f (a.r.get id)).2)(hs:MU (a.r.get id) (f (a.r.get id)).1 (f (a.r.get id)).2=true):AIs (DT g id f).1 (th0 a id f):=by
 obtain⟨_,j,c,hu,hj1,hj2,hj3⟩:=h.mem id hi
 obtain⟨hh,hl⟩:=Vx0 (u:=⟨j,c,a.r.get id⟩) hs hj1 hj3 hr
 have:=(VB0 hi h hu hh hf.send hl).1
 unfold DT
 rw[if_neg (fun hh=>hh (gG0 hi hu)),hu]
 exact this
theorem io0{g:L8}{a:AG}(hok:GOk g)(h:AIs g a){id:Int}(hi:I3 id):H8 (a.r.get id)∧((a.r.get id).role=2→1≤(a.r.get id).hard.term):=by
 obtain⟨_,j,c,hu,_⟩:=h.mem id hi
 have:=hok.ups id hi _ hu
 exact⟨this.r,this.term⟩
theorem Wr0{g:L8}{a:AG}{id:Int}(hi:I3 id)(hok:GOk g)(h:AIs g a)(hs:MU (a.r.get id) (uF (a.r.get id)).1 (uF (a.r.get id)).2=true):AIs (PX g id).1 (th0 a id uF) :=
 ks0 hi h (Bc0 (io0 hok h hi).1).1 (Ua0 (io0 hok h hi).1) hs
theorem Af0{g:L8}{a:AG}{id:Int}(hi:I3 id)(hok:GOk g)(h:AIs g a)(data:ByteArray)(he:(G7 (a.r.get id) data).e=0)(hs:MU (a.r.get id) (G7 (a.r.get id) data).r (G7 (a.r.get id) data).o=true):AIs (fE g id data).g (qh0 a id data):=by
 obtain⟨_,j,c,hu,hj1,hj2,hj3⟩:=h.mem id hi
 obtain⟨ho1,ho2⟩:=io0 hok h hi
 obtain⟨hh,hl⟩:=Vx0 (u:=⟨j,c,a.r.get id⟩) hs hj1 hj3 (CP ho1 ho2 data).1
 have:=VB0 hi h hu hh (bU ho1 ho2 data).send hl
 unfold fE
 rw[if_neg (fun hh=>hh (gG0 hi hu)),hu]
 show AIs (TK g id ⟨j,c,a.r.get id⟩ (G7 (a.r.get id) data)).g _
 unfold TK
 rw[if_neg (fun hh=>hh he),if_neg (fun hh=>hh this.2)]
 exact this.1
def LC0(a:AG):Bool:=match a.fl with
 | []=>false
 | (f,t,m) :: _=>decide (I3 t)&&(bV f&&(bV t&&(MU (a.r.get t) (MF (a.r.get t) m).1 (MF (a.r.get t) m).2)))
def Gr0:Nat→AG→Bool
 | 0,_=>true
 | k+1,a=>if a.fl=[] then true else LC0 a&&Gr0 k (nh0 a)
theorem Sp0{g:L8}{a:AG}(hok:GOk g)(h:AIs g a)(hs:LC0 a=true):AIs (nO g 0).1 (nh0 a):=by
 obtain⟨r,fl,com⟩:=a
 cases fl with
 | nil=>cases hs
 | cons p fl =>
  obtain⟨f,t,m⟩:=p
  unfold LC0 at hs
  simp only[Bool.and_eq_true,decide_eq_true_eq] at hs
  obtain⟨hi,hf,ht,hs⟩:=hs
  have hnet:g.net=⟨VW (f,t,m) :: fl.map VW,0⟩:=h.net
  have hat:atS g.net 0=some (0,VW (f,t,m)):=by
   rw[hnet]
   rfl
  have hd:M9 g.net 0=((VW (f,t,m),0),⟨fl.map VW,0⟩):=by
   unfold M9
   rw[hat]
   simp only
   have hh:cb0 g.net (VW (f,t,m)).from_ (VW (f,t,m)).to_=true:=by
    rw[hnet,ml0]
    show (bV f&&bV t)=true
    rw[hf,ht]
    rfl
   rw[if_pos hh,hnet]
   rfl
  have hfm:gL m:=h.fit (f,t,m) (List.mem_cons_self ..)
  have hb:nV (ofL (nM m))=m:=Ll0 hfm
  have h2:AIs (DJ g ⟨fl.map VW,0⟩) ⟨r,fl,com⟩:=⟨h.mem,rfl,h.com,fun p hp=>h.fit p (List.mem_cons_of_mem _ hp)⟩
  have hok2:GOk (DJ g ⟨fl.map VW,0⟩):=by
   have:=FT hok (MV (i:=0) hok.net)
   rw[hd] at this
   exact this
  have ho:=io0 hok2 h2 hi
  have:=ks0 (f:=fun r=>MF r m) hi h2 (Og0 ho.1 ho.2 m).1 (Sa0 ho.1 ho.2 m) hs
  unfold nO kM
  rw[hd]
  show AIs (if(0:Int)≠0 then _ else DT (DJ g ⟨fl.map VW,0⟩) t fun r=>MF r (nV (ofL (nM m)))).1 _
  rw[if_neg (fun c=>c rfl),hb]
  exact this
theorem UZ:∀(k:Nat) {g:L8} {a:AG},GOk g→AIs g a→Gr0 k a=true→AIs (QF k g) (ra0 k a)
 | 0,_,_,_,h,_=>h
 | k+1,g,a,hok,h,hs=>by
  unfold Gr0 at hs
  rw[QF,ra0]
  by_cases c:a.fl=[]
  ·rw[if_pos c,if_pos (show g.net.fl=[] by rw[h.net,c];rfl)]
   exact h
  ·rw[if_neg c] at hs
   rw[Bool.and_eq_true] at hs
   rw[if_neg c,if_neg (fun e=>c (List.map_eq_nil_iff.1 (show a.fl.map VW=[] by rw[h.net] at e;exact e)))]
   exact UZ k (tQ hok 0 _) (Sp0 hok h hs.1) hs.2
def dB:ByteArray:=⟨smB.toArray⟩
def a1B:AG:=ra0 99 (th0 a0A 0 uF)
def a2B:AG:=qh0 a1B 0 dB
def a3B:AG:=qh0 a2B 0 dB
def a4B:AG:=ra0 99 (th0 a3B 0 uF)
theorem zF0:MU (a0A.r.get 0) (uF (a0A.r.get 0)).1 (uF (a0A.r.get 0)).2=true∧Gr0 99 (th0 a0A 0 uF)=true:=by decide
theorem ch0:((G7 (a1B.r.get 0) dB).e=0∧MU (a1B.r.get 0) (G7 (a1B.r.get 0) dB).r (G7 (a1B.r.get 0) dB).o=true)∧((G7 (a2B.r.get 0) dB).e=0∧MU (a2B.r.get 0) (G7 (a2B.r.get 0) dB).r (G7 (a2B.r.get 0) dB).o=true):=by decide
theorem Bx0:MU (a3B.r.get 0) (uF (a3B.r.get 0)).1 (uF (a3B.r.get 0)).2=true∧Gr0 99 (th0 a3B 0 uF)=true:=by decide
theorem lJ0:a4B.com=[smB,smB]:=by decide
theorem Jo0:smD=dB:=by rw[xM0];rfl
theorem yM0:Dj0.committed=[xZ smE,xZ smE]:=by
 have k0:=ub0.1
 have k1:GOk qv0:=qW k0 0 99
 have k2:GOk rv0:=CQ k1 0 smD
 have k3:GOk KF0:=CQ k2 0 smD
 have i1:AIs qv0 a1B:=UZ 99 (wV k0 0) (Wr0 (by unfold I3;omega) k0 yI0 zF0.1) zF0.2
 have i2:AIs rv0 a2B:=by
  have:=Af0 (id:=0) (by unfold I3;omega) k1 i1 dB ch0.1.1 ch0.1.2
  rw[←Jo0] at this
  unfold a2B
  rw[←Jo0]
  exact this
 have i3:AIs KF0 a3B:=by
  have:=Af0 (id:=0) (by unfold I3;omega) k2 i2 dB ch0.2.1 ch0.2.2
  rw[←Jo0] at this
  unfold a3B
  rw[←Jo0]
  exact this
 have i4:AIs Dj0 a4B:=UZ 99 (wV k3 0) (Wr0 (by unfold I3;omega) k3 i3 Bx0.1) Bx0.2
 rw[i4.com,lJ0,JF0]
section
variable {B:Base}
theorem vJ0(hT:bR B)(hW:lC B)(hP:kH B):Gives prog B (Z0 SF #[]) (.bool true):=Uq0 hT hW hP yM0
end
theorem CH0{L:List (EnP×SV)}{n:Int}(h:AH0 (L.map (·.1)) n=true):(L.length:Int)≤n∧∀p∈L,p.1.row.length≤3∧p.1.source.size≤20∧∀v∈p.1.row,v.s.size≤20:=by
 unfold AH0 at h
 rw[Bool.and_eq_true,List.length_map] at h
 refine⟨of_decide_eq_true h.1,fun p hp=>?_⟩
 have:=List.all_eq_true.1 h.2 p.1 (List.mem_map.2 ⟨p,hp,rfl⟩)
 unfold fQ at this
 simp only[Bool.and_eq_true,decide_eq_true_eq,List.all_eq_true] at this
 exact this
section
variable {W:World} {K:PtK}
theorem lsD.here{B:Base}{w:World}{τ:List Dat}{pl:Nat}{l:LS}(h:Rel B w (lsD pl l :: τ)):∃px ps dv,Rel B w (O1 pl J4 #[ptr px,ptr ps,(dv:SV).1] :: intD px l.x :: FC ps l.s :: V3 Y1 dv.1 l.done :: τ):=by
 obtain⟨⟨px,ps⟩,dv,h⟩:=lsD.open h
 exact⟨px,ps,dv,h⟩
end
theorem Wl0{W:World}:∀{l:List EnD},(∀x∈l,VR W x)→∃L:List (EnP×SV),YI L=l∧Jg0 L (oJ W)∧∀p∈L,(inI p.1.kind∧inI p.1.producer∧inI p.1.epoch∧inI p.1.seq∧inI p.1.schema∧inI p.1.time)∧∀v∈p.1.row,iL v
 | [],_=>⟨[],rfl,fun x hx=>(by cases hx),fun x hx=>(by cases hx)⟩
 | x :: l,hq=>by
  obtain⟨L,h1,h2,h3⟩:=Wl0 (l:=l) fun y hy=>hq y (List.mem_cons_of_mem _ hy)
  obtain⟨a0,a1,a2,a3,_,a5,a6,ls,hr,hm,hv⟩:=hq x List.mem_cons_self
  refine⟨(⟨x.kind,x.producer,x.epoch,x.seq,x.source,x.schema,x.time,ls⟩,x.row) :: L,?_,fun y hy=>?_,fun y hy=>?_⟩
  ·show _ :: YI L=_
   rw[h1]
   rfl
  ·rcases List.mem_cons.1 hy with rfl | hy
   ·exact hr
   ·exact h2 y hy
  ·rcases List.mem_cons.1 hy with rfl | hy
   ·refine⟨⟨a0,a1,a2,a3,a5,a6⟩,fun v hv2=>?_⟩
    obtain⟨b1,b2,b3⟩:=hv v hv2
    exact⟨b1,b2,by rw[y8];unfold fr0 maxLen at b3;omega⟩
   ·exact h3 y hy
theorem am0{W:World}:∀{l:List OpD},(∀x∈l,jK W x)→∃L:List (OpP×SV),JU L=l∧rx0 L (oJ W)∧∀p∈L,inI p.1.kind∧inI p.1.id∧inI p.1.n
 | [],_=>⟨[],rfl,fun x hx=>(by cases hx),fun x hx=>(by cases hx)⟩
 | x :: l,hq=>by
  obtain⟨L,h1,h2,h3⟩:=am0 (l:=l) fun y hy=>hq y (List.mem_cons_of_mem _ hy)
  obtain⟨a0,a1,a2,_,ls,hr,hm,hv⟩:=hq x List.mem_cons_self
  refine⟨(⟨x.kind,x.id,x.n,x.data,ls⟩,x.keep) :: L,?_,fun y hy=>?_,fun y hy=>?_⟩
  ·show _ :: JU L=_
   rw[h1]
   rfl
  ·rcases List.mem_cons.1 hy with rfl | hy
   ·exact hr
   ·exact h2 y hy
  ·rcases List.mem_cons.1 hy with rfl | hy
   ·exact⟨a0,a1,a2⟩
   ·exact h3 y hy
section
variable {W:World} {K:PtK}
set_option maxHeartbeats 4000000 in
theorem Iv0{ev lv:Value}{e0:List EnD}{o0':List OpD}{c:CfD}(hT:bR (oJ W))(hW:lC (oJ W))(hP:kH (oJ W))(r0:Q4 ev e0 (oJ W))(hm0:e0.length≤maxLen)(hq0:∀x∈e0,VR W x)(r1:Q4 lv o0' (oJ W))(hm1:o0'.length≤maxLen)(hq1:∀x∈o0',jK W x)
  (fin:∀w' σ,Rel (oJ W) w' σ→K (.bool true) w'):OB.pt c.v ev lv W K:=by
 obtain⟨L,hLe,q,hlq⟩:=Wl0 hq0
 have r:Q4 ev (YI L) (oJ W):=by rw[hLe];exact r0
 have hal:(YI L).length=L.length:=List.length_map ..
 have hlL:L.length≤maxLen:=by rw[←hal,hLe];exact hm0
 obtain⟨Lo,hLo,qo,hloq⟩:=am0 hq1
 have ro:Q4 lv (JU Lo) (oJ W):=by rw[hLo];exact r1
 have hol:(JU Lo).length=Lo.length:=List.length_map ..
 have hlO:Lo.length≤maxLen:=by rw[←hol,hLo];exact hm1
 unfold OB.pt
 have h:=oJ.start W
 refine h.box fun cb w1 h=>?_
 have h:Rel (oJ W) w1 [O1 cb E5 c.cs.toArray]:=h
 refine h.ask (fun B2 own base2=>vJ0 (base2 hT) (base2 hW) (base2 hP)) fun w2 h=>?_
 rw[h.Q9 0 rfl EJ rfl]
 refine h.make (fun B2 own base2=>Qd0 c) fun u τ w3 hp h=>?_
 refine h.make (fun B2 own base2=>DE0 (base2 hT) (base2 hW) (base2 hP)) fun u2 τ2 w4 hp2 h=>?_
 obtain⟨pg,rfl,rfl⟩:=hp2
 refine h.ask (fun B2 own base2=>gA0 (base2 r) (base2 q) (by unfold maxLen at hlL;exact hlL) (n:=30) (by omega)) fun w5 h=>?_
 have tail:∀w' σ,Rel (oJ W) w' σ→(ifB (.bool true) (M0 prog (Y3 .neq aC (.tmp 40) (.const (.pointer none)) (ptr pg) (.pointer none)) fun t41=>K t41 w') (K (.bool false) w')):=by
  intro w' σ h
  rw[VC,EW WQ]
  exact fin _ _ h
 rw[V8,K5,Q5]
 refine⟨fun hfew=>?_,fun _=>tail _ _ h⟩
 obtain⟨h30,hfew⟩:=CH0 hfew
 refine h.ask (fun B2 own base2=>Gu0 (base2 ro) (base2 qo) (by unfold maxLen at hlO;exact hlO) (n:=70) (by omega)) fun w6 h=>?_
 rw[V8,K5,Q5]
 refine⟨fun hfine=>?_,fun _=>tail _ _ h⟩
 unfold nD0 at hfine
 rw[Bool.and_eq_true,List.length_map] at hfine
 have h70:(Lo.length:Int)≤70:=of_decide_eq_true hfine.1
 have hkeep:∀p∈Lo,p.1.keep.length≤20:=fun p hp=>of_decide_eq_true (List.all_eq_true.1 hfine.2 p.1 (List.mem_map.2 ⟨p,hp,rfl⟩))
 rcases hp with⟨hRc,pl,rfl,rfl⟩ | ⟨_,rfl,rfl⟩
 case inr =>
  rw[zU rE,VC]
  exact tail _ _ h
 rw[uB rE,t_,uB WQ,t_]
 have h:Rel (oJ W) w6 [Y8 pg Ud0,lsD pl ⟨lT c ksL,⟨0,0,0,[]⟩,[]⟩,O1 cb E5 c.cs.toArray]:=h.pick [2,1,0] (by decide)
 have h:=h.oG ByteArray U2
 have hfe:∀x∈L,Us0 x.1:=by
  intro x hx
  obtain⟨⟨a1,a2,a3,a4,a5,a6⟩,a7⟩:=hlq x hx
  obtain⟨b1,b2,b3⟩:=hfew x hx
  exact⟨a1,a2,a3,a4,a5,a6,by omega,by omega,fun v hv=>⟨a7 v hv,by rw[y8];have:=b3 v hv;omega⟩⟩
 refine M6 (fun x w'=>∃(i:Nat) (B:Base) (g:L8) (G:Gh) (l:LS) (D:List (EnP×SV)) (sv:Value),i≤Lo.length∧x=(sv,.int .i64 i,())∧(oJ W).ext B∧GInv i G g∧GOk g∧DC g.mem B∧DY c g.committed l D ∧
   Rel B w' [Y8 pg g,lsD pl l,O1 cb E5 c.cs.toArray,V3 U2 sv (g.committed.map ofL)]) (fun x _=>Lo.length-(match x.2.1 with | .int _ n=>n.toNat | _=>0))
  ⟨0,oJ W,Ud0,gh0,_,[],_,Nat.zero_le _,rfl,Base.ext.refl _,zI0,ub0.1,ub0.2 _,DY.new hRc,h⟩ ?_
 clear h
 rintro x w7 ⟨i,B,g,G,l,D,sv,hi,rfl,hext,hG,hok,hke,hI,h⟩ next hnext
 have lift:∀{d:Dat},d (oJ W)→d B:=fun hd=>Dat.mono _ hext.le hd
 have fin':∀w' σ,Rel B w' σ→K (.bool true) w':=fun w' σ h=>fin _ _ (hext.rel h)
 rw[Q4.len (lift ro) VE,hol,D6,K3]
 refine⟨fun hlt=>?_,fun hge=>?_⟩
 ·have hil:i<Lo.length:=by omega
  obtain⟨go,oo,hx,hcl⟩:=Q4.idx (lift ro) VE (P:=prog) (i:=i) (by omega)
  have hel:(JU Lo)[i]'(by omega)=(Lo[i]).1.raw (Lo[i]).2:=by simp [JU]
  rw[hel] at hcl
  have hmem:=List.getElem_mem hil
  have hrow:=lift qo _ hmem
  have hval:=hloq _ hmem
  have hkl:=hkeep _ hmem
  generalize Lo[i]=p at *
  obtain⟨o,ov⟩:=p
  have hcl:F6 go oo (o.raw ov).cs B:=hcl
  have hfo:Sv0 o:=⟨hval.1,hval.2.1,hval.2.2,by have:o.keep.length≤20:=hkl;omega⟩
  refine Q6 fun J hJ=>?_
  replace hJ:∀(B2:Base) (g2:L8) (G2:Gh) (l2:LS) (D2:List (EnP×SV)) (sv2:Value),B.ext B2→GInv (i+1) G2 g2→GOk g2→DC g2.mem B2→DY c g2.committed l2 D2→∀w',Rel B2 w' [Y8 pg g2,lsD pl l2,O1 cb E5 c.cs.toArray,V3 U2 sv2 (g2.committed.map ofL)]→J (sv2,()) w':=by
   intro B2 g2 G2 l2 D2 sv2 e2 k1 k2 k3 k4 w' h
   refine hJ _ _ ?_
   rw[V5,D5 (by omega) (by omega)]
   exact hnext _ _ ⟨i+1,B2,g2,G2,l2,D2,sv2,hil,rfl,hext.trans e2,k1,k2,k3,k4,h⟩ (by simp only;omega)
  clear hnext
  rw[hx,F6.Q9 (h.K6 hcl) sa0 rfl]
  refine sE0 (lift hT) (lift hW) (lift hP) hok hke hfo hrow (lift r) (lift q) (by omega) hfe h fun B2 g2 v w8 e2 ok2 ke2 hg2 h=>?_
  obtain⟨kv,hg2⟩:=hg2
  obtain⟨G2,hG2,hpre⟩:=zL0 hG hok o hfo (L.map (·.1)) kv
  rw[←hg2] at hG2 hpre
  have hW2:lC B2:=Dat.mono _ e2.le (lift hW)
  have ef2:∀w' σ,Rel B2 w' σ→K (.bool true) w':=fun w' σ h=>fin' _ _ (e2.rel h)
  obtain⟨few1,few2⟩:=uw0 hG2
  have hlenle:=hpre.length_le
  have h:Rel B2 w8 [Y8 pg g2,lsD pl l,O1 cb E5 c.cs.toArray,V3 U2 sv (g.committed.map ofL)]:=h
  refine h.make (fun B3 own base3=>df0 (own (i:=0) rfl) ok2.com) fun cv τ w9 hp h=>?_
  subst hp
  have h:Rel B2 w9 [Y8 pg g2,lsD pl l,O1 cb E5 c.cs.toArray,V3 U2 sv (g.committed.map ofL),V3 U2 cv (g2.committed.map ofL)]:=h
  have lenC:∀{Kp:Value→Prop} {w':World} {l':LS},Rel B2 w' [Y8 pg g2,lsD pl l',O1 cb E5 c.cs.toArray,V3 U2 sv (g.committed.map ofL),V3 U2 cv (g2.committed.map ofL)]→Y0 prog (J5 .len #[K4] Q0 #[false] #[cv]) w' Kp=Kp (.int .i64 g2.committed.length):=by
   intro Kp w' l' h
   rw[Q4.len (V3.read (h.here (i:=4) rfl)) U6,List.length_map]
  have lenS:∀{Kp:Value→Prop} {w':World} {l':LS},Rel B2 w' [Y8 pg g2,lsD pl l',O1 cb E5 c.cs.toArray,V3 U2 sv (g.committed.map ofL),V3 U2 cv (g2.committed.map ofL)]→Y0 prog (J5 .len #[K4] Q0 #[false] #[sv]) w' Kp=Kp (.int .i64 g.committed.length):=by
   intro Kp w' l' h
   rw[Q4.len (V3.read (h.here (i:=3) rfl)) U6,List.length_map]
  rw[lenC h,lenS h,D6,decide_eq_false (by omega),t_,lenS h]
  obtain⟨cv2,hcv2,hrc2⟩:=Q4.cut (V3.read (h.here (i:=4) rfl)) U6 (P:=prog) (lo:=0) (hi:=g.committed.length) (lov:=none) (hiv:=some (.int .i64 g.committed.length)) Bnd.none Bnd.some (Nat.zero_le _) (by rw[List.length_map];exact hlenle)
  rw[hcv2]
  have hsame:((g2.committed.map ofL).take g.committed.length).drop 0=g.committed.map ofL:=by
   rw[List.drop_zero,←List.map_take]
   congr 1
   obtain⟨r',hr'⟩:=hpre
   rw[←hr',List.take_append_of_le_length (Nat.le_refl _),List.take_length]
  refine h.ask (v := .bool true) (fun B3 own base3=>?_) fun w10 h=>?_
  ·obtain⟨cv3,hcv3,hrc3⟩:=Q4.cut (V3.read (own (i:=4) rfl)) U6 (P:=prog) (lo:=0) (hi:=g.committed.length) (lov:=none) (hiv:=some (.int .i64 g.committed.length)) Bnd.none Bnd.some (Nat.zero_le _) (by rw[List.length_map];exact hlenle)
   have e3:cv3=cv2:=by
    have:=(hcv3 (Kp:=fun x=>x=cv2))
    rw[hcv2] at this
    exact(this.mp rfl)
   subst e3
   rw[hsame] at hrc3
   have:=Me0 (B:=B3) hrc3 (V3.read (own (i:=3) rfl)) (by rw[List.length_map];omega)
   rw[decide_eq_true rfl] at this
   exact this
  rw[V8,Bool.not_true,t_,lenS h]
  have htake0:g2.committed.take g.committed.length=g.committed:=by
   obtain⟨r',hr'⟩:=hpre
   rw[←hr',List.take_append_of_le_length (Nat.le_refl _),List.take_length]
  refine M6 (fun x w'=>∃(j:Nat) (l:LS) (D:List (EnP×SV)),j≤g2.committed.length∧x=(.int .i64 j,())∧DY c (g2.committed.take j) l D ∧
    Rel B2 w' [Y8 pg g2,lsD pl l,O1 cb E5 c.cs.toArray,V3 U2 sv (g.committed.map ofL),V3 U2 cv (g2.committed.map ofL)]) (fun x _=>g2.committed.length-(match x.1 with | .int _ n=>n.toNat | _=>0))
   ⟨g.committed.length,l,D,hlenle,rfl,by rw[htake0];exact hI,h⟩ ?_
  clear h hI hcv2 hrc2
  rintro x w11 ⟨j,l,D,hj,rfl,hI,h⟩ next2 hnext2
  rw[lenC h,D6,K3]
  refine⟨fun hjl=>?_,fun hjg=>?_⟩
  case refine_2 =>
   have hje:j=g2.committed.length:=by omega
   subst hje
   rw[List.take_length] at hI
   exact hJ B2 g2 G2 l D cv e2 hG2 ok2 ke2 hI _ (h.pick [0,1,2,4] (by decide))
  have hjl:j<g2.committed.length:=by omega
  have hbl:=few2 _ (List.getElem_mem hjl)
  have hts:g2.committed.take (j+1)=g2.committed.take j++[g2.committed[j]]:=List.take_succ_eq_append_getElem hjl
  have hgj:(g2.committed.map ofL)[j]'(by rw[List.length_map];exact hjl)=ofL g2.committed[j]:=List.getElem_map ..
  have htl:(g2.committed.take j).length=j:=by rw[List.length_take];omega
  refine Q6 fun J2 hJ2=>?_
  replace hJ2:∀l' D',DY c (g2.committed.take (j+1)) l' D'→∀w',Rel B2 w' [Y8 pg g2,lsD pl l',O1 cb E5 c.cs.toArray,V3 U2 sv (g.committed.map ofL),V3 U2 cv (g2.committed.map ofL)]→J2 () w':=by
   intro l' D' hI' w' h
   refine hJ2 _ _ ?_
   rw[V5,D5 (by omega) (by omega)]
   exact hnext2 _ _ ⟨j+1,l',D',hjl,rfl,hI',h⟩ (by simp only;omega)
  clear hnext2
  obtain⟨px,ps,dv,h⟩:=lsD.here (h.pick [1,0,2,3,4] (by decide))
  have h:Rel B2 w11 [O1 pl J4 #[ptr px,ptr ps,dv.1],intD px l.x,FC ps l.s,V3 Y1 dv.1 l.done,Y8 pg g2,O1 cb E5 c.cs.toArray,V3 U2 sv (g.committed.map ofL),V3 U2 cv (g2.committed.map ofL)]:=h
  simp -zeta only[y5,U0 eB,U0 vE,Nat.zero_add]
  rw[h.ld 0 rfl A9 (o:=0) (v:=ptr px) rfl]
  refine h.ask (fun B3 own base3=>dY (own (i:=1) rfl) hI.par.good) fun w12 h=>?_
  rw[h.ld 0 rfl U9 (o:=2) (v:=dv.1) rfl,Q4.len (V3.read (h.here (i:=3) rfl)) p9]
  obtain⟨gb,ob,hp1,hp2⟩:=Q4.idx (V3.read (h.here (i:=7) rfl)) U6 (P:=prog) (i:=j) (by rw[List.length_map];exact hjl)
  rw[hgj] at hp2
  rw[hp1,F6.ld0 hp2 V6 (v := .string (ofL g2.committed[j])) rfl]
  clear hp1 hp2
  refine h.make (fun B3 own base3=>YV (base3 hW2) (t:=g2.committed[j]) (by omega)) fun u τ w13 hp h=>?_
  obtain⟨v1,rfl,rfl⟩:=hp
  obtain⟨e1,e2',e3⟩:=le0 g2.committed[j] hbl
  have h:Rel B2 w13 ([O1 pl J4 #[ptr px,ptr ps,dv.1],intD px l.x,FC ps l.s,V3 Y1 dv.1 l.done]++[Y8 pg g2,O1 cb E5 c.cs.toArray,V3 U2 sv (g.committed.map ofL),V3 U2 cv (g2.committed.map ofL),V3 R3 v1.1 (xC g2.committed[j]).row]):=h
  have h:Rel B2 w13 [lsD pl l,Y8 pg g2,O1 cb E5 c.cs.toArray,V3 U2 sv (g.committed.map ofL),V3 U2 cv (g2.committed.map ofL),V3 R3 v1.1 (xC g2.committed[j]).row]:=lsD.close (l:=l) (q:=(px,ps)) (v:=dv) h
  refine h.act 0 rfl (fun B3 own base3=>Dh0 (hI.ok (by omega)) (V3.read (own (j:=5) (by decide) rfl)) (by omega) (fun x hx=>by have:=e3 x hx;omega)) fun u e' τ w14 hp h=>?_
  obtain⟨rfl,rfl,rfl⟩:=hp
  obtain⟨s1,⟨D',s2⟩,s3,s4⟩:=hI.step (b:=g2.committed[j]) (by rw[htl];omega) hbl v1
  rw[←hts] at s2
  have hcnt:l.done.length≤999999:=by have:=hI.tL0;have:=hI.len;omega
  rw[s1,V8,Bool.not_true,t_]
  have h:Rel B2 w14 [lsD pl (KA l (xC g2.committed[j]) v1).1,Y8 pg g2,O1 cb E5 c.cs.toArray,V3 U2 sv (g.committed.map ofL),V3 U2 cv (g2.committed.map ofL),V3 R3 v1.1 (xC g2.committed[j]).row]:=h
  generalize (KA l (xC g2.committed[j]) v1).1=l' at *
  obtain⟨px',ps',dv',h⟩:=lsD.here h
  rw[h.ld 0 rfl U9 (o:=2) (v:=dv'.1) rfl,Q4.len (V3.read (h.here (i:=3) rfl)) p9,A_,K3]
  have last:∀w',Rel B2 w' [O1 pl J4 #[ptr px',ptr ps',dv'.1],intD px' l'.x,FC ps' l'.s,V3 Y1 dv'.1 l'.done,Y8 pg g2,O1 cb E5 c.cs.toArray,V3 U2 sv (g.committed.map ofL),V3 U2 cv (g2.committed.map ofL),V3 R3 v1.1 (xC g2.committed[j]).row]→J2 () w':=by
   intro w' h
   refine hJ2 l' D' s2 _ ?_
   have h:Rel B2 w' (lsL pl l' (px',ps') dv'++[Y8 pg g2,O1 cb E5 c.cs.toArray,V3 U2 sv (g.committed.map ofL),V3 U2 cv (g2.committed.map ofL),V3 R3 v1.1 (xC g2.committed[j]).row]):=h
   exact(lsD.close h).pick [1,0,2,3,4] (by decide)
  refine⟨fun hmore=>?_,fun _=>?_⟩
  ·obtain⟨y,hy,hyt⟩:=s4 (by omega)
   obtain⟨hyl,hye⟩:=List.getElem?_eq_some_iff.1 hy
   rw[h.ld 0 rfl U9 (o:=2) (v:=dv'.1) rfl]
   obtain⟨gy,oy,hxy,hcy⟩:=Q4.idx (V3.read (h.here (i:=3) rfl)) p9 (P:=prog) (i:=l.done.length) hyl
   rw[hye] at hcy
   simp -zeta only[hxy,U0 fH]
   rw[F6.ld hcy F3 (j:=6) (v := .int .i64 y.time) rfl,gD,decide_eq_false (by omega),t_]
   clear hxy hcy
   rw[h.ld 0 rfl A9 (o:=0) (v:=ptr px') rfl]
   refine h.ask (fun B3 own base3=>dY (own (i:=1) rfl) s2.par.good) fun w15 h=>?_
   rw[D6,decide_eq_false (by omega),t_]
   exact last _ h
  ·rw[h.ld 0 rfl A9 (o:=0) (v:=ptr px') rfl]
   refine h.ask (fun B3 own base3=>dY (own (i:=1) rfl) s2.par.good) fun w15 h=>?_
   rw[D6,decide_eq_false (by omega),t_]
   exact last _ h
 ·
  clear hnext
  obtain⟨few1,few2⟩:=uw0 hG
  have hW2:lC B:=lift hW
  rw[h.Q9 2 rfl EJ rfl]
  refine h.make (fun B3 own base3=>Qd0 c) fun u τ w8 hp h=>?_
  rcases hp with⟨_,py,rfl,rfl⟩ | ⟨hno,_⟩
  case inr=>exact absurd hRc hno
  rw[uB rE,t_]
  have h:Rel B w8 [Y8 pg g,lsD pl l,O1 cb E5 c.cs.toArray,V3 U2 sv (g.committed.map ofL),lsD py ⟨lT c ksL,⟨0,0,0,[]⟩,[]⟩]:=h
  refine M6 (fun x w'=>∃(j:Nat) (y:LS) (Dy:List (EnP×SV)),j≤g.committed.length∧x=(.int .i64 j,())∧DY c (g.committed.take j) y Dy ∧
    Rel B w' [Y8 pg g,lsD pl l,O1 cb E5 c.cs.toArray,V3 U2 sv (g.committed.map ofL),lsD py y]) (fun x _=>g.committed.length-(match x.1 with | .int _ n=>n.toNat | _=>0))
   ⟨0,_,[],Nat.zero_le _,rfl,by rw[List.take_zero];exact DY.new hRc,h⟩ ?_
  clear h
  rintro x w11 ⟨j,y,Dy,hj,rfl,hY,h⟩ next2 hnext2
  rw[Q4.len (V3.read (h.here (i:=3) rfl)) U6,List.length_map,D6,K3]
  refine⟨fun hjl=>?_,fun hjg=>?_⟩
  ·have hjl:j<g.committed.length:=by omega
   have hbl:=few2 _ (List.getElem_mem hjl)
   have hts:g.committed.take (j+1)=g.committed.take j++[g.committed[j]]:=List.take_succ_eq_append_getElem hjl
   have hgj:(g.committed.map ofL)[j]'(by rw[List.length_map];exact hjl)=ofL g.committed[j]:=List.getElem_map ..
   have htl:(g.committed.take j).length=j:=by rw[List.length_take];omega
   obtain⟨gb,ob,hp1,hp2⟩:=Q4.idx (V3.read (h.here (i:=3) rfl)) U6 (P:=prog) (i:=j) (by rw[List.length_map];exact hjl)
   rw[hgj] at hp2
   rw[hp1,F6.ld0 hp2 V6 (v := .string (ofL g.committed[j])) rfl]
   clear hp1 hp2
   refine h.make (fun B3 own base3=>YV (base3 hW2) (t:=g.committed[j]) (by omega)) fun u τ w13 hp h=>?_
   obtain⟨v1,rfl,rfl⟩:=hp
   obtain⟨e1,e2',e3⟩:=le0 g.committed[j] hbl
   have h:Rel B w13 [Y8 pg g,lsD pl l,O1 cb E5 c.cs.toArray,V3 U2 sv (g.committed.map ofL),lsD py y,V3 R3 v1.1 (xC g.committed[j]).row]:=h
   refine h.act 4 rfl (fun B3 own base3=>Dh0 (hY.ok (by omega)) (V3.read (own (j:=5) (by decide) rfl)) (by omega) (fun x hx=>by have:=e3 x hx;omega)) fun u e' τ w14 hp h=>?_
   obtain⟨rfl,rfl,rfl⟩:=hp
   obtain⟨s1,⟨D',s2⟩,s3,s4⟩:=hY.step (b:=g.committed[j]) (by rw[htl];omega) hbl v1
   rw[←hts] at s2
   rw[s1,V8,Bool.not_true,t_,V5,D5 (by omega) (by omega)]
   exact hnext2 _ _ ⟨j+1,_,D',hjl,rfl,s2,h.take 5⟩ (by simp only;omega)
  ·clear hnext2
   have hje:j=g.committed.length:=by omega
   subst hje
   rw[List.take_length] at hY
   have hst:(l.x,l.s)=(y.x,y.s):=hI.st.trans hY.st.symm
   have hxx:y.x=l.x:=(congrArg Prod.fst hst).symm
   have hss:y.s=l.s:=(congrArg Prod.snd hst).symm
   have hcnt:=hI.tL0
   have hcl:=hI.len
   obtain⟨times,hfin⟩:=hI.par.fin
   have hfit:=hI.par.good.fit hfin.keys
   have hright:=hI.ret.right
   obtain⟨px,ps,dv,h⟩:=lsD.here (h.pick [1,4,0,2,3] (by decide))
   have h:Rel B w11 [O1 pl J4 #[ptr px,ptr ps,dv.1],intD px l.x,FC ps l.s,V3 Y1 dv.1 l.done,lsD py y,Y8 pg g,O1 cb E5 c.cs.toArray,V3 U2 sv (g.committed.map ofL)]:=h
   obtain⟨qx,qs,dy,h⟩:=lsD.here (h.pick [4,0,1,2,3] (by decide))
   have h:Rel B w11 [O1 py J4 #[ptr qx,ptr qs,dy.1],intD qx y.x,FC qs y.s,V3 Y1 dy.1 y.done,O1 pl J4 #[ptr px,ptr ps,dv.1],intD px l.x,FC ps l.s,V3 Y1 dv.1 l.done]:=h
   rw[hxx,hss] at h
   rw[VC]
   have h:=h.tick
   generalize tick w11=w11 at *
   simp -zeta only[y5,U0 eB,U0 wC,U0 vE,Nat.zero_add]
   rw[h.ld 4 rfl U9 (o:=2) (v:=dv.1) rfl]
   refine h.ask (fun B3 own base3=>Ku0 (V3.read (own (i:=7) rfl)) (by omega)) fun w12 h=>?_
   rw[(AA0 l.done).2 hI.once,VC,h.ld 4 rfl A9 (o:=0) (v:=ptr px) rfl,h.ld 0 rfl A9 (o:=0) (v:=ptr qx) rfl]
   refine h.ask (fun B3 own base3=>Eq0 (base3 (lift hP)) (own (i:=5) rfl) hfit) fun w13 h=>?_
   refine⟨h.is 0 rfl A9 (o:=0) rfl,?_⟩
   refine h.ask (fun B3 own base3=>Eq0 (base3 (lift hP)) (own (i:=1) rfl) hfit) fun w14 h=>?_
   rw[WT,decide_eq_true rfl,VC,h.ld 4 rfl iA (o:=1) (v:=ptr ps) rfl,h.ld 0 rfl iA (o:=1) (v:=ptr qs) rfl]
   refine h.ask (fun B3 own base3=>rm0 (base3 hW2) (FC.read (own (i:=6) rfl)) hright) fun w15 h=>?_
   refine⟨h.is 0 rfl iA (o:=1) rfl,?_⟩
   refine h.ask (fun B3 own base3=>rm0 (base3 hW2) (FC.read (own (i:=2) rfl)) hright) fun w16 h=>?_
   rw[WT,decide_eq_true rfl,VC,h.ld 4 rfl A9 (o:=0) (v:=ptr px) rfl,h.ld 4 rfl U9 (o:=2) (v:=dv.1) rfl,Q4.len (V3.read (h.here (i:=7) rfl)) p9]
   refine h.ask (fun B3 own base3=>eI0 (own (i:=5) rfl)) fun w17 h=>?_
   refine⟨?_,h.is 4 rfl U9 (o:=2) rfl,h.is 4 rfl U9 (o:=2) rfl,?_⟩
   ·have:=Q4.len (P:=prog) (w:=w17) (T:=Z4) (U:=Q0) (bs:=#[false]) (Kp:=fun x=>x = .int .i64 l.done.length) (V3.read (h.here (i:=7) rfl)) p9
    obtain⟨x,h1,rfl⟩:=this.mpr rfl
    exact h1
   rw[O6,decide_eq_true (show l.x.next=l.done.length by rw[hI.par.next,hcnt])]
   exact fin' _ _ h
end
end Go.Proofs.YtngbebnhegcokaaGreatDoor
