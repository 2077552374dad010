/-
  Part 5 of the proof that TopRetained holds, for the parts that follow; made small by program out of longer texts. No condition.
-/
import Derived.Test.YtngbebnhegcokaaGreatDoorMaD
namespace Go.Proofs.YtngbebnhegcokaaGreatDoor
open Go.Proofs.Tryz (prog)
open Go.RowKit
set_option maxRecDepth 100000
section
variable {B:Base} {w:World} {σ τ:List Dat} {pg:Nat} {g:nA} {K:PtK}
def vE0(pg:Nat)(B:Base)(cs:Array Value)(o:Nat)(q:MQ)(m:UH)(s:Sem Next)(out:Int→UH→Dat→Prop):Prop :=
 Does prog B (yU [O1 pg K4 cs,u_ q m]) s fun v e' τ=>∃cs' q' m' e d,v = .int .i64 e∧e'=yU [O1 pg K4 cs',u_ q' m']∧τ=[d]∧NB cs' o q' m'.up.isSome∧IC cs cs' o∧out e m' d
theorem u_.disk{q:MQ}{m:UH}(h:u_ q m B):Z6 q.dp m.d m.kv B:=by
 unfold u_ Az0 at h
 cases hu:m.up with
 | none=>rw[hu] at h;exact eF.get (j:=0) h rfl
 | some u=>rw[hu] at h;exact eF.get (j:=0) h rfl
theorem vE0.intro{cs:Array Value}{o:Nat}{q:MQ}{m:UH}{s:Sem Next}{out:Int→UH→Dat→Prop}
  (h:∀(B':Base) (w:World) (K:PtK),(∀{d:Dat},d B→d B')→Rel B' w [O1 pg K4 cs,u_ q m]→(∀cs' q' m' e d w',NB cs' o q' m'.up.isSome→IC cs cs' o→out e m' d→Rel B' w' [O1 pg K4 cs',u_ q' m',d]→K (.int .i64 e) w')→upK prog s w K):vE0 pg B cs o q m s out:=by
 refine Does.intro fun B' w K base h0 k=>?_
 have h0:=Rel.lX (σ:=[]) (L:=[O1 pg K4 cs,u_ q m]) h0
 refine h B' w K base h0 fun cs' q' m' e d w' h1 h2 ho h3=>?_
 have h3:Rel B' w' ([d]++[O1 pg K4 cs',u_ q' m']):=h3.pick [2,0,1] (by decide)
 have h3:=Rel.kR h3
 exact k _ _ [d] w' ⟨cs',q',m',e,d,rfl,rfl,rfl,h1,h2,ho⟩ (h3.pick [1,0] (by decide))
end
theorem db0{c:List Bs}{m:UH}{i:Int}(hm:∀u,m.up=some u→UOk i u)(hc:c.length≤1000000):(lS c m).length≤1000000:=by
 unfold lS
 cases hu:m.up with
 | none=>exact hc
 | some u =>
  have h1:=(hm u hu).r.len
  show (if u.r.commit≤c.length then c else(u.r.log.take u.r.commit.toNat).map fun x=>bl x.data).length≤1000000
  split
  ·exact hc
  ·rw[List.length_map,List.length_take]
   omega
theorem aD0{g:nA}(h:GOk g):GOk (vo0 g):=by
 refine⟨h.ups,h.net,?_⟩
 have h0:=db0 (h.ups 0 (by unfold I3;omega)) h.com
 have h1:=db0 (h.ups 1 (by unfold I3;omega)) h0
 exact db0 (h.ups 2 (by unfold I3;omega)) h1
theorem Rb0{g:nA}(h:GOk g){i:Int}(hi:I3 i){m:UH}(hm:∀u,m.up=some u→UOk i u):GOk (XG g i m):=⟨h.ups.set hi hm,h.net,h.com⟩
theorem Zp0{g:nA}(h:GOk g){i:Int}(hi:I3 i){u:UpP}(hu:UOk i u){o:vE}(hf:∀m∈o.send,bM m):GOk (doS g i u o).1:=by
 refine aD0 ?_
 unfold do2
 have h1:GOk (XG g i (XE (g.mem.get i) u o).1):=Rb0 h hi (Yo0 hu)
 split
 ·exact⟨h1.ups,LY h.net hf,h1.com⟩
 ·exact h1
theorem ep0{g:nA}(h:GOk g){id:Int}{f:G8→G8×vE}(hf:∀u,(g.mem.get id).up=some u→I3 id→UOk id { u with r:=(f u.r).1 }∧QN (f u.r).2):GOk (zV g id f).1:=by
 unfold zV
 split
 ·exact h
 rename_i c
 obtain⟨hi,u,hu⟩:=BU (Classical.byContradiction c)
 rw[hu]
 obtain⟨h1,h2⟩:=hf u hu hi
 exact Zp0 (Rb0 h hi fun u' hu'=>by cases hu';exact h1) hi h1 h2.send
theorem Kw0{g:nA}(h:GOk g)(id:Int):∀u,(g.mem.get id).up=some u→I3 id→UOk id { u with r:=(oI u.r).1 }∧QN (oI u.r).2:=fun u hu hi=>by
 have huok:=h.ups id hi u hu
 obtain⟨a,b,c⟩:=je0 huok.r
 exact⟨⟨huok.j,a,b.trans huok.id,c huok.term⟩,rf0 huok.r⟩
theorem mv0{g:nA}(h:GOk g)(id:Int)(m:R9):∀u,(g.mem.get id).up=some u→I3 id→UOk id { u with r:=(nJ u.r m).1 }∧QN (nJ u.r m).2:=fun u hu hi=>by
 have huok:=h.ups id hi u hu
 obtain⟨a,b,c⟩:=el0 huok.r huok.term m
 exact⟨⟨huok.j,a,b.trans huok.id,c⟩,qf0 huok.r huok.term m⟩
theorem TZ{g:nA}(h:GOk g)(id:Int):GOk (lh0 g id).1:=ep0 h (Kw0 h id)
theorem tp0{g:nA}(h:GOk g){n:CO}(hn:HV n):GOk (CU g n):=⟨h.ups,hn,h.com⟩
theorem QV{g:nA}(h:GOk g)(i:Int)(m:R9):GOk (WN g i m).1:=by
 unfold WN
 have h1:GOk (CU g (aA g.net i).2):=tp0 h (uY h.net)
 split
 ·exact h1
 ·exact ep0 h1 (mv0 h1 _ m)
theorem TS{g:nA}(h:GOk g)(id:Int)(data:ByteArray):GOk (oJ g id data).g:=by
 unfold oJ
 split
 ·exact h
 rename_i c
 obtain⟨hi,u,hu⟩:=BU (Classical.byContradiction c)
 rw[hu]
 show GOk (ZP g id u (U8 u.r data)).g
 have huok:=h.ups id hi u hu
 obtain⟨a,b,c2⟩:=iV huok.r huok.term data
 have hfo:=iW huok.r huok.term data
 have hu2:UOk id { u with r:=(U8 u.r data).r }:=⟨huok.j,a,b.trans huok.id,c2⟩
 have h1:GOk (pI g id u (U8 u.r data).r):=Rb0 h hi fun u' hu'=>by cases hu';exact hu2
 unfold ZP
 split
 ·exact h1
 split
 ·exact Zp0 h1 hi hu2 hfo.send
 ·exact Zp0 h1 hi hu2 hfo.send
def E_(g g':nA):Prop:=∀i,I3 i→(g'.mem.get i).kv=(g.mem.get i).kv∧(g'.mem.get i).d.keep=(g.mem.get i).d.keep
theorem E_.refl(g:nA):E_ g g:=fun _ _=>⟨rfl,rfl⟩
theorem E_.trans{a b c:nA}(h:E_ a b)(h':E_ b c):E_ a c:=fun i hi=>⟨(h' i hi).1.trans (h i hi).1,(h' i hi).2.trans (h i hi).2⟩
theorem E_.keep{g g':nA}{B:Base}(h:E_ g g')(hk:bG g.mem B):bG g'.mem B:=fun i hi=>by rw[(h i hi).1,(h i hi).2];exact hk i hi
theorem E_.XG(g:nA){i:Int}(hi:I3 i){m:UH}(h:m.kv=(g.mem.get i).kv∧m.d.keep=(g.mem.get i).d.keep):E_ g (XG g i m):=fun j hj=>by
 by_cases c:j=i
 ·subst c
  show ((g.mem.set j m).get j).kv=_∧((g.mem.set j m).get j).d.keep=_
  rw[T3.IA _ hi]
  exact h
 ·show ((g.mem.set i m).get j).kv=_∧((g.mem.set i m).get j).d.keep=_
  rw[T3.WG _ hi hj _ c]
  exact⟨rfl,rfl⟩
theorem on0(g:nA){i:Int}(hi:I3 i)(u:UpP)(o:vE):E_ g (doS g i u o).1:=by
 have h1:=E_.XG g hi (Fw0 (g.mem.get i) u o)
 unfold doS do2
 split
 ·exact fun j hj=>h1 j hj
 ·exact fun j hj=>h1 j hj
theorem VY(g:nA)(id:Int)(f:G8→G8×vE):E_ g (zV g id f).1:=by
 unfold zV
 split
 ·exact E_.refl g
 rename_i c
 obtain⟨hi,u,hu⟩:=BU (Classical.byContradiction c)
 rw[hu]
 have h1:E_ g (pI g id u (f u.r).1):=E_.XG g hi ⟨rfl,rfl⟩
 have h2:E_ (pI g id u (f u.r).1) (doS (pI g id u (f u.r).1) id { u with r:=(f u.r).1 } (f u.r).2).1:=on0 _ hi _ _
 exact h1.trans h2
theorem JX(g:nA)(i:Int)(m:R9):E_ g (WN g i m).1:=by
 unfold WN
 split
 ·exact E_.refl g
 ·exact fun j hj=>VY (CU g (aA g.net i).2) _ _ j hj
open Classical in
noncomputable def DZ(b:ByteArray):R9:=if h:∃m,bM m∧b=ofL (EN m) then h.choose else⟨0,0,0,0,0,0,0,false,[]⟩
noncomputable def lZ(g:nA)(i:Int):nA×Int:=WN g i (DZ (aA g.net i).1.1.body)
noncomputable def rJ:Nat→nA→nA
 | 0,g=>g
 | k+1,g=>if g.net.fl=[] then g else rJ k (lZ g 0).1
noncomputable def kX(g:nA)(id most:Int):nA:=rJ most.toNat (lh0 g id).1
theorem mn0{g:nA}(h:GOk g)(i:Int)(hz:(aA g.net i).1.2=0):bM (DZ (aA g.net i).1.1.body)∧(aA g.net i).1.1.body=ofL (EN (DZ (aA g.net i).1.1.body)):=by
 have hex:∃m,bM m∧(aA g.net i).1.1.body=ofL (EN m):=by
  unfold aA at hz ⊢
  split at hz
  ·rename_i n p ha
   split at hz
   ·rename_i hh
    rw[if_pos hh]
    obtain⟨_,hn,hp⟩:=Bx0 ha
    obtain⟨m,h1,h2⟩:=h.net.2 p (by rw[←hp];exact List.getElem_mem hn)
    exact⟨m,h1,h2⟩
   ·cases hz
  ·cases hz
 unfold DZ
 rw[dif_pos hex]
 exact hex.choose_spec
section
variable {B:Base} {w:World} {σ τ:List Dat} {pg:Nat} {g:nA} {K:PtK}
theorem Dj0(hT:VT B)(hW:qC B)(hP:VI B)(hok:GOk g)(hke:bG g.mem B)(id most:Int)(hmo:most≤1000000):Does prog B (kC pg g) (Z0 oG #[ptr pg,.int .i64 id,.int .i64 most]) fun _ e' τ=>e'=kC pg (kX g id most)∧τ=[]:=by
 refine Does.intro fun B' w K base h k=>?_
 replace hT:=base hT
 replace hW:=base hW
 replace hP:=base hP
 replace hke:=hke.mono base
 refine MI.up ?_
 unfold MI.pt
 refine h.act 0 rfl (fun B2 own base2=>bE0 (base2 hT) (base2 hP) hok (hke.mono base2) id) fun v e' τ w1 hp h=>?_
 obtain⟨rfl,rfl,rfl⟩:=hp
 have hok1:=TZ hok id
 have hke1:bG (lh0 g id).1.mem B':=(VY g id oI).keep hke
 unfold kX at k
 generalize (lh0 g id).1=g1 at *
 refine P6 fun J hJ=>?_
 replace hJ:∀(n:Int) (g':nA) w',rJ most.toNat g1=g'→Rel B' w' [kC pg g']→J (.int .i64 n,()) w':=fun n g' w' he h=>hJ _ _ (k _ _ [] _ ⟨by rw[he],rfl⟩ h)
 clear k hok hke
 refine F6 (fun z w'=>∃(n:Nat) (g':nA),z=(.int .i64 n,())∧(n:Int)≤max most 0∧rJ most.toNat g1=rJ (most.toNat-n) g'∧GOk g'∧bG g'.mem B'∧Rel B' w' [kC pg g'])
  (fun z _=>most.toNat-(match z.1 with | .int _ n=>n.toNat | _=>0)) ⟨0,g1,rfl,by omega,rfl,hok1,hke1,h⟩ ?_
 clear h hok1 hke1
 rintro z w2 ⟨n,g',rfl,hn,hs,hok,hke,h⟩ next hnext
 rw[G6,K3]
 refine⟨fun hlt=>?_,fun hge=>?_⟩
 case refine_2 =>
  refine hJ n g' _ ?_ h
  rw[hs,show most.toNat-n=0 by omega]
  rfl
 obtain⟨j,hj⟩:∃j,most.toNat-n=j+1:=⟨most.toNat-n-1,by omega⟩
 rw[hj,rJ] at hs
 refine h.ask (fun B2 own base2=>cw0 (own (i:=0) rfl)) fun w3 h=>?_
 rw[x9,K3]
 refine⟨fun c=>?_,fun c=>?_⟩
 case refine_2 =>
  rw[if_pos (List.eq_nil_of_length_eq_zero (by omega))] at hs
  exact hJ n g' _ hs h
 rw[if_neg (fun hh=>by rw[hh] at c;exact absurd c (by decide))] at hs
 refine h.act 0 rfl (fun B2 own base2=>Up0 (base2 hT) (base2 hW) (base2 hP) hok (hke.mono base2) 0 (m:=DZ (aA g'.net 0).1.1.body) (mn0 hok 0)) fun v e' τ w4 hp h=>?_
 obtain⟨rfl,rfl,rfl⟩:=hp
 rw[Z5,E5 (by omega) (by omega)]
 refine hnext _ _ ⟨n+1,(lZ g' 0).1,rfl,by omega,?_,QV hok 0 _,(JX g' 0 _).keep hke,h⟩ (by simp only;omega)
 rw[hs,show most.toNat-(n+1)=j by omega]
end
instance (i:Int):Decidable (I3 i):=by unfold I3;exact inferInstance
theorem cA0{s s':DS}{j:JP}{c:CS}{e:Int}(hd:DOk s)(h:dY s=(s',(some (j,c),e))):JOk j:=by
 unfold dY at h
 split at h
 ·cases h
 unfold Do0 at h
 split at h
 ·cases h
 split at h
 ·cases h
 rename_i hoj _ _ _ _
 cases h
 exact(Eo0 (hd.L9 2) hoj).1
theorem Rr0{s:DS}{kv:Value}{id:Int}(hi:I3 id)(hd:DOk s):∀u,(upM id kv s).1.up=some u→UOk id u:=by
 intro u hu
 unfold upM at hu
 split at hu
 ·cases hu
 ·rename_i hom
  have hj:=cA0 hd hom
  simp only at hu
  unfold rD0 at hu
  split at hu
  ·rename_i hn
   cases hu
   exact⟨hj,SC0 hn,rfl,fun h=>by cases h⟩
  ·cases hu
theorem cc0(id:Int)(kv:Value)(s:DS):(upM id kv s).1.kv=kv∧(upM id kv s).1.d.keep=s.keep:=by
 have h1:(dY s).1.keep=s.keep:=by
  unfold dY
  split
  ·exact cB s 2
  ·have h2:=Lf0 (L9 s 2).1
   unfold Do0
   split
   ·rename_i hq
    rw[hq] at h2
    exact h2.trans (cB s 2)
   ·rename_i hq
    rw[hq] at h2
    split
    ·exact h2.trans (cB s 2)
    ·exact h2.trans (cB s 2)
 unfold upM
 split
 ·rename_i hq
  rw[hq] at h1
  exact⟨rfl,h1⟩
 ·rename_i hq
  rw[hq] at h1
  exact⟨rfl,h1⟩
def gNil:Value := .slice none 0 0
noncomputable def ji0:nA:=⟨⟨(upM 0 gNil iC).1,(upM 1 gNil iC).1,(upM 2 gNil iC).1⟩,⟨[],0⟩,[]⟩
section
variable {B:Base} {w:World} {σ τ:List Dat} {pg:Nat} {g:nA} {K:PtK}
theorem IC.mem{cs cs':Array Value}{o o2:Nat}{q:MQ}{up:Bool}(h:IC cs cs' o)(hd:o2+4≤o∨o+4≤o2)(hm:NB cs o2 q up):NB cs' o2 q up:=by
 unfold NB at hm ⊢
 rw[h.2 _ (by omega),h.2 _ (by omega),h.2 _ (by omega),h.2 _ (by omega)]
 exact hm
theorem Uq0{ρ:List Dat}{cs:Array Value}{i:Nat}(hi:i<3)(hT:VT B)(hW:qC B)(hP:VI B)(hcs:cs.size=14)(hnil:∀k,4 * i≤k→k<12→cs.toList[k]? = some (.pointer none))
  {dp:Nat} (h:Rel B w (ρ++[O1 pg K4 (cs.setIfInBounds (4 * i) (ptr dp)),Z6 dp iC gNil]))
  (k:∀v q cs' w',NB cs' (4 * i) q (upM i gNil iC).1.up.isSome→IC cs cs' (4 * i)→Rel B w' (ρ++[O1 pg K4 cs',u_ q (upM i gNil iC).1])→K v w') :
  upK prog (Z0 bH #[.pointer (some ⟨pg,4 * i,none⟩),.int .i64 i]) w K:=by
 refine h.Jh0 (fun B2 own base2=>kG0 (kv:=gNil) (s:=iC) (dp:=dp) (base2 hT) (base2 hW) (base2 hP) BX (Nat.zero_le _) i (by rw[Array.size_setIfInBounds];exact hcs) (by omega) (XK (by omega)) ⟨none,by rw[Z_ (by omega)];exact hnil _ (by omega) (by omega)⟩ ⟨none,by rw[Z_ (by omega)];exact hnil _ (by omega) (by omega)⟩ (by rw[Z_ (by omega)];exact hnil _ (by omega) (by omega))) fun v d1 d2 w' hp h=>?_
 obtain⟨rfl,q,cs',_,rfl,rfl,h1,h2⟩:=hp
 exact k _ q cs' w' h1 (((IC.refl cs _).set (by omega)).trans h2) h
set_option maxHeartbeats 2000000 in
theorem eG0(hT:VT B)(hW:qC B)(hP:VI B):Makes prog B (Z0 DV #[]) fun u τ=>∃pg,u=ptr pg∧τ=[kC pg ji0]:=by
 refine Makes.intro fun B' w K base h k=>?_
 replace hT:=base hT
 replace hW:=base hW
 replace hP:=base hP
 refine ZW.up ?_
 unfold ZW.pt
 refine h.make (fun B2 own base2=>Rz0) fun u τ w1 hp h=>?_
 obtain⟨np,rfl,rfl⟩:=hp
 rw[va0]
 refine h.box fun pg w2 h=>?_
 have h:Rel B' w2 [KD np ⟨[],0⟩,O1 pg K4 #[.pointer none,.pointer none,.pointer none,.pointer none,.pointer none,.pointer none,.pointer none,.pointer none,.pointer none,.pointer none,.pointer none,.pointer none,ptr np,.slice none 0 0]]:=h
 generalize hcs0:(#[.pointer none,.pointer none,.pointer none,.pointer none,.pointer none,.pointer none,.pointer none,.pointer none,.pointer none,.pointer none,.pointer none,.pointer none,ptr np,.slice none 0 0]:Array Value)=cs0 at h
 have hs0:cs0.size=14:=by rw[←hcs0];rfl
 have hn0:∀k,k<12→cs0.toList[k]? = some (.pointer none):=fun k hk=>by
  rw[←hcs0]
  have:k=0∨k=1∨k=2∨k=3∨k=4∨k=5∨k=6∨k=7∨k=8∨k=9∨k=10∨k=11:=by omega
  rcases this with rfl | rfl | rfl | rfl | rfl | rfl | rfl | rfl | rfl | rfl | rfl | rfl<;>rfl
 have h12:cs0.toList[12]? = some (ptr np):=by rw[←hcs0];rfl
 have h13:cs0.toList[13]? = some (.slice none 0 0):=by rw[←hcs0];rfl
 clear hcs0
 refine⟨4,?_⟩
 rw[iter,G6,K3]
 refine⟨fun _=>?_,fun c=>absurd (show (0:Int)<3 by decide) c⟩
 have h:=h.tick
 generalize tick w2=w2 at *
 simp -zeta only[J5,U0 OC,Nat.zero_add]
 refine h.make (fun B2 own base2=>Rp0) fun u τ w3 hp h=>?_
 obtain⟨d0,rfl,rfl⟩:=hp
 rw[ZX (show I3 (0:Int) by unfold I3;omega),U0 kF]
 refine h.st 1 rfl H_ (o:=4 * (0:Int).toNat+0) (show 4 * (0:Int).toNat+0<cs0.size by rw[hs0];decide) rfl fun w4 h=>?_
 rw[ZX (show I3 (0:Int) by unfold I3;omega)]
 refine Uq0 (pg:=pg) (i:=0) (ρ:=[KD np ⟨[],0⟩]) (dp:=d0) (by omega) hT hW hP hs0 (fun k _ hk=>hn0 k hk) h fun v q0 cs1 w5 m0 e0 h=>?_
 have hs1:cs1.size=14:=e0.1.trans hs0
 have h:Rel B' w5 [KD np ⟨[],0⟩,O1 pg K4 cs1,u_ q0 (upM 0 gNil iC).1]:=h
 rw[Z5,E5 (by omega) (by omega)]
 rw[iter,G6,K3]
 refine⟨fun _=>?_,fun c=>absurd (show (0+1:Int)<3 by decide) c⟩
 rw[show (0+1:Int)=1 from rfl]
 have h:=h.tick
 generalize tick w5=w5 at *
 simp -zeta only[J5,U0 OC,Nat.zero_add]
 refine h.make (fun B2 own base2=>Rp0) fun u τ w3 hp h=>?_
 obtain⟨d1,rfl,rfl⟩:=hp
 rw[ZX (show I3 (1:Int) by unfold I3;omega),U0 kF]
 refine h.st 1 rfl H_ (o:=4 * (1:Int).toNat+0) (show 4 * (1:Int).toNat+0<cs1.size by rw[hs1];decide) rfl fun w4 h=>?_
 rw[ZX (show I3 (1:Int) by unfold I3;omega)]
 have h:Rel B' w4 ([KD np ⟨[],0⟩,u_ q0 (upM 0 gNil iC).1]++[O1 pg K4 (cs1.setIfInBounds (4 * 1) (ptr d1)),Z6 d1 iC gNil]):=h.pick [0,2,1,3] (by decide)
 refine Uq0 (pg:=pg) (i:=1) (dp:=d1) (by omega) hT hW hP hs1 (fun k h1 hk=>by rw[e0.2 k (by omega)];exact hn0 k hk) h fun v q1 cs2 w5 m1 e1 h=>?_
 have hs2:cs2.size=14:=e1.1.trans hs1
 have h:Rel B' w5 [KD np ⟨[],0⟩,u_ q0 (upM 0 gNil iC).1,O1 pg K4 cs2,u_ q1 (upM 1 gNil iC).1]:=h
 rw[Z5,E5 (by omega) (by omega)]
 rw[iter,G6,K3]
 refine⟨fun _=>?_,fun c=>absurd (show (1+1:Int)<3 by decide) c⟩
 rw[show (1+1:Int)=2 from rfl]
 have h:=h.tick
 generalize tick w5=w5 at *
 simp -zeta only[J5,U0 OC,Nat.zero_add]
 refine h.make (fun B2 own base2=>Rp0) fun u τ w3 hp h=>?_
 obtain⟨d2,rfl,rfl⟩:=hp
 rw[ZX (show I3 (2:Int) by unfold I3;omega),U0 kF]
 refine h.st 2 rfl H_ (o:=4 * (2:Int).toNat+0) (show 4 * (2:Int).toNat+0<cs2.size by rw[hs2];decide) rfl fun w4 h=>?_
 rw[ZX (show I3 (2:Int) by unfold I3;omega)]
 have h:Rel B' w4 ([KD np ⟨[],0⟩,u_ q0 (upM 0 gNil iC).1,u_ q1 (upM 1 gNil iC).1]++[O1 pg K4 (cs2.setIfInBounds (4 * 2) (ptr d2)),Z6 d2 iC gNil]):=h.pick [0,1,3,2,4] (by decide)
 refine Uq0 (pg:=pg) (i:=2) (dp:=d2) (by omega) hT hW hP hs2 (fun k h1 hk=>by rw[e1.2 k (by omega),e0.2 k (by omega)];exact hn0 k hk) h fun v q2 cs3 w5 m2 e2 h=>?_
 have hs3:cs3.size=14:=e2.1.trans hs2
 rw[Z5,E5 (by omega) (by omega)]
 rw[iter,G6,K3]
 refine⟨fun c=>absurd c (show ¬(2+1:Int)<3 by decide),fun _=>?_⟩
 have h:Rel B' w5 [KD np ⟨[],0⟩,u_ q0 (upM 0 gNil iC).1,u_ q1 (upM 1 gNil iC).1,O1 pg K4 cs3,u_ q2 (upM 2 gNil iC).1]:=h
 have h:=h.VC ByteArray M3
 have h:Rel B' w5 (lW pg ji0 ⟨⟨q0,q1,q2⟩,np⟩ cs3 (.slice none 0 0)++[]):=h.pick [3,1,2,4,0,5] (by decide)
 refine k _ _ _ ⟨pg,rfl,rfl⟩ (kC.close (g:=ji0) ⟨hs3,fun i hi=>?_,?_,?_⟩ h)
 ·rcases hi.cases with rfl | rfl | rfl
  ·exact e2.mem (by omega) (e1.mem (by omega) m0)
  ·exact e2.mem (by omega) m1
  ·exact m2
 ·rw[e2.2 _ (by omega),e1.2 _ (by omega),e0.2 _ (by omega)];exact h12
 ·rw[e2.2 _ (by omega),e1.2 _ (by omega),e0.2 _ (by omega)];exact h13
theorem Jl0:GOk ji0∧∀B:Base,bG ji0.mem B:=by
 have hd:DOk iC:=⟨fun _=>Nat.zero_le _,fun _=>Nat.zero_le _,(fun q hq=>by cases hq),List.nodup_nil,(show (0:Int)≤0∧(0:Int)≤9223372036854775807 by omega),(show (0:Int)≤0∧(0:Int)≤9223372036854775807 by omega)⟩
 refine⟨⟨fun i hi u hu=>?_,⟨Nat.zero_le _,(fun p hp=>by cases hp)⟩,Nat.zero_le _⟩,fun B i hi=>?_⟩
 ·rcases hi.cases with rfl | rfl | rfl
  ·exact Rr0 hi hd u hu
  ·exact Rr0 hi hd u hu
  ·exact Rr0 hi hd u hu
 ·rcases hi.cases with rfl | rfl | rfl
  ·show O4 (upM 0 gNil iC).1.kv (upM 0 gNil iC).1.d.keep B∧(upM 0 gNil iC).1.d.keep.length≤1000000
   rw[(cc0 0 gNil iC).1,(cc0 0 gNil iC).2]
   exact⟨BX,Nat.zero_le _⟩
  ·show O4 (upM 1 gNil iC).1.kv (upM 1 gNil iC).1.d.keep B∧(upM 1 gNil iC).1.d.keep.length≤1000000
   rw[(cc0 1 gNil iC).1,(cc0 1 gNil iC).2]
   exact⟨BX,Nat.zero_le _⟩
  ·show O4 (upM 2 gNil iC).1.kv (upM 2 gNil iC).1.d.keep B∧(upM 2 gNil iC).1.d.keep.length≤1000000
   rw[(cc0 2 gNil iC).1,(cc0 2 gNil iC).2]
   exact⟨BX,Nat.zero_le _⟩
end
abbrev PrD:=yD
structure Pr where
 id:Int
 epoch:Int
 next:Int
 last:List Int
abbrev Pr.raw(p:Pr)(v:SV):PrD:=⟨p.id,p.epoch,p.next,v⟩
abbrev PrL:=List (Pr×SV)
def o9(L:PrL):List PrD:=L.map fun p=>p.1.raw p.2
def IG(L:PrL):Dat:=Dat.all L fun p=>O4 p.2.1 p.1.last
abbrev prs(L:PrL):List Pr:=L.map (·.1)
def inP(n:Int):Prop:=0≤n∧n≤1099511627776
instance (n:Int):Decidable (inP n):=by unfold inP;infer_instance
structure KR (p:Pr):Prop where
 id:inP p.id
 epoch:inP p.epoch
 next:inP p.next
 len:(p.last.length:Int)=min p.next 20
 each:∀i (h:i<p.last.length),inP p.last[i]
 asc:∀i (h:i<p.last.length),0<i→p.last[i-1]<p.last[i]
structure DC (s:List Pr):Prop where
 fine:∀p∈s,KR p
 asc:∀i (h:i<s.length),0<i→s[i-1].id<s[i].id
 len:s.length≤50
open Classical in
noncomputable def Fn0(p:Pr):Bool:=decide (KR p)
open Classical in
noncomputable def Fb0(s:List Pr):Bool:=decide (DC s)
theorem yY{p:Pr}:Fn0 p=true↔KR p:=by simp [Fn0]
theorem Gn0{p:Pr}(h:¬KR p):Fn0 p=false:=by simp [Fn0,h]
theorem zW{s:List Pr}:Fb0 s=true↔DC s:=by simp [Fb0]
theorem Tl0{s:List Pr}(h:¬DC s):Fb0 s=false:=by simp [Fb0,h]
section
variable {B:Base} {w:World}
theorem uq0(n:Int):Gives prog B (Z0 qD #[.int .i64 n]) (.bool (decide (inP n))):=by
 refine Gives.intro fun B' w K base h k=>?_
 refine SS.up ?_
 unfold SS.pt
 simp -zeta only[FC,WC,K3]
 refine⟨fun h1=>?_,fun h1=>?_⟩
 ·have:decide (inP n)=decide (n≤1099511627776):=decide_eq_decide.2 ⟨fun h=>h.2,fun h=>⟨h1,h⟩⟩
  rw[this] at k
  exact k _ _ h
 ·rw[decide_eq_false (fun hh:inP n=>h1 hh.1)] at k
  exact k _ _ h
theorem DF0{p:Pr}{sv:SV}(r:O4 sv.1 p.last B)(hl:p.last.length≤4611686018427387904):Gives prog B (Z0 lQ #[(p.raw sv).v]) (.bool (Fn0 p)):=by
 refine Gives.intro fun B' w K base h k=>?_
 replace r:=base r
 refine EP.up ?_
 unfold EP.pt
 have no:∀w' τ,Rel B' w' τ→¬KR p→K (.bool false) w':=fun w' τ h hn=>by rw[Gn0 hn] at k;exact k _ _ h
 refine h.box fun b w1 h=>?_
 have h:Rel B' w1 [O1 b U2 (p.raw sv).cs.toArray]:=h
 simp -zeta only[U0 iF,U0 fI,U0 dL,U0 jF,Nat.add_zero,Nat.zero_add,h.ld 0 rfl Y2 (o:=0) rfl]
 refine h.ask (fun B2 own base2=>uq0 p.id) fun w2 h=>?_
 rw[V7,G5,K3]
 refine⟨fun c1=>?_,fun c1=>no _ _ h fun hh=>c1 hh.id⟩
 simp -zeta only[h.ld 0 rfl Y2 (o:=1) rfl]
 refine h.ask (fun B2 own base2=>uq0 p.epoch) fun w3 h=>?_
 rw[V7,G5,K3]
 refine⟨fun c2=>?_,fun c2=>no _ _ h fun hh=>c2 hh.epoch⟩
 simp -zeta only[h.ld 0 rfl Y2 (o:=2) rfl]
 refine h.ask (fun B2 own base2=>uq0 p.next) fun w4 h=>?_
 rw[V7,G5,K3]
 refine⟨fun c3=>?_,fun c3=>no _ _ h fun hh=>c3 hh.next⟩
 simp -zeta only[h.ld 0 rfl Y2 (o:=2) rfl,h.ld 0 rfl wF (o:=3) rfl,O4.len r N8,YK,Q7,G5,K3]
 refine⟨fun c4=>?_,fun c4=>no _ _ h fun hh=>c4 hh.len⟩
 refine F6 (fun x w'=>∃i:Nat,i≤p.last.length∧x=(.int .i64 i,())∧(∀j (hj:j<p.last.length),j<i→inP p.last[j]∧(0<j→p.last[j-1]<p.last[j]))∧Rel B' w' [O1 b U2 (p.raw sv).cs.toArray]) (fun x _=>p.last.length-(match x.1 with | .int _ n=>n.toNat | _=>0))
  ⟨0,Nat.zero_le _,rfl,fun j _ hj=>absurd hj (Nat.not_lt_zero j),h⟩ ?_
 clear h
 rintro x w5 ⟨i,hi,rfl,hin,h⟩ next hnext
 simp -zeta only[G6,K3]
 refine⟨fun hlt=>?_,fun hge=>?_⟩
 ·have hil:i<p.last.length:=by omega
  refine P6 fun J hJ=>?_
  replace hJ:inP p.last[i]→(0<i→p.last[i-1]<p.last[i])→∀w',Rel B' w' [O1 b U2 (p.raw sv).cs.toArray]→J () w':=by
   intro h1 h2 w' h
   refine hJ _ _ ?_
   rw[Z5,E5 (by omega) (by omega)]
   refine hnext _ _ ⟨i+1,hil,rfl,fun j hj hji=>?_,h⟩ (by simp only;omega)
   by_cases e:j=i
   ·subst e;exact⟨h1,h2⟩
   ·exact hin j hj (by omega)
  clear hnext
  obtain⟨q,q1,q2⟩:=O4.eZ r h N8 hil Y2 (x := .int .i64 p.last[i]) rfl
  rw[q1,q2]
  refine h.ask (fun B2 own base2=>uq0 p.last[i]) fun w6 h=>?_
  rw[V7,G5,K3]
  refine⟨fun c5=>?_,fun c5=>no _ _ h fun hh=>c5 (hh.each i hil)⟩
  simp -zeta only[x9,K3]
  refine⟨fun c6=>?_,fun c6=>hJ c5 (fun z=>absurd z (by omega)) _ h⟩
  have hw:IntKind.i64.wrap ((i:Int)-1)=((i-1:Nat):Int):=by rw[E5 (by omega) (by omega)];omega
  obtain⟨q',q3,q4⟩:=O4.eZ r h N8 (i:=i-1) (by omega) Y2 (x := .int .i64 (p.last[i-1]'(by omega))) rfl
  simp -zeta only[h.ld 0 rfl wF (o:=3) rfl,TB,hw,q3,q4,WC,K3]
  exact⟨fun c7=>no _ _ h fun hh=>by have:=hh.asc i hil (by omega);omega,fun c7=>hJ c5 (fun _=>by omega) _ h⟩
 ·have:KR p:=⟨c1,c2,c3,c4,fun j hj=>(hin j hj (by omega)).1,fun j hj=>(hin j hj (by omega)).2⟩
  rw[yY.2 this] at k
  exact k _ _ h
theorem WB0{v:Value}{L:PrL}(r:O4 v (o9 L) B)(q:IG L B)(hl:L.length≤4611686018427387904)(hq:∀p∈L,p.1.last.length≤4611686018427387904):Gives prog B (Z0 RO #[v]) (.bool (Fb0 (prs L))):=by
 refine Gives.intro fun B' w K base h k=>?_
 replace r:=base r
 replace q:=base q
 refine sO.up ?_
 unfold sO.pt
 have hal:(o9 L).length=L.length:=List.length_map ..
 have hpl:(prs L).length=L.length:=List.length_map ..
 have hget:∀i (h:i<L.length),(prs L)[i]'(by omega)=L[i].1:=fun i h=>by simp
 have no:∀w' τ,Rel B' w' τ→¬DC (prs L)→K (.bool false) w':=fun w' τ h hn=>by rw[Tl0 hn] at k;exact k _ _ h
 simp -zeta only[O4.len r I6]
 rw[hal]
 refine F6 (fun x w'=>∃i:Nat,i≤L.length∧x=(.int .i64 i,())∧(∀j (hj:j<L.length),j<i→KR L[j].1∧(0<j→(L[j-1]'(by omega)).1.id<L[j].1.id))∧Rel B' w' []) (fun x _=>L.length-(match x.1 with | .int _ n=>n.toNat | _=>0))
  ⟨0,Nat.zero_le _,rfl,fun j _ hj=>absurd hj (Nat.not_lt_zero j),h⟩ ?_
 clear h
 rintro x w1 ⟨i,hi,rfl,hin,h⟩ next hnext
 simp -zeta only[G6,K3]
 refine⟨fun hlt=>?_,fun hge=>?_⟩
 ·have hil:i<L.length:=by omega
  refine P6 fun J hJ=>?_
  replace hJ:KR L[i].1→(0<i→(L[i-1]'(by omega)).1.id<L[i].1.id)→∀w' τ,Rel B' w' τ→J () w':=by
   intro h1 h2 w' τ h
   refine hJ _ _ ?_
   rw[Z5,E5 (by omega) (by omega)]
   refine hnext _ _ ⟨i+1,hil,rfl,fun j hj hji=>?_,h.nil⟩ (by simp only;omega)
   by_cases e:j=i
   ·subst e;exact⟨h1,h2⟩
   ·exact hin j hj (by omega)
  clear hnext
  obtain⟨g,o,hx,hc⟩:=O4.idx r I6 (P:=prog) (i:=i) (by omega)
  have hel:(o9 L)[i]'(by omega)=L[i].1.raw L[i].2:=by simp [o9]
  rw[hel] at hc
  have hc:K6 g o (L[i].1.raw L[i].2).cs B':=hc
  have hrow:=q L[i] (List.getElem_mem hil)
  have hql:=hq L[i] (List.getElem_mem hil)
  simp -zeta only[hx,K6.r9 (h.L6 hc) X7 rfl]
  refine h.R8 (ds:=(L[i].1.raw L[i].2).cs.toArray) zF rfl X7 rfl (fun v hv=>Enc.one (L[i].1.raw L[i].2) v hv) fun b w4 h=>?_
  have h:=h.tick
  have h:Rel B' (tick w4) [O1 b U2 (L[i].1.raw L[i].2).cs.toArray]:=h
  rw[h.r9 0 rfl X7 rfl]
  refine h.ask (fun B2 own base2=>DF0 (p:=L[i].1) (sv:=L[i].2) (base2 hrow) hql) fun w5 h=>?_
  rw[V7,G5,R5]
  refine⟨fun c1=>?_,fun c1=>no _ _ h fun hh=>by
   have:=yY.2 (hh.fine L[i].1 (List.mem_map_of_mem (List.getElem_mem hil)))
   rw[this] at c1;cases c1⟩
  have c1:=yY.1 c1
  simp -zeta only[x9,K3]
  refine⟨fun c2=>?_,fun c2=>hJ c1 (fun z=>absurd z (by omega)) _ _ h⟩
  have hw:IntKind.i64.wrap ((i:Int)-1)=((i-1:Nat):Int):=by rw[E5 (by omega) (by omega)];omega
  obtain⟨g2,o2,hx2,hc2⟩:=O4.idx r I6 (P:=prog) (i:=i-1) (by omega)
  have hel2:(o9 L)[i-1]'(by omega)=(L[i-1]'(by omega)).1.raw (L[i-1]'(by omega)).2:=by simp [o9]
  rw[hel2] at hc2
  have hc2:K6 g2 o2 ((L[i-1]'(by omega)).1.raw (L[i-1]'(by omega)).2).cs B':=hc2
  simp -zeta only[U0 iF,Nat.add_zero,h.ld 0 rfl Y2 (o:=0) rfl,TB,hw,hx2,K6.ld0 (h.L6 hc2) Y2 rfl,WC,K3]
  refine⟨fun c3=>no _ _ h fun hh=>?_,fun c3=>hJ c1 (fun _=>by omega) _ _ h⟩
  have:=hh.asc i (by omega) (by omega)
  rw[hget _ hil,hget (i-1) (by omega)] at this
  omega
 ·rw[WC]
  have e:Fb0 (prs L)=decide ((L.length:Int)≤50):=by
   rw[Bool.eq_iff_iff,zW,decide_eq_true_iff]
   refine⟨fun hh=>by have:=hh.len;omega,fun hh=>⟨fun p hp=>?_,fun j hj h0=>?_,by omega⟩⟩
   ·obtain⟨x,hx,rfl⟩:=List.mem_map.1 hp
    obtain⟨j,hj,rfl⟩:=List.getElem_of_mem hx
    exact(hin j hj (by omega)).1
   ·rw[hget j (by omega),hget (j-1) (by omega)]
    exact(hin j (by omega) (by omega)).2 h0
  rw[e] at k
  exact k _ _ h
end
def ci0(id:Int)(p:Pr):Bool:=decide (p.id=id)
def PD(s:List Pr)(id:Int):Pr:=match s.find? (ci0 id) with
 | some p=>p
 | none=>⟨id,0,0,[]⟩
def xK(s:List Pr)(id:Int):Bool:=(s.find? (ci0 id)).isSome
theorem kW{s:List Pr}{id:Int}(h:xK s id=true):PD s id∈s∧(PD s id).id=id:=by
 unfold xK at h
 unfold PD
 cases hf:s.find? (ci0 id) with
 | none=>rw[hf] at h;cases h
 | some p =>
  have h1:=List.find?_some hf
  exact⟨List.mem_of_find?_eq_some hf,of_decide_eq_true h1⟩
theorem xR{s:List Pr}{id:Int}(h:xK s id=false):PD s id=⟨id,0,0,[]⟩∧∀p∈s,p.id≠id:=by
 unfold xK at h
 unfold PD
 cases hf:s.find? (ci0 id) with
 | none =>
  refine⟨rfl,fun p hp e=>?_⟩
  have:=List.find?_eq_none.1 hf p hp
  exact this (decide_eq_true e)
 | some p=>rw[hf] at h;cases h
theorem jv0{s:List Pr}{id:Int}(h:DC s)(hid:inP id):KR (PD s id)∧(PD s id).id=id:=by
 cases e:xK s id
 ·rw[(xR e).1]
  exact⟨⟨hid,(show inP 0 by decide),(show inP 0 by decide),rfl,fun i h=>absurd h (Nat.not_lt_zero i),fun i h=>absurd h (Nat.not_lt_zero i)⟩,rfl⟩
 ·exact⟨h.fine _ (kW e).1,(kW e).2⟩
theorem YU{s:List Pr}{id:Int}(h:DC s):0≤(PD s id).epoch∧(PD s id).epoch≤1099511627776∧0≤(PD s id).next∧(PD s id).next≤1099511627776∧(PD s id).last.length≤20:=by
 cases e:xK s id
 ·rw[(xR e).1]
  show (0:Int)≤0∧(0:Int)≤1099511627776∧(0:Int)≤0∧(0:Int)≤1099511627776∧(0:Nat)≤20
  decide
 ·have:=h.fine _ (kW e).1
  have h1:=this.epoch
  have h2:=this.next
  have h3:=this.len
  unfold inP at h1 h2
  omega
def okN(n:Int):Prop:=0≤n∧n<1099511627776
instance (n:Int):Decidable (okN n):=by unfold okN;infer_instance
def nO(s:List Pr)(id e q:Int):Int×Int :=
 if ¬(okN id∧okN e∧okN q) then(0,1) else if e<(PD s id).epoch then(0,18) else if(PD s id).epoch<e then(0,25) else if(PD s id).next<q then(0,19)
 else if xK s id=false∧50≤s.length then(0,6) else if q=(PD s id).next then(0,0)
 else if 0≤(PD s id).last.length-((PD s id).next-q) then((PD s id).last.getD (((PD s id).last.length:Int)-((PD s id).next-q)).toNat 0,5) else(-1,5)
theorem Ri0{α:Type}(p:α→Bool)(l:List α):(jO p l = -1∧∀x∈l,p x=false)∨∃i:Nat,jO p l=i∧∃hi:i<l.length,p l[i]=true∧∀x∈l.take i,p x=false:=by
 unfold jO
 split
 ·rename_i i hi
  obtain⟨h1,h2,h3⟩:=List.findIdx?_eq_some_iff_getElem.1 hi
  refine .inr ⟨i,rfl,h1,h2,fun x hx=>?_⟩
  obtain⟨j,hj,rfl⟩:=List.getElem_of_mem hx
  have:=h3 j (by simp at hj;omega)
  simp at this ⊢
  exact this
 ·rename_i h
  exact .inl ⟨rfl,List.findIdx?_eq_none_iff.1 h⟩
theorem wC0{s:List Pr}{id:Int}{i:Nat}(hi:i<s.length)(h:ci0 id s[i]=true)(hno:∀x∈s.take i,ci0 id x=false):s.find? (ci0 id)=some s[i]:=by
 rw[List.find?_eq_some_iff_getElem]
 refine⟨h,i,hi,rfl,fun j hj=>?_⟩
 have:=hno s[j] (List.mem_take_iff_getElem.2 ⟨j,by omega,rfl⟩)
 simp [this]
def fD:SV:=⟨.slice none 0 0,rfl⟩
section
variable {B:Base} {w:World}
theorem Vs0{b:Nat}{id:Int}(hc:O1 b Q0 #[.int .i64 id] B)(x:PrD):Gives prog B (dA (.func (.func pG) #[] #[ptr b]) #[Enc.val x]) (.bool (decide (x.id=id))):=by
 refine Gives.intro fun B' w K base h k=>?_
 replace hc:=base hc
 refine YH ?_
 refine UB.up (p0:=x.v) (t1:=ptr b) (UB.call ?_)
 unfold UB.pt
 refine h.box fun b2 w1 h=>?_
 have h:Rel B' w1 [O1 b2 U2 x.cs.toArray]:=h
 simp -zeta only[U0 iF,Nat.add_zero,h.ld 0 rfl Y2 (o:=0) rfl,O1.ld (h.L6 hc) Y2 (o:=0) rfl,F7]
 exact k _ _ h
theorem jq0{v:Value}{L:PrL}(r:O4 v (o9 L) B)(q:IG L B)(hl:L.length≤4611686018427387904)(id:Int) :
  ∃sv:SV,O4 sv.1 (PD (prs L) id).last B∧Gives prog B (Z0 jJ #[v,.int .i64 id]) (.tuple #[((PD (prs L) id).raw sv).v,.bool (xK (prs L) id)]):=by
 have hal:(o9 L).length=L.length:=List.length_map ..
 have hpl:(prs L).length=L.length:=List.length_map ..
 rcases Ri0 (fun x:PrD=>decide (x.id=id)) (o9 L) with⟨hi,hno⟩ | ⟨i,hi,hil,hat,hno⟩
 ·have hh:xK (prs L) id=false:=by
   unfold xK
   have:(prs L).find? (ci0 id)=none:=List.find?_eq_none.2 fun p hp=>by
    obtain⟨x,hx,rfl⟩:=List.mem_map.1 hp
    have:=hno (x.1.raw x.2) (List.mem_map_of_mem hx)
    simpa [ci0] using this
   rw[this];rfl
  refine⟨fD,?_,?_⟩
  ·rw[(xR hh).1];exact⟨none,0,rfl,Nat.le_refl _,.inl rfl⟩
  ·rw[(xR hh).1,hh]
   refine Gives.intro fun B' w K base h k=>?_
   replace r:=base r
   refine uJ.up ?_
   unfold uJ.pt
   refine h.box fun b w1 h=>?_
   have h:Rel B' w1 [O1 b Q0 #[.int .i64 id]]:=h
   refine h.alloc zF fun o w2 h=>?_
   simp -zeta only[TI]
   refine h.ask (fun B2 own base2=>XB (base2 r) (by omega) (fun x=>decide (x.id=id)) fun B3 base3 x _=>Vs0 (base3 (own (i:=0) rfl)) x) fun w3 h=>?_
   rw[hi]
   have h:Rel B' w3 [O1 b Q0 #[.int .i64 id],O1 o U2 #[.int .i64 0,.int .i64 0,.int .i64 0,.slice none 0 0]]:=h
   simp -zeta only[G6,K3,h.ld 0 rfl Y2 (o:=0) rfl,fZ]
   refine⟨fun _=>?_,fun hh=>absurd (by decide) hh⟩
   refine h.YG 1 (ds:=(⟨id,0,0,fD⟩:PrD).cs.toArray) rfl X7 rfl rfl (fun v hv=>Enc.one (⟨id,0,0,fD⟩:PrD) v hv) fun w4 h=>?_
   rw[qJ h 1 rfl X7 rfl]
   exact k _ _ h
 ·have hil':i<L.length:=by omega
  have hel:(o9 L)[i]=L[i].1.raw L[i].2:=by simp [o9]
  have hgp:(prs L).find? (ci0 id)=some L[i].1:=by
   have:=wC0 (s:=prs L) (id:=id) (i:=i) (by omega) (by
    have e:(prs L)[i]'(by omega)=L[i].1:=by simp
    rw[e]
    rw[hel] at hat
    exact hat) fun x hx=>by
     have:x∈(L.take i).map (·.1):=by rw[List.map_take];exact hx
     obtain⟨y,hy,rfl⟩:=List.mem_map.1 this
     have hm:y.1.raw y.2∈(o9 L).take i:=by
      unfold o9
      rw[←List.map_take]
      exact List.mem_map_of_mem hy
     exact hno _ hm
   rw[this]
   simp
  have hg:PD (prs L) id=L[i].1:=by unfold PD;rw[hgp]
  have hh:xK (prs L) id=true:=by unfold xK;rw[hgp];rfl
  refine⟨L[i].2,by rw[hg];exact q L[i] (List.getElem_mem hil'),?_⟩
  rw[hg,hh]
  refine Gives.intro fun B' w K base h k=>?_
  replace r:=base r
  refine uJ.up ?_
  unfold uJ.pt
  refine h.box fun b w1 h=>?_
  have h:Rel B' w1 [O1 b Q0 #[.int .i64 id]]:=h
  refine h.alloc zF fun o w2 h=>?_
  simp -zeta only[TI]
  refine h.ask (fun B2 own base2=>XB (base2 r) (by omega) (fun x=>decide (x.id=id)) fun B3 base3 x _=>Vs0 (base3 (own (i:=0) rfl)) x) fun w3 h=>?_
  rw[hi]
  have h:Rel B' w3 [O1 b Q0 #[.int .i64 id],O1 o U2 #[.int .i64 0,.int .i64 0,.int .i64 0,.slice none 0 0]]:=h
  obtain⟨g,oo,hx,hc⟩:=O4.idx r I6 (P:=prog) (i:=i) (by omega)
  rw[hel] at hc
  have hc:K6 g oo (L[i].1.raw L[i].2).cs B':=hc
  simp -zeta only[G6,K3,hx,K6.r9 (h.L6 hc) X7 rfl]
  refine⟨fun hh=>absurd hh (by omega),fun _=>?_⟩
  refine h.YG 1 (ds:=(L[i].1.raw L[i].2).cs.toArray) rfl X7 rfl rfl (fun v hv=>Enc.one (L[i].1.raw L[i].2) v hv) fun w4 h=>?_
  rw[qJ h 1 rfl X7 rfl]
  exact k _ _ h
theorem Vw0{v:Value}{L:PrL}(r:O4 v (o9 L) B)(q:IG L B)(hR:DC (prs L))(en:xD):Gives prog B (Z0 xM #[v,en.v]) (.tuple #[.int .i64 (nO (prs L) en.producer en.epoch en.seq).1,.int .i64 (nO (prs L) en.producer en.epoch en.seq).2]):=by
 refine Gives.intro fun B' w K base h k=>?_
 replace r:=base r
 replace q:=base q
 have hal:(o9 L).length=L.length:=List.length_map ..
 have hpl:(prs L).length=L.length:=List.length_map ..
 have hlen:=hR.len
 refine BP.up ?_
 unfold BP.pt
 refine h.box fun b w1 h=>?_
 have h:Rel B' w1 [O1 b U1 en.cs.toArray]:=h
 have fin:∀(x:Int×Int) w' τ,nO (prs L) en.producer en.epoch en.seq=x→Rel B' w' τ→K (.tuple #[.int .i64 x.1,.int .i64 x.2]) w':=fun x w' τ e h=>by rw[e] at k;exact k _ _ h
 clear k
 simp -zeta only[U0 jM,U0 zT,U0 DT,Nat.add_zero,Nat.zero_add,h.ld 0 rfl Y2 (o:=1) rfl,h.ld 0 rfl Y2 (o:=2) rfl,h.ld 0 rfl Y2 (o:=3) rfl]
 refine h.NV (α:=Int) [en.producer,en.epoch,en.seq] N8 fun u w2 h=>?_
 have h:Rel B' w2 [O1 b U1 en.cs.toArray,Y3 Q0 u ([en.producer,en.epoch,en.seq]:List Int)]:=h
 have hu:=Y3.read (h.here (i:=1) rfl)
 simp -zeta only[O4.len hu N8]
 clear hu
 refine F6 (fun x w'=>∃i:Nat,i≤3∧x=(.int .i64 i,())∧(∀j (hj:j<3),j<i→okN ([en.producer,en.epoch,en.seq]:List Int)[j])∧Rel B' w' [O1 b U1 en.cs.toArray,Y3 Q0 u ([en.producer,en.epoch,en.seq]:List Int)]) (fun x _=>3-(match x.1 with | .int _ n=>n.toNat | _=>0))
  ⟨0,Nat.zero_le _,rfl,fun j _ hj=>absurd hj (Nat.not_lt_zero j),h⟩ ?_
 clear h
 rintro x w3 ⟨i,hi,rfl,hin,h⟩ next hnext
 simp -zeta only[List.length_cons,List.length_nil,G6,K3]
 refine⟨fun hlt=>?_,fun hge=>?_⟩
 ·have hil:i<3:=by omega
  have hu:=Y3.read (h.here (i:=1) rfl)
  have hu:O4 u ([en.producer,en.epoch,en.seq]:List Int) ⟨w3,fun _=>True⟩:=hu
  have hbad:¬okN (([en.producer,en.epoch,en.seq]:List Int)[i])→¬(okN en.producer∧okN en.epoch∧okN en.seq):=fun hb hh=>by
   have:i=0∨i=1∨i=2:=by omega
   rcases this with rfl | rfl | rfl
   ·exact hb hh.1
   ·exact hb hh.2.1
   ·exact hb hh.2.2
  obtain⟨g,o,hx,hc⟩:=O4.idx hu N8 (P:=prog) (i:=i) hil
  have hc:(K6 g o [.int .i64 ([en.producer,en.epoch,en.seq]:List Int)[i]]).here w3:=hc
  rw[hx,K6.ld0 hc Y2 rfl]
  refine h.ask (fun B2 own base2=>uq0 _) fun w4 h=>?_
  rw[V7,G5,K3]
  refine⟨fun c1=>?_,fun c1=>fin (0,1) _ _ (by unfold nO;rw[if_pos (hbad fun hh=>c1 ⟨hh.1,by have:=hh.2;omega⟩)]) h⟩
  simp -zeta only[F7,K3]
  refine⟨fun c2=>fin (0,1) _ _ (by unfold nO;rw[if_pos (hbad fun hh=>by have:=hh.2;omega)]) h,fun c2=>?_⟩
  rw[Z5,E5 (by omega) (by omega)]
  refine hnext _ _ ⟨i+1,hil,rfl,fun j hj hji=>?_,h⟩ (by simp only;omega)
  by_cases e:j=i
  ·subst e
   exact⟨c1.1,by have:=c1.2;omega⟩
  ·exact hin j hj (by omega)
 ·have h3:okN en.producer∧okN en.epoch∧okN en.seq:=⟨hin 0 (by decide) (by omega),hin 1 (by decide) (by omega),hin 2 (by decide) (by omega)⟩
  clear hnext hin hge
  have hq0:0≤en.seq∧en.seq<1099511627776:=h3.2.2
  unfold nO at fin
  rw[if_neg (fun hh=>hh h3)] at fin
  simp -zeta only[h.ld 0 rfl Y2 (o:=1) rfl]
  obtain⟨sv,hsv,hfind⟩:=jq0 r q (by omega) en.producer
  refine hfind _ _ _ h fun w5 h=>?_
  simp -zeta only[M9,D9]
  have hsm:=YU hR (id:=en.producer)
  generalize PD (prs L) en.producer=p at *
  refine h.R8 (ds:=(p.raw sv).cs.toArray) zF rfl X7 rfl (fun v hv=>Enc.one (p.raw sv) v hv) fun o w7 h=>?_
  have h:Rel B' w7 [O1 b U1 en.cs.toArray,Y3 Q0 u ([en.producer,en.epoch,en.seq]:List Int),O1 o U2 (p.raw sv).cs.toArray]:=h
  simp -zeta only[U0 fI,U0 dL,U0 jF,Nat.zero_add]
  refine P6 fun J hJ=>?_
  replace hJ:¬en.epoch<p.epoch→¬p.epoch<en.epoch→¬p.next<en.seq→¬(xK (prs L) en.producer=false∧50≤(prs L).length)→¬en.seq=p.next→J () w7:=by
   intro c1 c2 c3 c4 c5
   refine hJ _ _ ?_
   clear hJ
   rw[if_neg c1,if_neg c2,if_neg c3,if_neg c4,if_neg c5] at fin
   have hw1:IntKind.i64.wrap (p.next-en.seq)=p.next-en.seq:=E5 (by omega) (by omega)
   have hw2:IntKind.i64.wrap ((p.last.length:Int)-(p.next-en.seq))=(p.last.length:Int)-(p.next-en.seq):=E5 (by omega) (by omega)
   simp -zeta only[h.ld 2 rfl wF (o:=3) rfl,h.ld 2 rfl Y2 (o:=2) rfl,h.ld 0 rfl Y2 (o:=3) rfl,O4.len hsv N8,TB,hw1,hw2,FC,K3]
   refine⟨fun c6=>?_,fun c6=>fin (-1,5) _ _ (by rw[if_neg c6]) h⟩
   obtain⟨m,hm⟩:∃m:Nat,(p.last.length:Int)-(p.next-en.seq)=m:=⟨((p.last.length:Int)-(p.next-en.seq)).toNat,by omega⟩
   rw[if_pos c6,hm] at fin
   rw[hm]
   have hml:m<p.last.length:=by omega
   obtain⟨a,q1,q2⟩:=O4.eZ hsv h N8 hml Y2 (x := .int .i64 p.last[m]) rfl
   rw[q1,q2]
   refine fin (p.last[m],5) _ _ ?_ h
   rw[Int.toNat_natCast,List.getD_eq_getElem?_getD,List.getElem?_eq_getElem hml]
   rfl
  simp -zeta only[h.ld 2 rfl Y2 (o:=1) rfl,h.ld 2 rfl Y2 (o:=2) rfl,h.ld 0 rfl Y2 (o:=2) rfl,h.ld 0 rfl Y2 (o:=3) rfl,G6,x9,F7,K3]
  refine⟨fun c1=>fin (0,18) _ _ (by rw[if_pos c1]) h,fun c1=>⟨fun c2=>fin (0,25) _ _ (by rw[if_neg c1,if_pos c2]) h,fun c2=>⟨fun c3=>fin (0,19) _ _ (by rw[if_neg c1,if_neg c2,if_pos c3]) h,fun c3=>?_⟩⟩⟩
  rw[V7,G5,R5]
  refine⟨fun c4=>?_,fun c4=>?_⟩
  ·have c4':¬(xK (prs L) en.producer=false∧50≤(prs L).length):=fun hh=>by rw[c4] at hh;cases hh.1
   exact⟨fun c5=>fin (0,0) _ _ (by rw[if_neg c1,if_neg c2,if_neg c3,if_neg c4',if_pos c5]) h,fun c5=>hJ c1 c2 c3 c4' c5⟩
  ·simp -zeta only[O4.len r I6,FC,K3]
   refine⟨fun c5=>fin (0,6) _ _ (by rw[if_neg c1,if_neg c2,if_neg c3,if_pos ⟨c4,by omega⟩]) h,fun c5=>?_⟩
   have c4':¬(xK (prs L) en.producer=false∧50≤(prs L).length):=fun hh=>c5 (by omega)
   exact⟨fun c6=>fin (0,0) _ _ (by rw[if_neg c1,if_neg c2,if_neg c3,if_neg c4',if_pos c6]) h,fun c6=>hJ c1 c2 c3 c4' c6⟩
end
end Go.Proofs.YtngbebnhegcokaaGreatDoor
namespace Go.Proofs.YtngbebnhegcokaaGreatDoor
open Go.Proofs.Tryz (prog)
open Go.RowKit
section
variable {α:Type} [Enc α] {P:Program} {K:PtK} {w:World} {T E:TypeId} {by_:Nat} {c:Nat→Nat} {t u:Nat}
theorem Nv0{m n:Nat}(x:α)(hT:sliceB P T E (Enc.sz α) by_=true)(hx:((P.info? E).bind (·.zero)).map (·.cells)=some (Enc.cells x).toArray)(hmn:m≤n)(hn:n * by_≤140737488355328)(hn1:n≤140737488355328)
  (k:∀c' g w',Step nobody c w c' w'→YB c' t w' E (.slice (some ⟨g,0,none⟩) m n) (List.replicate m x)→K (.slice (some ⟨g,0,none⟩) m n) w'):upK P (uM T (.int .i64 m) (.int .i64 n)) w K:=by
 obtain⟨hu,i,z,hinfo,hz,hs,hby,hzs⟩:=t_ hT
 have hzc:z.cells=(Enc.cells x).toArray:=by simpa [hinfo,hz] using hx
 have hw:IntKind.wrap .i64 (n:Int)=n:=IntWalk.i64_in _ (by omega)
 have hwm:IntKind.wrap .i64 (m:Int)=m:=IntWalk.i64_in _ (by omega)
 have h1:¬((n:Int)<0):=by omega
 have h1m:¬((m:Int)<0):=by omega
 have hmn':¬((n:Int)<(m:Int)):=by omega
 have hm:by_ * n≤140737488355328:=by rw[Nat.mul_comm];exact hn
 have hmm:by_ * m≤140737488355328:=Nat.le_trans (Nat.mul_le_mul_left _ hmn) hm
 have h2:¬((281474976710656:Int)<(by_:Int) * (n:Int)):=by
  have:((by_ * n:Nat):Int)≤140737488355328:=by omega
  rw[Int.natCast_mul] at this
  omega
 have h2m:¬((281474976710656:Int)<(by_:Int) * (m:Int)):=by
  have:((by_ * m:Nat):Int)≤140737488355328:=by omega
  rw[Int.natCast_mul] at this
  omega
 have h3:¬(140737488355328<n * by_):=by omega
 have hcells:∀z0:Array Value,(n=0→z0=#[])→(n≠0→z0=z.cells)→((Array.range (n * Enc.sz α)).map (z0[· % z0.size]!)).toList=flat (List.replicate n x):=by
  intro z0 _ hz1
  by_cases hn0:n=0
  ·subst hn0;simp [flat]
  ·rw[hz1 hn0]
   apply List.ext_getElem?
   intro j
   by_cases hj:j<n * Enc.sz α
   ·have hp:0<Enc.sz α:=Enc.pos
    have hq:j / Enc.sz α<n:=Nat.div_lt_of_lt_mul (by rw[Nat.mul_comm];exact hj)
    have hr:j % Enc.sz α<Enc.sz α:=Nat.mod_lt _ hp
    have:=flat_get (l:=List.replicate n x) (i:=j / Enc.sz α) (by simpa using hq) (f:=j % Enc.sz α) (v:=(Enc.cells x)[j % Enc.sz α]'(by rw[Enc.len];exact hr)) (by simp)
    rw[Nat.mul_comm (j / Enc.sz α),Nat.div_add_mod] at this
    rw[this]
    simp [hj,hzs,hzc,Enc.len]
    rw[List.getElem?_eq_getElem (by rw[Enc.len];exact hr)]
    rfl
   ·rw[List.getElem?_eq_none (by simp;omega),List.getElem?_eq_none (by rw[N7];simp;omega)]
 have hrun:∃cur:Array Value,cur.toList=flat (List.replicate n x)∧(Instr.makeSlice T (.int .i64 m) (.int .i64 n)).run P w = .ok (.slice (some ⟨w.heap.size,0,none⟩) m n) (w.alloc (.cells cur E)):=by
  by_cases hn0:n=0
  ·subst hn0
   obtain rfl:m=0:=by omega
   refine⟨_,hcells #[] (fun _=>rfl) (fun h=>absurd rfl h),?_⟩
   simp [Instr.makeSlice,run_underlying hu,asInt,asIntOf,typeInfo,hinfo,hby,show IntKind.wrap .i64 0=0 from rfl,askRoom,roomBytes,sizeOf,hs,newRow]
  ·refine⟨_,hcells z.cells (fun h=>absurd h hn0) (fun _=>rfl),?_⟩
   simp [Instr.makeSlice,run_underlying hu,asInt,asIntOf,typeInfo,hinfo,hby,hw,hwm,h1,h1m,h2,h2m,h3,hmn',hmn,askRoom,roomBytes,sizeOf,hs,newRow,hn0,zeroValue,hz,Nat.ne_of_gt (Enc.pos (α:=α))]
   intro h
   rcases Nat.mul_eq_zero.1 h with h | h
   ·exact absurd h hn0
   ·exact absurd h (Nat.ne_of_gt Enc.pos)
 obtain⟨cur,hc,hrun⟩:=hrun
 have hb:=Blk.alloc (n:=t) c w E cur
 have hcs:cur.size=n * Enc.sz α:=by rw[←Array.length_toList,hc,N7];simp
 refine vC (X9 hrun) (k (WF c w.heap.size t) _ _ (Step.alloc nobody c w t _) (YB.mk_ hb (by simp) hmn (by unfold maxLen;omega) hcs ?_))
 rw[hc,oF,List.take_replicate,Nat.min_eq_left hmn]
end
section
variable {α:Type} [Enc α] {P:Program} {K:PtK} {B:Base} {w:World} {σ:List Dat} {T E:TypeId} {by_:Nat} {l:List α} {v:Value}
theorem Rel.Dz0(h:Rel B w σ){n:Nat}(x:α)(hT:sliceB P T E (Enc.sz α) by_=true)(hx:((P.info? E).bind (·.zero)).map (·.cells)=some (Enc.cells x).toArray)(hn:n * by_≤140737488355328)(hn1:n≤140737488355328)
  (k:∀g w',Rel B w' (σ++[Y3 E (.slice (some ⟨g,0,none⟩) n n) (List.replicate n x)])→K (.slice (some ⟨g,0,none⟩) n n) w'):upK P (uM T (.int .i64 n) (.int .i64 n)) w K:=by
 obtain⟨c,h⟩:=h
 exact Nv0 (c:=c) (t:=σ.length+1) x hT hx (Nat.le_refl _) hn hn1 fun c' g w' st hr=>k g w' ⟨c',h.push st hr.Y3⟩
end
section
variable {α:Type} [Enc α] {P:Program} {K:PtK} {w:World} {T E:TypeId} {by_:Nat} {c:Nat→Nat} {t u:Nat}
theorem Dh0(x:α)(n:Nat):(Builtin.zeroCells (Enc.cells x).toArray n).toList=flat (List.replicate n x):=by
 unfold Builtin.zeroCells
 apply List.ext_getElem?
 intro j
 have hl:(Enc.cells x).toArray.size=Enc.sz α:=by simp [Enc.len]
 by_cases hj:j<n * Enc.sz α
 ·have hp:0<Enc.sz α:=Enc.pos
  have hq:j / Enc.sz α<n:=Nat.div_lt_of_lt_mul (by rw[Nat.mul_comm];exact hj)
  have hr:j % Enc.sz α<Enc.sz α:=Nat.mod_lt _ hp
  have:=flat_get (l:=List.replicate n x) (i:=j / Enc.sz α) (by simpa using hq) (f:=j % Enc.sz α) (v:=(Enc.cells x)[j % Enc.sz α]'(by rw[Enc.len];exact hr)) (by simp)
  rw[Nat.mul_comm (j / Enc.sz α),Nat.div_add_mod] at this
  rw[this]
  simp [hj,Enc.len]
  try (rw[List.getElem?_eq_getElem (by rw[Enc.len];exact hr)];rfl)
 ·rw[List.getElem?_eq_none (by simp [Enc.len];omega),List.getElem?_eq_none (by rw[N7];simp;omega)]
theorem nk0{v:Value}{l:List α}{Tn:TypeId}(hT:sliceB P T E (Enc.sz α) by_=true)(hTn:P.underlying Tn=some (.int .i64)){a:Option Addr}{cap:Nat}(hv:v = .slice a l.length cap)(h1:ZM c u w v l)(x:α)
  (hx:((P.info? E).bind (·.zero)).map (·.cells)=some (Enc.cells x).toArray) {m:Nat} (h0:0<m) (hcap:cap<l.length+m)
  (hbytes:(l.length+m) * by_≤140737488355328) (h63:l.length+m≤140737488355328) {U:TypeId} {bs:Array Bool}
  (k:∀c' g cp w',l.length+m≤cp→Step nobody c w c' w'→YB c' t w' E (.slice (some ⟨g,0,none⟩) (l.length+m) cp) (l++List.replicate m x)→K (.slice (some ⟨g,0,none⟩) (l.length+m) cp) w'):upK P (M5 .append #[T,Tn] U bs #[v,.int .i64 m]) w K:=by
 obtain⟨hu,i,z,hinfo,hz,hs,hby,hzs⟩:=t_ hT
 have hzc:z.cells=(Enc.cells x).toArray:=by simpa [hinfo,hz] using hx
 subst hv
 have hn:¬(l.length+m≤cap):=by omega
 have hm0:m≠0:=by omega
 have h63':¬(9223372036854775807<((l.length:Int)+(m:Int))):=by omega
 have h48:Builtin.nextslicecap (l.length+m) cap * by_≤281474976710656:=growslice_fits (by omega) hbytes
 have h48':¬(281474976710656<Builtin.nextslicecap (l.length+m) cap * by_):=by omega
 have hge:=grownCap_ge w (l.length+m) cap E
 have hmx:=grownCap_le_maxLen w (l.length+m) cap E (by unfold maxLen;omega)
 have hw:IntKind.i64.wrap (m:Int)=m:=IntWalk.i64_in _ (by omega)
 have hneg:¬((m:Int)<0):=by omega
 have hmb:m * by_≤140737488355328:=Nat.le_trans (Nat.mul_le_mul_right _ (by omega)) hbytes
 have h48i:¬(281474976710656<(m:Int) * (by_:Int)):=by
  rw[←Int.natCast_mul]
  omega
 have hrun:(Builtin.append_ #[T,Tn] U #[.slice a l.length cap,.int .i64 m]).run P w =
   .ok (.slice (some ⟨w.heap.size,0,none⟩) (l.length+m) (grownCap w (l.length+m) cap E))
    (w.drew.alloc (.cells ((flat l).toArray++Builtin.zeroCells z.cells m++Builtin.zeroCells z.cells (grownCap w (l.length+m) cap E-(l.length+m))) E)):=by
  have f1:=(h1.tick).first (P:=P)
  rw[iu0] at f1
  simp [Builtin.append_,run_underlying hu,run_underlying hTn,sizeOf,typeInfo,zeroValue,hinfo,hz,hs,asInt,asIntOf,hw,hm0,hneg,hn,h63',hby,h48',h48i,f1,grownCap,Question.forced,newRow]
  intro hz0
  exact absurd hz0 (Nat.mul_ne_zero hm0 (Nat.ne_of_gt Enc.pos))
 refine vC (X9 hrun) (k (WF c w.heap.size t) _ _ _ hge ?_ ?_)
 ·exact(Step.tick nobody c w).trans (Step.alloc nobody c w.drew t _)
 ·have hl:(l++List.replicate m x).length=l.length+m:=by simp
  refine⟨⟨by rw[N7],.inr ⟨w.heap.size,_,_,by rw[hl],Nat.zero_le _,heap_alloc_new w.drew _,by rw[hl];exact hge,hmx,?_,?_⟩⟩,fun g hg=>?_⟩
  ·simp only[Array.size_append,List.size_toArray,size_zeroCells,hzs,N7,←Nat.add_mul]
   congr 1
   omega
  ·simp only[Array.toList_append,List.append_assoc]
   rw[hzc,Dh0,←List.append_assoc,←dF]
   rw[←N7]
   exact List.take_left
  ·simp [Value.ownBlock] at hg
   subst hg
   simp [WF]
end
section
variable {α:Type} [Enc α] {P:Program} {K:PtK} {Kp:Value→Prop} {B:Base} {w:World} {σ:List Dat} {T E:TypeId} {by_:Nat} {l:List α} {v:Value}
theorem Cu0{U S E:TypeId}{bs:Array Bool}{x:Option Addr}{n c:Nat}(h:P.underlying S=some (.slice E)) :
  Y0 P (M5 .cap #[S] U bs #[.slice x n c]) w Kp=Kp (.int .i64 c):=bQ (X9 (by
 simp [Builtin.cap_,run_underlying h,goInt]))
theorem Rel.Im0(h:Rel B w σ){Tn:TypeId}(hT:sliceB P T E (Enc.sz α) by_=true)(hTn:P.underlying Tn=some (.int .i64)){a:Option Addr}{cap:Nat}(hv:v = .slice a l.length cap)(r:Rd B σ [] v l)(x:α)
  (hx:((P.info? E).bind (·.zero)).map (·.cells)=some (Enc.cells x).toArray) {m:Nat} (h0:0<m) (hcap:cap<l.length+m)
  (hbytes:(l.length+m) * by_≤140737488355328) (h63:l.length+m≤140737488355328) {U:TypeId} {bs:Array Bool}
  (k:∀g cp w',l.length+m≤cp→Rel B w' (σ++[Y3 E (.slice (some ⟨g,0,none⟩) (l.length+m) cp) (l++List.replicate m x)])→K (.slice (some ⟨g,0,none⟩) (l.length+m) cp) w'):upK P (M5 .append #[T,Tn] U bs #[v,.int .i64 m]) w K:=by
 obtain⟨c,h⟩:=h
 obtain⟨u1,r1⟩:=h.rds r
 exact nk0 (c:=c) (t:=σ.length+1) hT hTn hv r1 x hx h0 hcap hbytes h63 fun c' g cp w' hc st hr=>k g cp w' hc ⟨c',h.push st hr.Y3⟩
end
end Go.Proofs.YtngbebnhegcokaaGreatDoor
namespace Go.Proofs.YtngbebnhegcokaaGreatDoor
open Go.Proofs.Tryz (prog)
open Go.RowKit
set_option maxRecDepth 100000
theorem O4.cells{α:Type}[Enc α]{B:Base}{l:List α}{g n cap:Nat}(h:O4 (.slice (some ⟨g,0,none⟩) n cap) l B){i:Nat}(hi:i<l.length):K6 g (i * Enc.sz α) (Enc.cells l[i]) B:=by
 obtain⟨a,cap',e,hc,h⟩:=h
 rcases h with rfl | ⟨g',o',ha,h1,h2,h3⟩
 ·simp at hi
 ·subst ha
  injection e with e1 e2 e3
  injection e1 with e1
  injection e1 with e1 e4 e5
  subst e1 e4
  refine⟨h1,h2,fun j u hj=>?_⟩
  have:=h3 _ _ (flat_get hi hj)
  rw[Nat.zero_add] at this
  exact this
def Gt0(p:Pr×SV):Dat:=Y3 Q0 p.2.1 p.1.last
section
variable {B:Base} {w:World}
theorem rs0{v:Value}{L:PrL}(r:O4 v (o9 L) B)(q:IG L B)(hl:L.length≤1000000)(hq:∀p∈L,p.1.last.length≤1000000) :
  Makes prog B (Z0 gD #[v]) fun u τ=>∃(g:Nat) (L':PrL),prs L'=prs L∧u = .slice (some ⟨g,0,none⟩) L'.length L'.length∧τ=[Y3 U2 u (o9 L'),IG L']:=by
 refine Makes.intro fun B' w K base h k=>?_
 replace r:=base r
 replace q:=base q
 have hal:∀L:PrL,(o9 L).length=L.length:=fun L=>List.length_map ..
 refine tO.up ?_
 unfold tO.pt
 simp -zeta only[O4.len r I6]
 rw[hal]
 refine h.Dz0 (⟨0,0,0,fD⟩:PrD) I6 (by kernel_rfl) (by omega) (by omega) fun g w1 h=>?_
 refine h.kZ 0 (l2:=o9 L) (n:=L.length) (lo:=0) rfl I6 (Rd.base r) (Nat.zero_le _) (.inl (by rw[Nat.zero_mul])) fun w2 h=>?_
 have e0:(List.replicate L.length (⟨0,0,0,fD⟩:PrD)).take 0++(o9 L).take ((List.replicate L.length (⟨0,0,0,fD⟩:PrD)).length-0)++(List.replicate L.length (⟨0,0,0,fD⟩:PrD)).drop (0+((o9 L).take ((List.replicate L.length (⟨0,0,0,fD⟩:PrD)).length-0)).length)=o9 L:=by
  have e1:(o9 L).take ((List.replicate L.length (⟨0,0,0,fD⟩:PrD)).length-0)=o9 L:=List.take_of_length_le (by rw[hal];simp)
  rw[e1,List.take_zero,List.nil_append,List.drop_of_length_le (by rw[hal];simp),List.append_nil]
 have h:Rel B' w2 [Y3 U2 (.slice (some ⟨g,0,none⟩) L.length L.length) ((List.replicate L.length (⟨0,0,0,fD⟩:PrD)).take 0++(o9 L).take ((List.replicate L.length (⟨0,0,0,fD⟩:PrD)).length-0)++(List.replicate L.length (⟨0,0,0,fD⟩:PrD)).drop (0+((o9 L).take ((List.replicate L.length (⟨0,0,0,fD⟩:PrD)).length-0)).length))]:=h
 rw[e0] at h
 have hr:=Y3.read (h.here (i:=0) rfl)
 simp -zeta only[O4.len hr I6]
 rw[hal]
 clear hr e0
 refine F6 (fun x w'=>∃(i:Nat) (L':PrL),i≤L.length∧L'.length=i∧prs L'=(prs L).take i∧x=(.int .i64 i,())∧Rel B' w' (Y3 U2 (.slice (some ⟨g,0,none⟩) L.length L.length) (o9 (L'++L.drop i)) :: L'.map Gt0)) (fun x _=>L.length-(match x.1 with | .int _ n=>n.toNat | _=>0))
  ⟨0,[],Nat.zero_le _,rfl,rfl,rfl,h⟩ ?_
 clear h
 rintro x w3 ⟨i,L',hi,hl',hp,rfl,h⟩ next hnext
 simp -zeta only[G6,K3]
 have hlen:(L'++L.drop i).length=L.length:=by rw[List.length_append,List.length_drop];omega
 refine⟨fun hlt=>?_,fun hge=>?_⟩
 ·have hil:i<L.length:=by omega
  have hr:=Y3.read (h.here (i:=0) rfl)
  have hel:(o9 (L'++L.drop i))[i]'(by rw[hal,hlen];exact hil)=L[i].1.raw L[i].2:=by
   simp [o9,List.getElem_append_right (show L'.length≤i by omega),hl']
  have hc:=O4.cells hr (i:=i) (by rw[hal,hlen];exact hil)
  rw[hel] at hc
  have hc:(K6 g (i * Enc.sz PrD) (L[i].1.raw L[i].2).cs).here w3:=hc
  have hrow:=q L[i] (List.getElem_mem hil)
  have hql:=hq L[i] (List.getElem_mem hil)
  simp -zeta only[bX (α:=PrD) (P:=prog) (g:=g) (cap:=L.length) (n:=L.length) (i:=i) I6 hil,U0 jF,K6.ld hc wF (j:=3) rfl]
  refine h.make (fun B2 own base2=>sN (base2 hrow) (by omega) (by omega)) fun v' τ w4 hp2 h=>?_
  subst hp2
  have h1:v'.oneCell'=true:=h.oneCell (i:=(Y3 U2 (.slice (some ⟨g,0,none⟩) L.length L.length) (o9 (L'++L.drop i)) :: L'.map Gt0).length) kI
  refine h.km0 0 (j:=i) (f:=3) rfl (L[i].1.raw ⟨v',h1⟩) (by rw[hal,hlen];exact hil) rfl (by decide) (by rw[hel];rfl) wF h1 fun w5 h=>?_
  rw[Z5,E5 (by omega) (by omega)]
  refine hnext _ _ ⟨i+1,L'++[(L[i].1,⟨v',h1⟩)],by omega,by simp [hl'],?_,rfl,?_⟩ (by simp only;omega)
  ·have:(prs L).take (i+1)=(prs L).take i++[L[i].1]:=by
    rw[List.take_succ_eq_append_getElem (by simpa using hil)]
    simp
   rw[this,←hp]
   simp
  ·have e:(o9 (L'++L.drop i)).set i (L[i].1.raw ⟨v',h1⟩)=o9 (L'++[(L[i].1,⟨v',h1⟩)]++L.drop (i+1)):=by
    have hd:L.drop i=L[i] :: L.drop (i+1):=List.drop_eq_getElem_cons hil
    have hl2:(o9 L').length=i:=by rw[hal,hl']
    unfold o9 at hl2 ⊢
    rw[hd,List.map_append,List.set_append_right _ _ (by omega),hl2,Nat.sub_self,List.map_cons,List.set_cons_zero]
    simp
   have h:Rel B' w5 (Y3 U2 (.slice (some ⟨g,0,none⟩) L.length L.length) ((o9 (L'++L.drop i)).set i (L[i].1.raw ⟨v',h1⟩)) :: L'.map Gt0++[Y3 Q0 v' L[i].1.last]):=h
   rw[e] at h
   simpa [Gt0] using h
 ·have hie:i=L.length:=by omega
  subst hie
  rw[List.drop_length,List.append_nil] at h
  rw[List.take_of_length_le (by simp)] at hp
  have h:=Rel.gather (σ:=[Y3 U2 (.slice (some ⟨g,0,none⟩) L.length L.length) (o9 L')]) (g:=fun p:Pr×SV=>O4 p.2.1 p.1.last) h fun x _ B hx=>Y3.read hx
  exact k _ _ _ ⟨g,L',hp,by rw[hl'],rfl⟩ h
end
section
variable {B:Base} {w:World}
theorem Wy0{l:List PrD}{x:PrD}{v2:Value}{g r:Nat}(rd:O4 (.slice (some ⟨g,0,none⟩) l.length l.length) l B)(rd2:O4 v2 [x] B)(hr:r≤l.length)(hl:l.length≤1000000) :
  Makes prog B (Z0 xA #[.slice (some ⟨g,0,none⟩) l.length l.length,.int .i64 r,v2]) fun u τ=>τ=[Y3 U2 u (l.take r++x :: l.drop r)]:=by
 refine Makes.intro fun B' w K base h k=>?_
 replace rd:=base rd
 replace rd2:=base rd2
 refine j_.up ?_
 unfold j_.pt
 have hw1:IntKind.i64.wrap ((l.length:Int)+((1:Nat):Int))=((l.length+1:Nat):Int):=by rw[E5 (by omega) (by omega)];omega
 rw[O4.Ue0 rd I6 (lo:=r) (hi:=l.length) Bnd.some Bnd.none hr (Nat.le_refl _)]
 simp -zeta only[O4.len rd2 I6,O4.len rd I6,List.length_cons,List.length_nil,Nat.zero_add,F7,K3]
 refine⟨fun e=>absurd e (by omega),fun _=>⟨fun e=>?_,fun e=>?_⟩⟩
 ·have e:r=l.length:=by omega
  subst e
  refine h.grow (l:=l) (l2:=[x]) I6 rfl (Rd.base rd) (Rd.base rd2) (by simp) (by simp;omega) (by simp;omega) fun u w1 h=>?_
  refine k _ _ _ ?_ h
  rw[List.take_length,List.drop_length]
  rfl
 ·have hlt:r<l.length:=by omega
  simp -zeta only[Z5,hw1,Cu0 la0,x9,K3]
  refine⟨fun _=>?_,fun hh=>absurd (by omega) hh⟩
  have hw2:IntKind.i64.wrap (((l.length+1:Nat):Int)-(r:Int))=((l.length+1-r:Nat):Int):=by rw[E5 (by omega) (by omega)];omega
  have hw3:IntKind.i64.wrap ((r:Int)+((1:Nat):Int))=((r+1:Nat):Int):=by rw[E5 (by omega) (by omega)];omega
  rw[O4.Ue0 rd I6 (lo:=0) (hi:=r) Bnd.none Bnd.some (Nat.zero_le _) hr]
  simp -zeta only[TB,hw2,hw3]
  have rd0:O4 (cutV (Enc.sz PrD) (.slice (some ⟨g,0,none⟩) l.length l.length) 0 r) (l.take r) B':=by
   have:=O4.Fk0 rd (lo:=0) (hi:=r) (Nat.zero_le _) hr
   rw[List.drop_zero] at this
   exact this
  have hcv:cutV (Enc.sz PrD) (.slice (some ⟨g,0,none⟩) l.length l.length) 0 r = .slice (if l.length=0 then(some ⟨g,0,none⟩:Option Addr) else(some (⟨g,0,none⟩:Addr)).map (·.add (0 * Enc.sz PrD))) (l.take r).length l.length:=by
   have:(l.take r).length=r:=by rw[List.length_take];omega
   rw[this]
   rfl
  have htr:(l.take r).length=r:=by rw[List.length_take];omega
  refine h.Im0 (l:=l.take r) I6 IV hcv (Rd.base rd0) (⟨0,0,0,fD⟩:PrD) (by kernel_rfl) (m:=l.length+1-r) (by omega) (by omega) (by omega) (by omega) fun g2 cp w2 hcp h=>?_
  have hn:(l.take r).length+(l.length+1-r)=l.length+1:=by omega
  rw[hn] at h hcp ⊢
  generalize hl0:l.take r++List.replicate (l.length+1-r) (⟨0,0,0,fD⟩:PrD)=l0 at h
  have hl0n:l0.length=l.length+1:=by rw[←hl0,List.length_append,List.length_replicate];omega
  have hr2:=Y3.read (h.here (i:=0) rfl)
  rw[←hl0n] at hr2
  have cut2:∀(lo:Nat) (lov:Option Value),Bnd lov 0 lo→lo<l.length+1→∀{Kp:Value→Prop},M0 prog (y9 J4 (.slice (some ⟨g2,0,none⟩) (l.length+1) cp) lov none none) Kp=Kp (.slice (some ⟨g2,lo * Enc.sz PrD,none⟩) (l.length+1-lo) (cp-lo)):=by
   intro lo lov hb hlo Kp
   rw[F5 fun w=>yN (α:=PrD) (lo:=lo) (hi:=l.length+1) I6 hb Bnd.none (by omega) hcp w]
   rw[if_neg (by omega)]
   simp [addr_add]
  rw[cut2 r _ Bnd.some (by omega)]
  refine h.kZ 0 (l:=l0) (l2:=[x]) (n:=l.length+1) (lo:=r) rfl I6 (Rd.base rd2) (by omega) (.inl rfl) fun w3 h=>?_
  rw[cut2 (r+1) _ Bnd.some (by omega),O4.Ue0 rd I6 (lo:=r) (hi:=l.length) Bnd.some Bnd.none hr (Nat.le_refl _)]
  have rd3:O4 (cutV (Enc.sz PrD) (.slice (some ⟨g,0,none⟩) l.length l.length) r l.length) (l.drop r) B':=by
   have:=O4.Fk0 rd (lo:=r) (hi:=l.length) hr (Nat.le_refl _)
   rw[List.take_length] at this
   exact this
  have e1:l0.take r++[x].take (l0.length-r)++l0.drop (r+([x].take (l0.length-r)).length)=l.take r++[x]++List.replicate (l.length-r) (⟨0,0,0,fD⟩:PrD):=by
   have hx:[x].take (l0.length-r)=[x]:=List.take_of_length_le (by simp;omega)
   rw[hx,←hl0,List.take_append_of_le_length (by omega),List.take_of_length_le (by omega),List.drop_append,List.drop_of_length_le (by simp;omega),List.nil_append,List.drop_replicate]
   congr 2
   simp
   omega
  have h:Rel B' w3 [Y3 U2 (.slice (some ⟨g2,0,none⟩) (l.length+1) cp) (l0.take r++[x].take (l0.length-r)++l0.drop (r+([x].take (l0.length-r)).length))]:=h
  rw[e1] at h
  have hl1:(l.take r++[x]++List.replicate (l.length-r) (⟨0,0,0,fD⟩:PrD)).length=l.length+1:=by simp;omega
  have h:=h.tick
  refine h.kZ 0 (l:=l.take r++[x]++List.replicate (l.length-r) (⟨0,0,0,fD⟩:PrD)) (l2:=l.drop r) (n:=l.length+1) (lo:=r+1) rfl I6 (Rd.base rd3) (by omega) (.inl rfl) fun w4 h=>?_
  generalize hY:l.take r++[x]++List.replicate (l.length-r) (⟨0,0,0,fD⟩:PrD)=Y at h hl1
  have hd:(l.drop r).take (Y.length-(r+1))=l.drop r:=List.take_of_length_le (by rw[hl1,List.length_drop];omega)
  have a1:Y.take (r+1)=l.take r++[x]:=by
   rw[←hY,List.take_append_of_le_length (by simp;omega),List.take_of_length_le (by simp;omega)]
  have a2:Y.drop (r+1+(l.drop r).length)=[]:=List.drop_of_length_le (by rw[hl1,List.length_drop];omega)
  have h:Rel B' w4 [Y3 U2 (.slice (some ⟨g2,0,none⟩) (l.length+1) cp) (Y.take (r+1)++(l.drop r).take (Y.length-(r+1))++Y.drop (r+1+((l.drop r).take (Y.length-(r+1))).length))]:=h
  rw[hd,a1,a2,List.append_nil,List.append_assoc] at h
  exact k _ _ _ rfl h
theorem ku0(x:PrD)(id:Int)(h1 : -4611686018427387904≤x.id∧x.id≤4611686018427387903)(h2 : -4611686018427387904≤id∧id≤4611686018427387903):Gives prog B (dA (.func (.func qG) #[] #[]) #[Enc.val x,.int .i64 id]) (.int .i64 (x.id-id)):=by
 refine Gives.intro fun B' w K base h k=>?_
 refine YH ?_
 refine VB.up (x0:=x.v) (id1 := .int .i64 id) (VB.call ?_)
 unfold VB.pt
 refine h.box fun b2 w1 h=>?_
 have h:Rel B' w1 [O1 b2 U2 x.cs.toArray]:=h
 simp -zeta only[U0 iF,Nat.add_zero,h.ld 0 rfl Y2 (o:=0) rfl,TB]
 rw[E5 (by omega) (by omega)]
 exact k _ _ h
theorem DH0{v:Value}{L:PrL}{id:Int}{r:Nat}(rd:O4 v (o9 L) B)(hl:L.length≤1000000)(hb:∀p∈L,0≤p.1.id∧p.1.id≤1099511627776)(hid:0≤id∧id≤1099511627776)(hr:r≤L.length)
  (h1:∀i (h:i<L.length),i<r→L[i].1.id<id) (h2:∀i (h:i<L.length),r≤i→id≤L[i].1.id) {f:Bool} (hf:f=true↔∃h:r<L.length,L[r].1.id=id) :
  Gives prog B (Z0 H9 #[v,.int .i64 id,.func (.func qG) #[] #[]]) (.tuple #[.int .i64 r,.bool f]):=by
 refine Gives.intro fun B' w K base h k=>?_
 replace rd:=base rd
 have hal:(o9 L).length=L.length:=List.length_map ..
 have hel:∀i (h:i<L.length),(o9 L)[i]'(by omega)=L[i].1.raw L[i].2:=fun i h=>by simp [o9]
 refine I8.up ?_
 unfold I8.pt
 simp -zeta only[O4.len rd I6]
 rw[hal]
 refine P6 fun J hJ=>?_
 replace hJ:∀w',Rel B' w' []→J (.int .i64 r,()) w':=by
  intro w1 h
  refine hJ _ _ ?_
  clear hJ
  dsimp only
  simp -zeta only[G6,K3]
  refine⟨fun hlt=>?_,fun hge=>?_⟩
  ·have hrl:r<L.length:=by omega
   obtain⟨g,o,hx,hc⟩:=O4.idx rd I6 (P:=prog) (i:=r) (by omega)
   rw[hel r hrl] at hc
   have hc:K6 g o (L[r].1.raw L[r].2).cs B':=hc
   simp -zeta only[hx,K6.r9 (h.L6 hc) X7 rfl]
   have hbr:=hb L[r] (List.getElem_mem hrl)
   refine h.ask (fun B2 own base2=>ku0 (L[r].1.raw L[r].2) id (by show -4611686018427387904≤L[r].1.id∧L[r].1.id≤_;omega) (by omega)) fun w2 h=>?_
   rw[F7]
   have:decide (L[r].1.id-id=0)=f:=by
    rw[Bool.eq_iff_iff,decide_eq_true_iff,hf]
    exact⟨fun e=>⟨hrl,by omega⟩,fun⟨_,e⟩=>by omega⟩
   have e2:((L[r].1.raw L[r].2).id-id=0)=(L[r].1.id-id=0):=rfl
   rw[show decide ((L[r].1.raw L[r].2).id-id=0)=f from this]
   exact k _ _ h
  ·have:f=false:=by
    cases hfv:f
    ·rfl
    ·obtain⟨hlt,_⟩:=hf.1 hfv
     omega
   rw[this] at k
   exact k _ _ h
 refine F6 (fun x w'=>∃i j:Nat,i≤r∧r≤j∧j≤L.length∧x=(.int .i64 i,.int .i64 j,())∧Rel B' w' []) (fun x _=>(match x.2.1 with | .int _ n=>n.toNat | _=>0)-(match x.1 with | .int _ n=>n.toNat | _=>0))
  ⟨0,L.length,Nat.zero_le _,hr,Nat.le_refl _,rfl,h⟩ ?_
 clear h
 rintro x w1 ⟨i,j,hi,hj,hjn,rfl,h⟩ next hnext
 simp -zeta only[G6,K3]
 refine⟨fun hlt=>?_,fun hge=>?_⟩
 ·simp -zeta only[Z5]
  rw[E5 (by omega) (by omega),jU IV cx0,IntWalk.u64_in _ ⟨by omega,by omega⟩,TW (by omega)]
  have e2:((i:Int)+j).fdiv (2 ^ min (Int.toNat 1) (IntKind.bits .u64))=(((i+j) / 2:Nat):Int):=by
   have:(2:Int) ^ min (Int.toNat 1) (IntKind.bits .u64)=2:=by decide
   rw[this,Int.fdiv_eq_ediv_of_nonneg _ (by omega)]
   omega
  rw[e2,jU cx0 IV,E5 (by omega) (by omega)]
  have hml:(i+j) / 2<L.length:=by omega
  obtain⟨g,o,hx,hc⟩:=O4.idx rd I6 (P:=prog) (i:=(i+j) / 2) (by omega)
  rw[hel _ hml] at hc
  have hc:K6 g o (L[(i+j) / 2].1.raw L[(i+j) / 2].2).cs B':=hc
  simp -zeta only[hx,K6.r9 (h.L6 hc) X7 rfl]
  have hbr:=hb L[(i+j) / 2] (List.getElem_mem hml)
  refine h.ask (fun B2 own base2=>ku0 (L[(i+j) / 2].1.raw L[(i+j) / 2].2) id (by show -4611686018427387904≤L[(i+j) / 2].1.id∧L[(i+j) / 2].1.id≤_;omega) (by omega)) fun w2 h=>?_
  rw[G6,K3]
  refine⟨fun e=>?_,fun e=>?_⟩
  ·have e:L[(i+j) / 2].1.id-id<0:=e
   rw[Z5,E5 (by omega) (by omega)]
   refine hnext _ _ ⟨(i+j) / 2+1,j,?_,hj,hjn,rfl,h⟩ (by simp only;omega)
   refine Nat.lt_of_not_le fun hle=>?_
   have:=h2 _ hml hle
   omega
  ·have e:¬L[(i+j) / 2].1.id-id<0:=e
   refine hnext _ _ ⟨i,(i+j) / 2,hi,?_,by omega,rfl,h⟩ (by simp only;omega)
   refine Nat.le_of_not_lt fun hlt2=>?_
   have:=h1 _ hml hlt2
   omega
 ·have:i=r:=by omega
  subst this
  exact hJ _ h
end
def eD(s:List Pr)(id:Int):Nat:=(s.takeWhile fun p=>decide (p.id<id)).length
theorem Ux0(s:List Pr)(id:Int):eD s id≤s.length:=(List.takeWhile_prefix _).length_le
theorem Se0(a:Pr)(s:List Pr)(id:Int):eD (a :: s) id=if a.id<id then eD s id+1 else 0:=by
 unfold eD
 by_cases h:a.id<id
 ·rw[List.takeWhile_cons_of_pos (by simpa using h),if_pos h];rfl
 ·rw[List.takeWhile_cons_of_neg (by simpa using h),if_neg h];rfl
theorem cnt_lt{s:List Pr}{id:Int}{i:Nat}(hi:i<eD s id)(h:i<s.length):s[i].id<id:=by
 induction s generalizing i with
 | nil=>cases h
 | cons a s ih =>
  rw[Se0] at hi
  split at hi
  ·rename_i ha
   cases i with
   | zero=>exact ha
   | succ i=>exact ih (by omega) (by simpa using h)
  ·omega
theorem Vx0{s:List Pr}{id:Int}(h:eD s id<s.length):¬s[eD s id].id<id:=by
 induction s with
 | nil=>cases h
 | cons a s ih =>
  by_cases ha:a.id<id
  ·have e:eD (a :: s) id=eD s id+1:=by rw[Se0,if_pos ha]
   have h':eD s id<s.length:=by rw[e] at h;simpa using h
   have:=ih h'
   simp only[e,List.getElem_cons_succ]
   exact this
  ·have e:eD (a :: s) id=0:=by rw[Se0,if_neg ha]
   simp only[e,List.getElem_cons_zero]
   exact ha
theorem rk0{s:List Pr}(hs:∀i (h:i<s.length),0<i→s[i-1].id<s[i].id){i j:Nat}(hij:i<j)(hj:j<s.length):s[i].id<s[j].id:=by
 induction j with
 | zero=>omega
 | succ j ih =>
  have h1:=hs (j+1) hj (by omega)
  have h1:s[j].id<s[j+1].id:=h1
  by_cases e:i=j
  ·subst e;exact h1
  ·exact Int.lt_trans (ih (by omega) (by omega)) h1
theorem Np0{s:List Pr}(hs:∀i (h:i<s.length),0<i→s[i-1].id<s[i].id){id:Int}{i:Nat}(hi:eD s id≤i)(h:i<s.length):id≤s[i].id:=by
 have hlt:eD s id<s.length:=by omega
 have h0:¬s[eD s id].id<id:=Vx0 hlt
 by_cases e:i=eD s id
 ·subst e;omega
 ·have:=rk0 hs (i:=eD s id) (j:=i) (by omega) h
  omega
def JQ(s:List Pr)(p:Pr):List Pr:=if xK s p.id=true then s.set (eD s p.id) p else s.take (eD s p.id)++p :: s.drop (eD s p.id)
theorem dl0{s:List Pr}(hs:∀i (h:i<s.length),0<i→s[i-1].id<s[i].id){id:Int}:xK s id=true↔∃h:eD s id<s.length,s[eD s id].id=id:=by
 constructor
 ·intro h
  obtain⟨h1,h2⟩:=kW h
  obtain⟨j,hj,e⟩:=List.getElem_of_mem h1
  have hej:s[j].id=id:=by rw[e];exact h2
  have hle:eD s id≤j:=Nat.le_of_not_lt fun hlt=>by have:=cnt_lt hlt hj;omega
  have hlt:eD s id<s.length:=by omega
  refine⟨hlt,?_⟩
  have h3:=Np0 hs (Nat.le_refl _) hlt
  by_cases ej:eD s id=j
  ·simp only[ej];exact hej
  ·have:=rk0 hs (i:=eD s id) (j:=j) (by omega) hj
   omega
 ·rintro⟨h,e⟩
  unfold xK
  rw[List.find?_isSome]
  exact⟨_,List.getElem_mem h,decide_eq_true e⟩
def GJ(u:Value)(s:List Pr):Dat:=⟨fun B=>∃L:PrL,prs L=s∧O4 u (o9 L) B∧IG L B,fun hl ⟨L,h1,h2,h3⟩=>⟨L,h1,Dat.mono _ hl h2,Dat.mono _ hl h3⟩⟩
def rT(u:Value)(s:List Pr)(τ:List Dat):Prop:=∀(B:Base) (w:World) (σ:List Dat),Rel B w (σ++τ)→Rel B w (σ++[GJ u s])
theorem uU{u:Value}{s:List Pr}{τ:List Dat}(h:∀B,(yU τ) B→GJ u s B):rT u s τ:=fun B w σ hr=>by
 have h1:=(Rel.kR hr).imp (i:=σ.length) (e:=GJ u s) kI h
 rw[List.set_append_right _ _ (Nat.le_refl _),Nat.sub_self,List.set_cons_zero] at h1
 exact h1
theorem Makes.imp{P:Program}{B:Base}{s:Sem Next}{post post':Value→List Dat→Prop}(h:Makes P B s post)(hi:∀v τ,post v τ→post' v τ):Makes P B s post':=fun w σ K hr k=>h w σ K hr fun v τ w' hp h2=>k v τ w' (hi v τ hp) h2
section
variable {B:Base} {w:World}
theorem zB0{v:Value}{L:PrL}(r:O4 v (o9 L) B)(q:IG L B)(hR:DC (prs L)){p:Pr}{sv:SV}(hid:inP p.id) :
  Makes prog B (Z0 yM #[v,(p.raw sv).v]) fun u τ=>∃Lc L':PrL,prs L'=JQ (prs L) p∧(∀x∈L',x∈Lc∨x=(p,sv))∧τ=[Y3 U2 u (o9 L'),IG Lc]:=by
 refine Makes.intro fun B' w K base h k=>?_
 replace r:=base r
 replace q:=base q
 have hpl:∀L:PrL,(prs L).length=L.length:=fun L=>List.length_map ..
 have hal:∀L:PrL,(o9 L).length=L.length:=fun L=>List.length_map ..
 have hlen:=hR.len
 rw[hpl] at hlen
 refine FP.up ?_
 unfold FP.pt
 refine h.box fun b w1 h=>?_
 have h:Rel B' w1 [O1 b U2 (p.raw sv).cs.toArray]:=h
 refine h.make (fun B2 own base2=>rs0 (base2 r) (base2 q) (by omega) fun x hx=>by have:=(hR.fine x.1 (List.mem_map_of_mem hx)).len;omega) fun u τ w2 hp h=>?_
 obtain⟨g,Lc,hpc,rfl,rfl⟩:=hp
 have hlc:Lc.length=L.length:=by rw[←hpl Lc,hpc,hpl]
 have h:Rel B' w2 [O1 b U2 (p.raw sv).cs.toArray,Y3 U2 (.slice (some ⟨g,0,none⟩) Lc.length Lc.length) (o9 Lc),IG Lc]:=h
 simp -zeta only[U0 iF,Nat.add_zero,h.ld 0 rfl Y2 (o:=0) rfl]
 have hget:∀i (h:i<Lc.length),Lc[i].1=(prs L)[i]'(by rw[hpl];omega):=fun i h=>by
  have:(prs Lc)[i]'(by rw[hpl];exact h)=Lc[i].1:=by simp
  rw[←this]
  simp only[hpc]
 have hcl:=Ux0 (prs L) p.id
 rw[hpl] at hcl
 refine h.ask (fun B2 own base2=>DH0 (L:=Lc) (id:=p.id) (r:=eD (prs L) p.id) (f:=xK (prs L) p.id) (Y3.read (own (i:=1) rfl)) (by omega)
  (fun x hx=>by
   have hm:x.1∈prs L:=by rw[←hpc];exact List.mem_map_of_mem hx
   exact(hR.fine _ hm).id) hid (by omega) (fun i hi hlt=>by rw[hget i hi];exact cnt_lt hlt _) (fun i hi hge=>by rw[hget i hi];exact Np0 hR.asc hge _) (by
    rw[dl0 hR.asc]
    constructor
    ·rintro⟨h1,h2⟩
     have h1':eD (prs L) p.id<Lc.length:=by rw[hpl] at h1;omega
     exact⟨h1',by rw[hget _ h1'];exact h2⟩
    ·rintro⟨h1,h2⟩
     exact⟨by rw[hpl];omega,by rw[←hget _ h1];exact h2⟩)) fun w3 h=>?_
 simp -zeta only[M9,D9]
 rw[R5]
 generalize hc:eD (prs L) p.id=c at hcl ⊢
 refine⟨fun e=>?_,fun e=>?_⟩
 ·have hcl2:c<Lc.length:=by
   obtain⟨h1,_⟩:=(dl0 hR.asc).1 e
   rw[hc,hpl] at h1
   omega
  simp -zeta only[h.r9 0 rfl X7 rfl,bX (α:=PrD) (P:=prog) (g:=g) (cap:=Lc.length) (n:=Lc.length) (i:=c) I6 hcl2]
  refine h.jm0 1 (j:=c) rfl (p.raw sv) (by rw[hal];exact hcl2) X7 rfl rfl fun w4 h=>?_
  have h:=h.pick [1,2] (by decide)
  refine k _ _ _ ⟨Lc,Lc.set c (p,sv),?_,fun x hx=>List.mem_or_eq_of_mem_set hx,rfl⟩ ?_
  ·unfold JQ
   rw[if_pos e,hc,←hpc]
   exact List.map_set
  ·have e2:o9 (Lc.set c (p,sv))=(o9 Lc).set c (p.raw sv):=List.map_set
   rw[e2]
   exact h
 ·simp -zeta only[h.r9 0 rfl X7 rfl]
  refine h.XH (α:=PrD) (p.raw sv) I6 (by decide) fun v2 w4 h=>?_
  have h:Rel B' w4 [O1 b U2 (p.raw sv).cs.toArray,Y3 U2 (.slice (some ⟨g,0,none⟩) Lc.length Lc.length) (o9 Lc),IG Lc,Y3 U2 v2 [p.raw sv]]:=h
  rw[←hal Lc] at h ⊢
  refine h.make (fun B2 own base2=>Wy0 (l:=o9 Lc) (x:=p.raw sv) (r:=c) (Y3.read (own (i:=1) rfl)) (Y3.read (own (i:=3) rfl)) (by rw[hal];omega) (by rw[hal];omega)) fun u τ w5 hp h=>?_
  subst hp
  have h:=h.pick [4,2] (by decide)
  refine k _ _ _ ⟨Lc,Lc.take c++(p,sv) :: Lc.drop c,?_,fun x hx=>?_,rfl⟩ ?_
  ·unfold JQ
   rw[if_neg (by rw[e];decide),hc,←hpc]
   simp
  ·rcases List.mem_append.1 hx with hx | hx
   ·exact .inl (List.mem_of_mem_take hx)
   ·rcases List.mem_cons.1 hx with hx | hx
    ·exact .inr hx
    ·exact .inl (List.mem_of_mem_drop hx)
  ·have e2:o9 (Lc.take c++(p,sv) :: Lc.drop c)=(o9 Lc).take c++p.raw sv :: (o9 Lc).drop c:=by simp [o9]
   rw[e2]
   exact h
def FJ(s:List Pr)(id:Int):List Pr×Int×Int :=
 if ¬okN id∨(PD s id).epoch=1099511627776 then([],0,1) else if xK s id=false∧50≤s.length then([],0,6) else(JQ s ⟨id,(PD s id).epoch+1,0,[]⟩,(PD s id).epoch+1,0)
theorem mg0(τ:List Dat):rT (.slice none 0 0) [] τ:=uU fun B _=>⟨[],rfl,⟨none,0,rfl,Nat.le_refl _,.inl rfl⟩,fun x hx=>by cases hx⟩
theorem OB0{v:Value}{L:PrL}(r:O4 v (o9 L) B)(q:IG L B)(hR:DC (prs L))(id:Int) :
  Makes prog B (Z0 QO #[v,.int .i64 id]) fun u τ=>∃tv,u = .tuple #[tv,.int .i64 (FJ (prs L) id).2.1,.int .i64 (FJ (prs L) id).2.2]∧rT tv (FJ (prs L) id).1 τ:=by
 refine Makes.intro fun B' w K base h k=>?_
 replace r:=base r
 replace q:=base q
 have hpl:∀L:PrL,(prs L).length=L.length:=fun L=>List.length_map ..
 have hal:∀L:PrL,(o9 L).length=L.length:=fun L=>List.length_map ..
 have hlen:=hR.len
 rw[hpl] at hlen
 refine rO.up ?_
 unfold rO.pt
 have fin:∀(x:List Pr×Int×Int) tv τ w',FJ (prs L) id=x→rT tv x.1 τ→Rel B' w' τ→K (.tuple #[tv,.int .i64 x.2.1,.int .i64 x.2.2]) w':=fun x tv τ w' e hn h=>k _ τ w' ⟨tv,by rw[e],by rw[e];exact hn⟩ h
 clear k
 unfold FJ at fin
 obtain⟨sv,hsv,hfind⟩:=jq0 r q (by omega) id
 refine hfind _ _ _ h fun w1 h=>?_
 simp -zeta only[M9,D9]
 have hsm:=YU hR (id:=id)
 generalize PD (prs L) id=p at *
 refine h.R8 (ds:=(p.raw sv).cs.toArray) zF rfl X7 rfl (fun v hv=>Enc.one (p.raw sv) v hv) fun o w3 h=>?_
 have h:Rel B' w3 [O1 o U2 (p.raw sv).cs.toArray]:=h
 refine P6 fun J hJ=>?_
 replace hJ:okN id→¬p.epoch=1099511627776→¬(xK (prs L) id=false∧50≤(prs L).length)→∀w',Rel B' w' [O1 o U2 (p.raw sv).cs.toArray]→J () w':=by
  intro c1 c2 c3 w4 h
  refine hJ _ _ ?_
  clear hJ
  rw[if_neg (fun hh=>hh.elim (fun a=>a c1) c2),if_neg c3] at fin
  simp -zeta only[U0 fI,Nat.zero_add,h.ld 0 rfl Y2 (o:=1) rfl,Z5]
  rw[E5 (by omega) (by omega),wX]
  refine h.YG 0 (ds:=(⟨id,p.epoch+1,0,fD⟩:PrD).cs.toArray) rfl X7 rfl rfl (fun v hv=>Enc.one (⟨id,p.epoch+1,0,fD⟩:PrD) v hv) fun w5 h=>?_
  have h:=h.tick
  have h:Rel B' (tick w5) [O1 o U2 (⟨id,p.epoch+1,0,fD⟩:PrD).cs.toArray]:=h
  simp -zeta only[h.r9 0 rfl X7 rfl,h.ld 0 rfl Y2 (o:=1) rfl]
  refine h.make (fun B2 own base2=>zB0 (p:=⟨id,p.epoch+1,0,[]⟩) (sv:=fD) (base2 r) (base2 q) hR ⟨c1.1,by have:=c1.2;show id≤_;omega⟩) fun u τ w6 hp h=>?_
  obtain⟨Lc,L',hp,hm,rfl⟩:=hp
  refine⟨h.is 0 rfl Y2 (o:=1) rfl,?_⟩
  refine fin (JQ (prs L) ⟨id,p.epoch+1,0,[]⟩,p.epoch+1,0) u [Y3 U2 u (o9 L'),IG Lc] _ rfl ?_ (h.pick [1,2] (by decide))
  refine uU fun B3 hB3=>⟨L',hp,Y3.read (Dat.star.left hB3),fun x hx=>?_⟩
  rcases hm x hx with hx | rfl
  ·exact(Dat.star.left (Dat.star.right hB3):IG Lc B3) x hx
  ·exact⟨none,0,rfl,Nat.le_refl _,.inl rfl⟩
 refine h.ask (fun B2 own base2=>uq0 id) fun w4 h=>?_
 rw[V7,G5,K3]
 refine⟨fun c1=>?_,fun c1=>fin ([],0,1) _ _ _ (by rw[if_pos (.inl fun hh=>c1 ⟨hh.1,by have:=hh.2;omega⟩)]) (mg0 []) h.nil⟩
 simp -zeta only[F7,K3]
 refine⟨fun c2=>fin ([],0,1) _ _ _ (by rw[if_pos (.inl fun hh=>by have:=hh.2;omega)]) (mg0 []) h.nil,fun c2=>?_⟩
 have c1:okN id:=⟨c1.1,by have:=c1.2;omega⟩
 simp -zeta only[U0 fI,Nat.zero_add,h.ld 0 rfl Y2 (o:=1) rfl,F7,K3]
 refine⟨fun c3=>fin ([],0,1) _ _ _ (by rw[if_pos (.inr c3)]) (mg0 []) h.nil,fun c3=>?_⟩
 rw[V7,G5,R5]
 refine⟨fun c4=>hJ c1 c3 (fun hh=>by rw[c4] at hh;cases hh.1) _ h,fun c4=>?_⟩
 simp -zeta only[O4.len r I6,FC,K3]
 rw[hal]
 exact⟨fun c5=>fin ([],0,6) _ _ _ (by rw[if_neg (fun hh=>hh.elim (fun a=>a c1) c3),if_pos ⟨c4,by rw[hpl];omega⟩]) (mg0 []) h.nil,fun c5=>hJ c1 c3 (fun hh=>c5 (by have:=hh.2;rw[hpl] at this;omega)) _ h⟩
end
def mi0(p:Pr)(pos:Int):Pr:=⟨p.id,p.epoch,p.next+1,(p.last++[pos]).drop ((p.last++[pos]).length-20)⟩
def DY(s:List Pr)(id e q pos:Int):List Pr :=
 if(nO s id e q).2≠0 then s else if ¬inP pos then s else if 0<(PD s id).last.length∧pos≤(PD s id).last.getD ((PD s id).last.length-1) 0 then s else JQ s (mi0 (PD s id) pos)
theorem ct0(s:List Pr)(id:Int):(PD s id).id=id:=by
 cases e:xK s id
 ·rw[(xR e).1]
 ·exact(kW e).2
theorem look_ok{s:List Pr}{id e q:Int}(h:(nO s id e q).2=0):(okN id∧okN e∧okN q)∧e=(PD s id).epoch∧q=(PD s id).next∧¬(xK s id=false∧50≤s.length):=by
 unfold nO at h
 by_cases c0:okN id∧okN e∧okN q
 ·rw[if_neg (fun hh=>hh c0)] at h
  by_cases c1:e<(PD s id).epoch
  ·rw[if_pos c1] at h;cases h
  rw[if_neg c1] at h
  by_cases c2:(PD s id).epoch<e
  ·rw[if_pos c2] at h;cases h
  rw[if_neg c2] at h
  by_cases c3:(PD s id).next<q
  ·rw[if_pos c3] at h;cases h
  rw[if_neg c3] at h
  by_cases c4:xK s id=false∧50≤s.length
  ·rw[if_pos c4] at h;cases h
  rw[if_neg c4] at h
  by_cases c5:q=(PD s id).next
  ·exact⟨c0,by omega,c5,c4⟩
  rw[if_neg c5] at h
  split at h<;>cases h
 ·rw[if_pos c0] at h;cases h
section
variable {B:Base} {w:World}
theorem WG0{v:Value}{L:PrL}(r:O4 v (o9 L) B)(q:IG L B)(hR:DC (prs L))(en:xD)(pos:Int) :
  Makes prog B (Z0 IR #[v,en.v,.int .i64 pos]) fun u τ=>rT u (DY (prs L) en.producer en.epoch en.seq pos) τ:=by
 refine Makes.intro fun B' w K base h k=>?_
 replace r:=base r
 replace q:=base q
 have hpl:∀L:PrL,(prs L).length=L.length:=fun L=>List.length_map ..
 have hal:∀L:PrL,(o9 L).length=L.length:=fun L=>List.length_map ..
 have hlen:=hR.len
 rw[hpl] at hlen
 refine bR.up ?_
 unfold bR.pt
 have fin:∀s u τ w',DY (prs L) en.producer en.epoch en.seq pos=s→rT u s τ→Rel B' w' τ→K u w':=fun s u τ w' e hn h=>k _ τ w' (by rw[e];exact hn) h
 clear k
 unfold DY at fin
 refine h.box fun b w1 h=>?_
 have h:Rel B' w1 [O1 b U1 en.cs.toArray]:=h
 simp -zeta only[U0 jM,Nat.zero_add,h.ld 0 rfl Y2 (o:=1) rfl]
 obtain⟨sv,hsv,hfind⟩:=jq0 r q (by omega) en.producer
 refine hfind _ _ _ h fun w2 h=>?_
 simp -zeta only[M9,D9]
 have hsm:=YU hR (id:=en.producer)
 have hid:=ct0 (prs L) en.producer
 have hlk:(nO (prs L) en.producer en.epoch en.seq).2=0→okN en.producer:=fun hh=>(look_ok hh).1.1
 generalize PD (prs L) en.producer=p at *
 refine h.R8 (ds:=(p.raw sv).cs.toArray) zF rfl X7 rfl (fun v hv=>Enc.one (p.raw sv) v hv) fun o w3 h=>?_
 have h:Rel B' w3 [O1 b U1 en.cs.toArray,O1 o U2 (p.raw sv).cs.toArray]:=h
 have cl:∀w',(if(nO (prs L) en.producer en.epoch en.seq).2≠0 then prs L else if ¬inP pos then prs L else if 0<p.last.length∧pos≤p.last.getD (p.last.length-1) 0 then prs L else JQ (prs L) (mi0 p pos))=prs L →
   Rel B' w' [O1 b U1 en.cs.toArray,O1 o U2 (p.raw sv).cs.toArray]→upK prog (Z0 gD #[v]) w' fun t w=>K t w:=by
  intro w' e h
  refine h.make (fun B2 own base2=>rs0 (base2 r) (base2 q) (by omega) fun x hx=>by have:=(hR.fine x.1 (List.mem_map_of_mem hx)).len;omega) fun u τ w5 hp h=>?_
  obtain⟨g,Lc,hpc,rfl,rfl⟩:=hp
  refine fin (prs L) _ [Y3 U2 (.slice (some ⟨g,0,none⟩) Lc.length Lc.length) (o9 Lc),IG Lc] _ e ?_ (h.pick [2,3] (by decide))
  exact uU fun B3 hB3=>⟨Lc,hpc,Y3.read (Dat.star.left hB3),Dat.star.left (Dat.star.right hB3)⟩
 refine P6 fun J hJ=>?_
 replace hJ:(nO (prs L) en.producer en.epoch en.seq).2=0→inP pos→¬(0<p.last.length∧pos≤p.last.getD (p.last.length-1) 0)→∀w',Rel B' w' [O1 b U1 en.cs.toArray,O1 o U2 (p.raw sv).cs.toArray]→J () w':=by
  intro c1 c2 c3 w5 h
  refine hJ _ _ ?_
  clear hJ cl
  rw[if_neg (fun hh=>hh c1),if_neg (fun hh=>hh c2),if_neg c3] at fin
  have hin:=hlk c1
  simp -zeta only[U0 dL,U0 jF,Nat.zero_add,h.ld 1 rfl Y2 (o:=2) rfl,Z5]
  rw[E5 (by omega) (by omega)]
  refine h.st 1 rfl Y2 (show 2<4 by omega) rfl fun w6 h=>?_
  simp -zeta only[h.ld 1 rfl wF (o:=3) rfl]
  refine h.make (fun B2 own base2=>sN (base2 hsv) (by omega) (by omega)) fun v' τ w7 hp h=>?_
  subst hp
  refine h.WS (α:=Int) 2 rfl pos N8 (by decide) (by omega) (by omega) fun v2 w9 h=>?_
  have h1:v2.oneCell'=true:=h.oneCell (i:=2) rfl
  refine h.st 1 rfl wF (show 3<4 by omega) h1 fun w10 h=>?_
  have hr2:O4 v2 (p.last++[pos]) ⟨w10,fun _=>True⟩:=Y3.read (h.here (i:=2) rfl)
  have hl2:(p.last++[pos]).length=p.last.length+1:=by simp
  have hw:IntKind.i64.wrap (((p.last++[pos]).length:Int)-20)=((p.last++[pos]).length:Int)-20:=E5 (by omega) (by omega)
  have hmx:max (((p.last++[pos]).length:Int)-20) 0=(((p.last++[pos]).length-20:Nat):Int):=by omega
  simp -zeta only[h.ld 1 rfl wF (o:=3) rfl,O4.len hr2 N8,TB,hw,II,hmx]
  rw[O4.Ue0 hr2 N8 (lo:=(p.last++[pos]).length-20) (hi:=(p.last++[pos]).length) Bnd.some Bnd.none (by omega) (Nat.le_refl _)]
  have hc1:(cutV (Enc.sz Int) v2 ((p.last++[pos]).length-20) (p.last++[pos]).length).oneCell'=true:=O4.oneCell (O4.Fk0 hr2 (by omega) (Nat.le_refl _))
  refine h.st 1 rfl wF (show 3<4 by omega) hc1 fun w11 h=>?_
  have h:Rel B' w11 [O1 b U1 en.cs.toArray,O1 o U2 ((mi0 p pos).raw ⟨_,hc1⟩).cs.toArray,Y3 Q0 v2 (p.last++[pos])]:=h
  rw[h.r9 1 rfl X7 rfl]
  refine h.make (fun B2 own base2=>zB0 (p:=mi0 p pos) (sv:=⟨_,hc1⟩) (base2 r) (base2 q) hR (by show inP p.id;rw[hid];exact⟨hin.1,by have:=hin.2;omega⟩)) fun u τ w12 hp h=>?_
  obtain⟨Lc,L',hp,hm,rfl⟩:=hp
  refine fin (JQ (prs L) (mi0 p pos)) u [Y3 Q0 v2 (p.last++[pos]),Y3 U2 u (o9 L'),IG Lc] _ rfl ?_ (h.pick [2,3,4] (by decide))
  refine uU fun B3 hB3=>⟨L',hp,Y3.read (Dat.star.left (Dat.star.right hB3)),fun x hx=>?_⟩
  rcases hm x hx with hx | rfl
  ·exact(Dat.star.left (Dat.star.right (Dat.star.right hB3)):IG Lc B3) x hx
  ·have:=O4.Fk0 (Y3.read (Dat.star.left hB3)) (lo:=(p.last++[pos]).length-20) (hi:=(p.last++[pos]).length) (by omega) (Nat.le_refl _)
   rw[List.take_length] at this
   exact this
 rw[h.r9 0 rfl M8 rfl]
 refine h.ask (fun B2 own base2=>Vw0 (base2 r) (base2 q) hR en) fun w4 h=>?_
 simp -zeta only[M9,D9,Q7,G5,K3]
 refine⟨fun c1=>?_,fun c1=>cl _ (by rw[if_pos c1]) h⟩
 have c1:(nO (prs L) en.producer en.epoch en.seq).2=0:=c1
 refine h.ask (fun B2 own base2=>uq0 pos) fun w5 h=>?_
 rw[V7,G5,K3]
 refine⟨fun c2=>?_,fun c2=>cl _ (by rw[if_neg (fun hh=>hh c1),if_pos c2]) h⟩
 simp -zeta only[U0 jF,Nat.zero_add,h.ld 1 rfl wF (o:=3) rfl,O4.len hsv N8,x9,K3]
 refine⟨fun c3=>?_,fun c3=>hJ c1 c2 (fun hh=>c3 (by omega)) _ h⟩
 have hw:IntKind.i64.wrap ((p.last.length:Int)-1)=((p.last.length-1:Nat):Int):=by rw[E5 (by omega) (by omega)];omega
 have hml:p.last.length-1<p.last.length:=by omega
 obtain⟨a,q1,q2⟩:=O4.eZ hsv h N8 hml Y2 (x := .int .i64 p.last[p.last.length-1]) rfl
 have hgd:p.last.getD (p.last.length-1) 0=p.last[p.last.length-1]:=by rw[List.getD_eq_getElem?_getD,List.getElem?_eq_getElem hml];rfl
 simp -zeta only[TB,hw,q1,q2,WC,K3]
 exact⟨fun c4=>cl _ (by rw[if_neg (fun hh=>hh c1),if_neg (fun hh=>hh c2),if_pos ⟨by omega,by rw[hgd];exact c4⟩]) h,fun c4=>hJ c1 c2 (fun hh=>c4 (by rw[←hgd];exact hh.2)) _ h⟩
end
abbrev Asc(s:List Pr):Prop:=s.Pairwise fun a b=>a.id<b.id
theorem qk0{s:List Pr}:(∀i (h:i<s.length),0<i→s[i-1].id<s[i].id)↔Asc s:=by
 constructor
 ·intro h
  show s.Pairwise fun a b=>a.id<b.id
  rw[List.pairwise_iff_getElem]
  intro i j hi hj hij
  exact rk0 h hij hj
 ·intro h i hi h0
  have h:s.Pairwise fun a b=>a.id<b.id:=h
  rw[List.pairwise_iff_getElem] at h
  exact h (i-1) i (by omega) hi (by omega)
theorem DC.pw{s:List Pr}(h:DC s):Asc s:=qk0.1 h.asc
theorem uh0{s:List Pr}(h:Asc s)(p:Pr):∃c d,JQ s p=s.take c++p :: s.drop d∧(∀x∈s.take c,x.id<p.id)∧(∀x∈s.drop d,p.id<x.id)∧c≤s.length∧d≤s.length∧((d=c∧xK s p.id=false)∨(d=c+1∧xK s p.id=true∧∃hc:c<s.length,s[c].id=p.id)):=by
 have ha:=qk0.2 h
 have hlt:∀x∈s.take (eD s p.id),x.id<p.id:=fun x hx=>by
  obtain⟨i,hi,rfl⟩:=List.mem_take_iff_getElem.1 hx
  exact cnt_lt (by omega) (by omega)
 have hle:=Ux0 s p.id
 cases e:xK s p.id
 ·refine⟨eD s p.id,eD s p.id,by unfold JQ;rw[if_neg (by rw[e];decide)],hlt,fun x hx=>?_,hle,hle,.inl ⟨rfl,rfl⟩⟩
  obtain⟨i,hi,rfl⟩:=List.mem_drop_iff_getElem.1 hx
  have h1:=Np0 ha (id:=p.id) (i:=eD s p.id+i) (by omega) (by omega)
  have h2:=(xR e).2 _ (List.getElem_mem (show eD s p.id+i<s.length by omega))
  omega
 ·obtain⟨hc,hid⟩:=(dl0 ha).1 e
  refine⟨eD s p.id,eD s p.id+1,by unfold JQ;rw[if_pos e,List.set_eq_take_append_cons_drop,if_pos hc],hlt,fun x hx=>?_,hle,by omega,.inr ⟨rfl,rfl,hc,hid⟩⟩
  obtain⟨i,hi,rfl⟩:=List.mem_drop_iff_getElem.1 hx
  have:=rk0 ha (i:=eD s p.id) (j:=eD s p.id+1+i) (by omega) (by omega)
  omega
theorem Mw0{s:List Pr}(h:Asc s)(p:Pr):Asc (JQ s p):=by
 obtain⟨c,d,e,h1,h2,_,_,hcd⟩:=uh0 h p
 rw[e]
 unfold Asc
 rw[List.pairwise_append,List.pairwise_cons]
 refine⟨h.sublist (List.take_sublist _ _),⟨h2,h.sublist (List.drop_sublist _ _)⟩,fun x hx y hy=>?_⟩
 rcases List.mem_cons.1 hy with rfl | hy
 ·exact h1 x hx
 ·exact Int.lt_trans (h1 x hx) (h2 y hy)
theorem Nw0{s:List Pr}(h:Asc s)(p x:Pr):x∈JQ s p↔x=p∨(x∈s∧x.id≠p.id):=by
 obtain⟨c,d,e,h1,h2,hc,hd,hcd⟩:=uh0 h p
 rw[e,List.mem_append,List.mem_cons]
 constructor
 ·rintro(hx | rfl | hx)
  ·exact .inr ⟨List.mem_of_mem_take hx,by have:=h1 x hx;omega⟩
  ·exact .inl rfl
  ·exact .inr ⟨List.mem_of_mem_drop hx,by have:=h2 x hx;omega⟩
 ·rintro(rfl | ⟨hx,hne⟩)
  ·exact .inr (.inl rfl)
  ·have hs:s=s.take c++s.drop c:=(List.take_append_drop c s).symm
   rw[hs] at hx
   rcases List.mem_append.1 hx with hx | hx
   ·exact .inl hx
   ·rcases hcd with⟨rfl,_⟩ | ⟨rfl,_,hlt,hid⟩
    ·exact .inr (.inr hx)
    ·rw[List.drop_eq_getElem_cons hlt] at hx
     rcases List.mem_cons.1 hx with rfl | hx
     ·exact absurd hid hne
     ·exact .inr (.inr hx)
theorem yB0{s:List Pr}(h:Asc s)(p:Pr):(JQ s p).length=if xK s p.id=true then s.length else s.length+1:=by
 obtain⟨c,d,e,h1,h2,hc,hd,hcd⟩:=uh0 h p
 rw[e,List.length_append,List.length_cons,List.length_take,List.length_drop]
 rcases hcd with⟨rfl,hh⟩ | ⟨rfl,hh,hlt,_⟩
 ·rw[if_neg (by rw[hh];decide)];omega
 ·rw[if_pos hh];omega
theorem vh0{s:List Pr}(h:DC s){p:Pr}(hp:KR p)(hl:xK s p.id=true∨s.length<50):DC (JQ s p):=by
 refine⟨fun x hx=>?_,qk0.2 (Mw0 h.pw p),?_⟩
 ·rcases(Nw0 h.pw p x).1 hx with rfl | ⟨hx,_⟩
  ·exact hp
  ·exact h.fine x hx
 ·rw[yB0 h.pw p]
  have:=h.len
  split
  ·exact this
  ·rename_i hh
   rcases hl with hl | hl
   ·exact absurd hl hh
   ·omega
theorem gw0{p:Pr}(hp:KR p)(hn:p.next<1099511627776){pos:Int}(hpos:inP pos)(hb:¬(0<p.last.length∧pos≤p.last.getD (p.last.length-1) 0)):KR (mi0 p pos):=by
 have hnext:=hp.next
 have hlen:=hp.len
 have hl2:(p.last++[pos]).length=p.last.length+1:=by simp
 have hget:∀i (h:i<(p.last++[pos]).length),(p.last++[pos])[i]=if h':i<p.last.length then p.last[i] else pos:=fun i h=>by
  by_cases h':i<p.last.length
  ·rw[dif_pos h',List.getElem_append_left h']
  ·rw[dif_neg h',List.getElem_append_right (by omega)]
   simp
 have each:∀i (h:i<(p.last++[pos]).length),inP (p.last++[pos])[i]:=fun i h=>by
  rw[hget i h]
  split
  ·rename_i h';exact hp.each i h'
  ·exact hpos
 have asc:∀i (h:i<(p.last++[pos]).length),0<i→(p.last++[pos])[i-1]<(p.last++[pos])[i]:=fun i h h0=>by
  rw[hget i h,hget (i-1) (by omega)]
  by_cases h':i<p.last.length
  ·rw[dif_pos h',dif_pos (by omega)];exact hp.asc i h' h0
  ·rw[dif_neg h',dif_pos (by omega)]
   have hi:i-1=p.last.length-1:=by omega
   have hgd:p.last.getD (p.last.length-1) 0=p.last[p.last.length-1]'(by omega):=by rw[List.getD_eq_getElem?_getD,List.getElem?_eq_getElem (by omega)];rfl
   rw[hgd] at hb
   simp only[hi]
   omega
 unfold inP at hnext
 have hdl:(mi0 p pos).last.length=(p.last++[pos]).length-((p.last++[pos]).length-20):=List.length_drop ..
 refine⟨hp.id,hp.epoch,⟨by show 0≤p.next+1;omega,by show p.next+1≤_;omega⟩,?_,fun i h=>?_,fun i h h0=>?_⟩
 ·rw[hdl]
  show _=min (p.next+1) 20
  omega
 ·have:(mi0 p pos).last[i]=(p.last++[pos])[(p.last++[pos]).length-20+i]'(by rw[hdl] at h;omega):=List.getElem_drop ..
  rw[this]
  exact each _ _
 ·have e1:(mi0 p pos).last[i]=(p.last++[pos])[(p.last++[pos]).length-20+i]'(by rw[hdl] at h;omega):=List.getElem_drop ..
  have e2:(mi0 p pos).last[i-1]=(p.last++[pos])[(p.last++[pos]).length-20+(i-1)]'(by rw[hdl] at h;omega):=List.getElem_drop ..
  rw[e1,e2]
  have:=asc ((p.last++[pos]).length-20+i) (by rw[hdl] at h;omega) (by omega)
  have e3:(p.last++[pos]).length-20+i-1=(p.last++[pos]).length-20+(i-1):=by omega
  simp only[e3] at this
  exact this
theorem iw0{s:List Pr}(h:DC s)(id e q pos:Int):DC (DY s id e q pos):=by
 unfold DY
 by_cases c0:(nO s id e q).2≠0
 ·rw[if_pos c0];exact h
 rw[if_neg c0]
 have c0:(nO s id e q).2=0:=by simpa using c0
 obtain⟨⟨h1,_,h3⟩,he,hq,hfull⟩:=look_ok c0
 by_cases c1:¬inP pos
 ·rw[if_pos c1];exact h
 rw[if_neg c1]
 by_cases c2:0<(PD s id).last.length∧pos≤(PD s id).last.getD ((PD s id).last.length-1) 0
 ·rw[if_pos c2];exact h
 rw[if_neg c2]
 have hid:=ct0 s id
 have hfine:=(jv0 h (id:=id) ⟨h1.1,by have:=h1.2;omega⟩).1
 refine vh0 h (gw0 hfine (by rw[←hq];exact h3.2) (Decidable.of_not_not c1) c2) ?_
 show xK s (PD s id).id=true∨_
 rw[hid]
 cases e:xK s id
 ·right
  exact Nat.lt_of_not_le fun hh=>hfull ⟨e,hh⟩
 ·exact .inl rfl
theorem ty0{s:List Pr}{id:Int}(h:(FJ s id).2.2=0):okN id∧¬(PD s id).epoch=1099511627776∧¬(xK s id=false∧50≤s.length)∧FJ s id=(JQ s ⟨id,(PD s id).epoch+1,0,[]⟩,(PD s id).epoch+1,0):=by
 unfold FJ at h ⊢
 by_cases c1:¬okN id∨(PD s id).epoch=1099511627776
 ·rw[if_pos c1] at h;cases h
 rw[if_neg c1] at h ⊢
 by_cases c2:xK s id=false∧50≤s.length
 ·rw[if_pos c2] at h;cases h
 rw[if_neg c2]
 exact⟨Decidable.of_not_not fun hh=>c1 (.inl hh),fun hh=>c1 (.inr hh),c2,rfl⟩
theorem Dn0{s:List Pr}(h:DC s){id:Int}(he:(FJ s id).2.2=0):DC (FJ s id).1:=by
 obtain⟨h1,h2,h3,e⟩:=ty0 he
 rw[e]
 have hsm:=YU h (id:=id)
 refine vh0 h ⟨⟨h1.1,by have:=h1.2;show id≤_;omega⟩,⟨by show 0≤(PD s id).epoch+1;omega,by show (PD s id).epoch+1≤_;omega⟩,(show inP 0 by decide),rfl,fun i h=>absurd h (Nat.not_lt_zero i),fun i h=>absurd h (Nat.not_lt_zero i)⟩ ?_
 show xK s id=true∨_
 cases e:xK s id
 ·right
  exact Nat.lt_of_not_le fun hh=>h3 ⟨e,hh⟩
 ·exact .inl rfl
theorem rw0:DC []:=⟨fun p hp=>(by cases hp),fun i h=>absurd h (Nat.not_lt_zero i),Nat.zero_le _⟩
abbrev OD:=T9
def sB0(n:Int):OD:=⟨0,n,⟨#[]⟩⟩
def op0(s:ByteArray):OD:=⟨1,0,s⟩
def dd0(b:Bool):OD:=⟨2,if b then 1 else 0,⟨#[]⟩⟩
def xS(v:OD):Bool:=if v.kind=0 then decide (v=sB0 v.n) else if v.kind=1 then decide (v=op0 v.s)&&decide ((v.s.size:Int)≤200) else decide (v=dd0 false)||decide (v=dd0 true)
def wU(l:List OD):Bool:=decide ((l.length:Int)≤12)&&l.all xS
section
variable {B:Base} {w:World}
theorem OG0(n:Int):Gives prog B (Z0 FV #[.int .i64 n]) (sB0 n).v:=by
 refine Gives.intro fun B' w K base h k=>?_
 refine mX.up ?_
 unfold mX.pt
 refine h.alloc JK fun o w1 h=>?_
 rw[YO]
 refine h.YG 0 (ds:=(sB0 n).cs.toArray) rfl Z7 rfl rfl (fun v hv=>Enc.one (sB0 n) v hv) fun w2 h=>?_
 rw[qJ h 0 rfl Z7 rfl]
 exact k _ _ h
theorem gE0(s:ByteArray):Gives prog B (Z0 FU #[.string s]) (op0 s).v:=by
 refine Gives.intro fun B' w K base h k=>?_
 refine sV.up ?_
 unfold sV.pt
 refine h.alloc JK fun o w1 h=>?_
 rw[sa0]
 refine h.YG 0 (ds:=(op0 s).cs.toArray) rfl Z7 rfl rfl (fun v hv=>Enc.one (op0 s) v hv) fun w2 h=>?_
 rw[qJ h 0 rfl Z7 rfl]
 exact k _ _ h
theorem ju0(b:Bool):Gives prog B (Z0 NQ #[.bool b]) (dd0 b).v:=by
 refine Gives.intro fun B' w K base h k=>?_
 refine rV.up ?_
 unfold rV.pt
 refine h.alloc JK fun o w1 h=>?_
 rw[R5]
 refine⟨fun e=>?_,fun e=>?_⟩<;>subst e
 ·rw[YO]
  refine h.YG 0 (ds:=(dd0 true).cs.toArray) rfl Z7 rfl rfl (fun v hv=>Enc.one (dd0 true) v hv) fun w2 h=>?_
  rw[qJ h 0 rfl Z7 rfl]
  exact k _ _ h
 ·rw[Me0]
  refine h.YG 0 (ds:=(dd0 false).cs.toArray) rfl Z7 rfl rfl (fun v hv=>Enc.one (dd0 false) v hv) fun w2 h=>?_
  rw[qJ h 0 rfl Z7 rfl]
  exact k _ _ h
theorem tB0(v:OD):Gives prog B (Z0 nT #[v.v]) (.bool (xS v)):=by
 refine Gives.intro fun B' w K base h k=>?_
 refine fT.up ?_
 unfold fT.pt
 refine h.box fun o w1 h=>?_
 have h:Rel B' w1 [O1 o R3 v.cs.toArray]:=h
 have ht:=h.tick
 unfold xS at k
 simp -zeta only[U0 vP,U0 KT,U0 mM,Nat.add_zero,Nat.zero_add,h.ld 0 rfl Y2 (o:=0) rfl,F7,K3,ht.r9 0 rfl Z7 rfl,ht.ld 0 rfl Y2 (o:=1) rfl,ht.ld 0 rfl U6 (o:=2) rfl]
 refine⟨fun c0=>?_,fun c0=>?_⟩
 ·rw[if_pos c0] at k
  refine ht.ask (fun B2 own base2=>OG0 v.n) fun w2 h=>?_
  refine⟨h.bV 0 rfl Z7 rfl,?_⟩
  rw[show (Value.agg v.cs.toArray)=v.v from rfl,QQ]
  exact k _ _ h
 rw[if_neg c0] at k
 refine⟨fun c1=>?_,fun c1=>?_⟩
 ·rw[if_pos c1] at k
  refine ht.ask (fun B2 own base2=>gE0 v.s) fun w2 h=>?_
  refine⟨h.bV 0 rfl Z7 rfl,?_⟩
  rw[show (Value.agg v.cs.toArray)=v.v from rfl,QQ,K3]
  refine⟨fun c2=>?_,fun c2=>?_⟩
  ·rw[decide_eq_true c2,Bool.true_and] at k
   simp -zeta only[h.ld 0 rfl U6 (o:=2) rfl,LC K8,WC]
   exact k _ _ h
  ·rw[decide_eq_false c2,Bool.false_and] at k
   exact k _ _ h
 rw[if_neg c1] at k
 refine ht.ask (fun B2 own base2=>ju0 false) fun w2 h=>?_
 refine⟨h.bV 0 rfl Z7 rfl,?_⟩
 rw[show (Value.agg v.cs.toArray)=v.v from rfl,QQ,K3]
 refine⟨fun c2=>?_,fun c2=>?_⟩
 ·rw[decide_eq_true c2,Bool.true_or] at k
  exact k _ _ h
 ·rw[decide_eq_false c2,Bool.false_or] at k
  rw[h.r9 0 rfl Z7 rfl]
  refine h.ask (fun B2 own base2=>ju0 true) fun w3 h=>?_
  refine⟨h.bV 0 rfl Z7 rfl,?_⟩
  rw[show (Value.agg v.cs.toArray)=v.v from rfl,QQ]
  exact k _ _ h
theorem gF0(v:OD):Gives prog B (dA (.func (.func qP) #[] #[]) #[Enc.val v]) (.bool (!xS v)):=by
 refine Gives.intro fun B' w K base h k=>?_
 refine YH ?_
 refine OG.up (v0:=v.v) (OG.call ?_)
 unfold OG.pt
 refine h.box fun o w1 h=>?_
 have h:Rel B' w1 [O1 o R3 v.cs.toArray]:=h
 rw[h.r9 0 rfl Z7 rfl]
 refine h.ask (fun B2 own base2=>tB0 v) fun w2 h=>?_
 rw[V7]
 exact k _ _ h
theorem Yc0{u:Value}{l:List OD}(r:O4 u l B):Gives prog B (Z0 gF #[u]) (.bool (wU l)):=by
 refine Gives.intro fun B' w K base h k=>?_
 replace r:=base r
 refine yO.up ?_
 unfold yO.pt
 unfold wU at k
 simp -zeta only[O4.len r Q8,WC,K3]
 refine⟨fun c=>?_,fun c=>?_⟩
 ·rw[decide_eq_true c,Bool.true_and] at k
  refine h.ask (v := .bool (l.all xS)) (fun B2 own base2=>?_) fun w1 h=>k _ _ h
  refine Gives.intro fun B3 w K base3 h k=>?_
  refine nX.up ?_
  unfold nX.pt
  refine h.ask (fun B4 own base4=>OI (base4 (base3 (base2 r))) (by omega) (fun v=>!xS v) fun B5 base5 x _=>gF0 x) fun w1 h=>?_
  rw[V7]
  have e:(!l.any fun v=>!xS v)=l.all xS:=by
   rw[List.not_any_eq_all_not]
   simp
  rw[e]
  exact k _ _ h
 ·rw[decide_eq_false c,Bool.false_and] at k
  exact k _ _ h
theorem nr0{u:Value}{l:List OD}(r:O4 u l B)(_:l.length≤4611686018427387904):Gives prog B (Z0 gF #[u]) (.bool (wU l)):=Yc0 r
end
abbrev Sw0:=LK
abbrev KnD:=uI
abbrev EnD:=xD
structure Kn where
 source:ByteArray
 schema:Int
 cols:List Sw0
abbrev KnL:=List (Kn×SV)
abbrev Kn.raw(k:Kn)(v:SV):KnD:=⟨k.source,k.schema,v⟩
def DL(L:KnL):List KnD:=L.map fun k=>k.1.raw k.2
def AZ(L:KnL):Dat:=Dat.all L fun k=>O4 k.2.1 k.1.cols
def JA(u:Value)(s:List Kn):Dat:=⟨fun B=>∃L:KnL,L.map (·.1)=s∧O4 u (DL L) B∧AZ L B,fun hl ⟨L,h1,h2,h3⟩=>⟨L,h1,Dat.mono _ hl h2,Dat.mono _ hl h3⟩⟩
def Kq0(src:ByteArray)(schema:Int)(k:Kn):Bool:=decide (k.source=src)&&decide (k.schema=schema)
def BZ(r:List OD)(cs:List Sw0):Bool:=decide (r.map (·.kind)=cs.map (·.type_))
def WX(s:List Kn)(src:ByteArray)(schema:Int)(r:List OD):Int:=match s.find? (Kq0 src schema) with
 | none=>17
 | some k=>if BZ r k.cols=true∧wU r=true then 0 else 16
section
variable {B:Base} {w:World}
theorem zC0{b:Nat}{en:EnD}(hc:O1 b U1 en.cs.toArray B)(x:KnD):Gives prog B (dA (.func (.func yC) #[] #[.pointer (some ⟨b,0,none⟩)]) #[Enc.val x]) (.bool (decide (x.source=en.source)&&decide (x.schema=en.schema))):=by
 refine Gives.intro fun B' w K base h k=>?_
 replace hc:=base hc
 refine YH ?_
 refine F_.up (k0:=x.v) (t1 := .pointer (some ⟨b,0,none⟩)) (F_.call ?_)
 unfold F_.pt
 refine h.box fun o w1 h=>?_
 have h:Rel B' w1 [O1 o A8 x.cs.toArray]:=h
 simp -zeta only[U0 Sh0,U0 Uh0,U0 sJ,U0 kM,Nat.add_zero,Nat.zero_add,h.ld 0 rfl U6 (o:=0) rfl,h.ld 0 rfl Y2 (o:=1) rfl,O1.ld (h.L6 hc) U6 (o:=4) rfl,O1.ld (h.L6 hc) Y2 (o:=5) rfl,WW,K3]
 refine⟨fun c=>?_,fun c=>?_⟩
 ·rw[decide_eq_true c,Bool.true_and] at k
  rw[F7]
  exact k _ _ h
 ·rw[decide_eq_false c,Bool.false_and] at k
  exact k _ _ h
theorem AC0(v:OD)(c:Sw0):Gives prog B (dA (.func (.func zC) #[] #[]) #[Enc.val v,Enc.val c]) (.bool (decide (v.kind=c.type_))):=by
 refine Gives.intro fun B' w K base h k=>?_
 refine YH ?_
 refine G_.up (v0:=v.v) (c1:=c.v) (G_.call ?_)
 unfold G_.pt
 refine h.box fun o w1 h=>?_
 refine h.box fun o2 w2 h=>?_
 have h:Rel B' w2 [O1 o R3 v.cs.toArray,O1 o2 iB c.cs.toArray]:=h
 simp -zeta only[U0 vP,U0 Bn0,Nat.add_zero,Nat.zero_add,h.ld 0 rfl Y2 (o:=0) rfl,h.ld 1 rfl Y2 (o:=1) rfl,F7]
 exact k _ _ h
theorem Mk0{u v:Value}{l:List OD}{m:List Sw0}(r:O4 u l B)(q:O4 v m B)(hl:l.length≤4611686018427387904):Gives prog B (Z0 E9 #[u,v,.func (.func zC) #[] #[]]) (.bool (BZ l m)):=by
 refine Gives.intro fun B' w K base h k=>?_
 replace r:=base r
 replace q:=base q
 refine F8.up ?_
 unfold F8.pt
 have no:∀w' τ,Rel B' w' τ→l.map (·.kind)≠m.map (·.type_)→K (.bool false) w':=fun w' τ h hn=>by
  rw[show BZ l m=false from decide_eq_false hn] at k
  exact k _ _ h
 simp -zeta only[O4.len r Q8,O4.len q wO,Q7,G5,K3]
 refine⟨fun he=>?_,fun hne=>no _ _ h fun hh=>hne (by have:=congrArg List.length hh;rw[List.length_map,List.length_map] at this;rw[this])⟩
 refine F6 (fun x w'=>∃i:Nat,i≤l.length∧x=(.int .i64 i,())∧(∀j (h1:j<l.length) (h2:j<m.length),j<i→l[j].kind=m[j].type_)∧Rel B' w' []) (fun x _=>l.length-(match x.1 with | .int _ n=>n.toNat | _=>0))
  ⟨0,Nat.zero_le _,rfl,fun j _ _ hj=>absurd hj (Nat.not_lt_zero j),h⟩ ?_
 clear h
 rintro x w1 ⟨i,hi,rfl,hin,h⟩ next hnext
 simp -zeta only[G6,K3]
 refine⟨fun hlt=>?_,fun hge=>?_⟩
 ·have hil:i<l.length:=by omega
  have him:i<m.length:=by omega
  obtain⟨g,o,hx,hc⟩:=O4.idx r Q8 (P:=prog) hil
  obtain⟨g2,o2,hx2,hc2⟩:=O4.idx q wO (P:=prog) him
  have hc:K6 g o l[i].cs B':=hc
  have hc2:K6 g2 o2 m[i].cs B':=hc2
  rw[hx,K6.r9 (h.L6 hc) Z7 rfl]
  refine h.R8 (ds:=l[i].cs.toArray) JK rfl Z7 rfl (fun v hv=>Enc.one l[i] v hv) fun a w3 h=>?_
  rw[hx2,K6.r9 (h.L6 hc2) mY rfl]
  refine h.R8 (ds:=m[i].cs.toArray) Qw0 rfl mY rfl (fun v hv=>Enc.one m[i] v hv) fun a2 w5 h=>?_
  have h:Rel B' w5 [O1 a R3 l[i].cs.toArray,O1 a2 iB m[i].cs.toArray]:=h
  rw[h.r9 0 rfl Z7 rfl,h.r9 1 rfl mY rfl]
  refine h.ask (fun B2 own base2=>AC0 l[i] m[i]) fun w6 h=>?_
  rw[V7,G5,K3]
  refine⟨fun c=>?_,fun c=>no _ _ h fun hh=>c ?_⟩
  ·rw[Z5,E5 (by omega) (by omega)]
   refine hnext _ _ ⟨i+1,hil,rfl,fun j h1 h2 hj=>?_,h.nil⟩ (by simp only;omega)
   by_cases e:j=i
   ·subst e;exact c
   ·exact hin j h1 h2 (by omega)
  ·have h1:(l.map (·.kind))[i]'(by rw[List.length_map];exact hil)=(m.map (·.type_))[i]'(by rw[List.length_map];exact him):=by simp only[hh]
   simpa using h1
 ·have:l.map (·.kind)=m.map (·.type_):=List.ext_getElem (by rw[List.length_map,List.length_map];omega) fun j h1 h2=>by
   rw[List.length_map] at h1 h2
   simp only[List.getElem_map]
   exact hin j h1 h2 (by omega)
  rw[show BZ l m=true from decide_eq_true this] at k
  exact k _ _ h
end
theorem Jf0:KeyTy prog Q0 Int:=KeyTy.int IV
abbrev CfD:=JE
structure IS where
 cfg:CfD
 known:List Kn
 now:Int
 top:Int
 next:Int
 refused:Int
 prods:List Pr
 cnt:Int→Int
structure iK (cnt:Int→Int) (l:List (Ent Int Int)) (c:Nat):Prop where
 wf:WfE l c
 get:∀t,SF t l=if cnt t=0 then none else some (cnt t)
theorem iK.getD{cnt:Int→Int}{l:List (Ent Int Int)}{c:Nat}(h:iK cnt l c)(t:Int):(SF t l).getD 0=cnt t:=by
 rw[h.get]
 split
 ·rename_i h;exact h.symm
 ·rfl
structure uF (c:CfD):Prop where
 late:0≤c.late∧c.late≤10000
 delay:0≤c.delay∧c.delay≤c.late
 ahead:0≤c.ahead∧c.ahead≤10000
 rate:1≤c.rate∧c.rate≤20
structure RN (s:IS):Prop where
 cfg:uF s.cfg
 prods:DC s.prods
 now:0≤s.now∧s.now≤1099511627776
 top : -1≤s.top∧s.top≤1099511627776
 next:0≤s.next∧s.next≤1000000000
 refused:0≤s.refused∧s.refused≤1000000000
 cnt:∀t,0≤s.cnt t∧s.cnt t≤s.cfg.rate
def O9(s:IS):Int:=max (-1) (s.top-s.cfg.late-1)
def ub0(s:IS)(t:Int):IS:={ s with top:=max s.top t,cnt:=fun x=>if x≤O9 { s with top:=max s.top t } then 0 else s.cnt x }
def YE(t:Int):Prop:=0≤t∧t≤1099511627776
instance (t:Int):Decidable (YE t):=by unfold YE;infer_instance
def CX(s:IS)(e:EnD)(r:List OD):Int×Int :=
 if(nO s.prods e.producer e.epoch e.seq).2≠0 then nO s.prods e.producer e.epoch e.seq else if ¬YE e.time then(0,3) else if WX s.known e.source e.schema r≠0 then(0,WX s.known e.source e.schema r)
 else if e.time≤O9 s then(0,20) else if s.now+s.cfg.ahead<e.time then(0,21) else if s.cfg.rate≤s.cnt e.time then(0,22) else(s.next,0)
abbrev ics(s:IS)(kv pv:SV)(m:Nat):Array Value:=#[.int .i64 s.cfg.parts,.int .i64 s.cfg.delay,.int .i64 s.cfg.late,.int .i64 s.cfg.ahead,.int .i64 s.cfg.rate,.int .i64 s.cfg.span,kv.1,.int .i64 s.now,.int .i64 s.top,.int .i64 s.next,.int .i64 s.refused,pv.1,oO m]
abbrev IX:=(SV×SV)×(Nat×List (Ent Int Int)×Nat)
abbrev yq0(p:Nat)(s:IS)(x:IX):List Dat:=[O1 p O3 (ics s x.1.1 x.1.2 x.2.1),W9 x.2.1 x.2.2.1 x.2.2.2,JA x.1.1.1 s.known,GJ x.1.2.1 s.prods]
def intD(p:Nat)(s:IS):Dat:=Dat.ex fun x:IX=>(Dat.pure (iK s.cnt x.2.2.1 x.2.2.2)).and (yU (yq0 p s x))
section
variable {B:Base} {w:World} {p:Nat} {s:IS}
theorem intD.open_(h:Rel B w [intD p s]):∃kv pv m l c,iK s.cnt l c∧Rel B w [O1 p O3 (ics s kv pv m),W9 m l c,JA kv.1 s.known,GJ pv.1 s.prods]:=by
 obtain⟨x,h⟩:=h.ex (i:=0) rfl
 obtain⟨h1,h⟩:=h.VS (i:=0) rfl
 have h:=Rel.lX (σ:=[]) (L:=yq0 p s x) h
 exact⟨_,_,_,_,_,h1,h⟩
theorem intD.close{kv pv:SV}{m c:Nat}{l:List (Ent Int Int)}(hc:iK s.cnt l c)(h:Rel B w [O1 p O3 (ics s kv pv m),W9 m l c,JA kv.1 s.known,GJ pv.1 s.prods]):Rel B w [intD p s]:=by
 have h:=Rel.kR (σ:=[]) h
 exact h.imp (i:=0) (e:=intD p s) rfl fun B hB=>⟨((kv,pv),(m,l,c)),hc,hB⟩
theorem intD.jP(h:intD p s B):∃kv pv m l c,iK s.cnt l c∧O1 p O3 (ics s kv pv m) B∧W9 m l c B∧JA kv.1 s.known B∧GJ pv.1 s.prods B:=by
 obtain⟨x,h1,h3⟩:=h
 exact⟨_,_,_,_,_,h1,Dat.star.left h3,Dat.star.left (Dat.star.right h3),Dat.star.left (Dat.star.right (Dat.star.right h3)),Dat.star.left (Dat.star.right (Dat.star.right (Dat.star.right h3)))⟩
abbrev qb0(p:Nat):Value := .pointer (some ⟨p,0,none⟩)
theorem aX{kv pv:SV}{m:Nat}(hc:O1 p O3 (ics s kv pv m) B)(hg:uF s.cfg)(ht : -1≤s.top∧s.top≤1099511627776):Gives prog B (Z0 AA #[qb0 p]) (.int .i64 (O9 s)):=by
 refine Gives.intro fun B' w K base h k=>?_
 replace hc:=base hc
 refine BG.up ?_
 unfold BG.pt
 have h:=h.tick
 have h1:=hg.late
 simp -zeta only[J5,U0 wG,U0 bO,U0 ZR,Nat.zero_add,O1.ld (h.L6 hc) Y2 (o:=8) rfl,O1.ld (h.L6 hc) Y2 (o:=2) rfl,TB,II]
 rw[E5 (n:=s.top-s.cfg.late) (by omega) (by omega),E5 (by omega) (by omega)]
 exact k _ _ h
theorem qv0(hI:intD p s B)(hg:RN s):Gives prog B (Z0 AA #[qb0 p]) (.int .i64 (O9 s)):=by
 obtain⟨kv,pv,m,l,c,_,hc,_⟩:=intD.jP hI
 exact aX hc hg.cfg hg.top
theorem zZ(t:Int):Gives prog B (Z0 gG #[.int .i64 t]) (.bool (decide (YE t))):=by
 refine Gives.intro fun B' w K base h k=>?_
 refine yP.up ?_
 unfold yP.pt
 refine h.ask (v := .bool (decide (YE t))) (fun B2 own base2=>?_) fun w1 h=>k _ _ h
 refine Gives.intro fun B3 w K base3 h k=>?_
 refine lI.up ?_
 unfold lI.pt
 simp -zeta only[FC,WC,K3]
 refine⟨fun c=>?_,fun c=>?_⟩
 ·have e:decide (YE t)=decide (t≤1099511627776):=decide_eq_decide.2 ⟨fun hh=>hh.2,fun hh=>⟨c,hh⟩⟩
  rw[e] at k
  exact k _ _ h
 ·rw[decide_eq_false (fun hh:YE t=>c hh.1)] at k
  exact k _ _ h
theorem BC0{kv pv:SV}{m:Nat}(hc:O1 p O3 (ics s kv pv m) B)(hkn:JA kv.1 s.known B){en:EnD}{r:List OD}(hr:O4 en.row.1 r B)(hrl:r.length≤4611686018427387904)(hkl:s.known.length≤4611686018427387904) :
  Gives prog B (Z0 nK #[qb0 p,en.v]) (.int .i64 (WX s.known en.source en.schema r)):=by
 refine Gives.intro fun B' w K base h k=>?_
 replace hc:=base hc
 replace hr:=base hr
 obtain⟨L,hL,rk,rc⟩:=base hkn
 have hal:(DL L).length=L.length:=List.length_map ..
 have hll:L.length≤4611686018427387904:=by rw[←hL,List.length_map] at hkl;exact hkl
 refine SI.up ?_
 unfold SI.pt
 refine h.box fun o w1 h=>?_
 have h:Rel B' w1 [O1 o U1 en.cs.toArray]:=h
 simp -zeta only[J5,U0 cO,Nat.zero_add,O1.ld (h.L6 hc) mI (o:=6) rfl,TI]
 refine h.ask (fun B2 own base2=>fK (base2 rk) (by omega) (fun x=>decide (x.source=en.source)&&decide (x.schema=en.schema)) fun B3 base3 x _=>zC0 (base3 (own (i:=0) rfl)) x) fun w2 h=>?_
 have h:=h
 have ht:=h.tick
 unfold WX at k
 rcases Ri0 (fun x:KnD=>decide (x.source=en.source)&&decide (x.schema=en.schema)) (DL L) with⟨hi,hno⟩ | ⟨i,hi,hil,hat,hno⟩
 ·rw[hi,G6,decide_eq_true (by decide),lC]
  have hf:s.known.find? (Kq0 en.source en.schema)=none:=by
   rw[List.find?_eq_none,←hL]
   intro x hx
   obtain⟨y,hy,rfl⟩:=List.mem_map.1 hx
   have:=hno (y.1.raw y.2) (List.mem_map_of_mem hy)
   simpa [Kq0] using this
  rw[hf] at k
  exact k _ _ h
 ·rw[hi,G6,decide_eq_false (by omega),d_]
  have hil':i<L.length:=by omega
  have hel:(DL L)[i]=L[i].1.raw L[i].2:=by simp [DL]
  have hf:s.known.find? (Kq0 en.source en.schema)=some L[i].1:=by
   rw[←hL,List.find?_eq_some_iff_getElem]
   rw[hel] at hat
   refine⟨hat,i,by rw[List.length_map];exact hil',by simp,fun j hj=>?_⟩
   have:=hno ((DL L)[j]'(by omega)) (List.mem_take_iff_getElem.2 ⟨j,by omega,rfl⟩)
   have hel2:(DL L)[j]'(by omega)=(L[j]'(by omega)).1.raw (L[j]'(by omega)).2:=by simp [DL]
   rw[hel2] at this
   have this:Kq0 en.source en.schema (L[j]'(by omega)).1=false:=this
   simp [this]
  rw[hf] at k
  obtain⟨g,oo,hx,hcc⟩:=O4.idx rk ND (P:=prog) (i:=i) hil
  rw[hel] at hcc
  have hcc:K6 g oo (L[i].1.raw L[i].2).cs B':=hcc
  have hcol:O4 L[i].2.1 L[i].1.cols B':=rc L[i] (List.getElem_mem hil')
  simp -zeta only[U0 aF,Nat.zero_add,ht.ld 0 rfl H7 (o:=7) rfl,O1.ld (ht.L6 hc) mI (o:=6) rfl,hx,U0 OX,K6.ld (ht.L6 hcc) lV (j:=2) rfl]
  refine ht.ask (fun B2 own base2=>Mk0 (base2 hr) (base2 hcol) hrl) fun w3 h=>?_
  simp only at k
  rw[V7,G5,R5]
  refine⟨fun c1=>?_,fun c1=>?_⟩
  ·simp -zeta only[h.ld 0 rfl H7 (o:=7) rfl]
   refine h.ask (fun B2 own base2=>nr0 (base2 hr) hrl) fun w4 h=>?_
   rw[V7,G5,R5]
   refine⟨fun c2=>?_,fun c2=>?_⟩
   ·rw[if_pos ⟨c1,c2⟩] at k;exact k _ _ h
   ·rw[if_neg (fun hh=>by rw[c2] at hh;cases hh.2)] at k;exact k _ _ h
  ·rw[if_neg (fun hh=>by rw[c1] at hh;cases hh.1)] at k;exact k _ _ h
theorem nG0(hI:intD p s B)(hg:RN s){en:EnD}{r:List OD}(hr:O4 en.row.1 r B)(hrl:r.length≤4611686018427387904)(hkl:s.known.length≤4611686018427387904) :
  Gives prog B (Z0 JL #[qb0 p,en.v]) (.tuple #[.int .i64 (CX s en r).1,.int .i64 (CX s en r).2]):=by
 refine Gives.intro fun B' w K base h k=>?_
 obtain⟨kv,pv,m,l,c,hk,hc,hm,hkn,L,hL,rt,qt⟩:=intD.jP (base hI)
 replace hr:=base hr
 refine RJ.up ?_
 unfold RJ.pt
 have fin:∀(x:Int×Int) w' τ,CX s en r=x→Rel B' w' τ→K (.tuple #[.int .i64 x.1,.int .i64 x.2]) w':=fun x w' τ e h=>by rw[e] at k;exact k _ _ h
 clear k
 unfold CX at fin
 have hR:DC (prs L):=by rw[hL];exact hg.prods
 refine h.box fun o w1 h=>?_
 have h:Rel B' w1 [O1 o U1 en.cs.toArray]:=h
 have h:=h.tick
 simp -zeta only[J5,U0 xG,Nat.zero_add,O1.ld (h.L6 hc) g_ (o:=11) rfl,h.r9 0 rfl M8 rfl]
 refine h.ask (fun B2 own base2=>Vw0 (base2 rt) (base2 qt) hR en) fun w2 h=>?_
 rw[hL]
 simp -zeta only[M9,D9,Q7,G5,K3]
 refine⟨fun c0=>?_,fun c0=>fin _ _ _ (by rw[if_pos c0]) h⟩
 simp -zeta only[U0 UG,Nat.zero_add,h.ld 0 rfl Y2 (o:=6) rfl]
 refine h.ask (fun B2 own base2=>zZ en.time) fun w3 h=>?_
 rw[V7,G5,K3]
 refine⟨fun c1=>?_,fun c1=>fin (0,3) _ _ (by rw[if_neg (fun hh=>hh c0),if_pos c1]) h⟩
 rw[h.r9 0 rfl M8 rfl]
 refine h.ask (fun B2 own base2=>BC0 (base2 hc) (base2 hkn) (base2 hr) hrl hkl) fun w4 h=>?_
 rw[Q7,G5,K3]
 refine⟨fun c2=>?_,fun c2=>fin (0,WX s.known en.source en.schema r) _ _ (by rw[if_neg (fun hh=>hh c0),if_neg (fun hh=>hh c1),if_pos c2]) h⟩
 have h:=h.tick
 simp -zeta only[h.ld 0 rfl Y2 (o:=6) rfl]
 refine h.ask (fun B2 own base2=>aX (base2 hc) hg.cfg hg.top) fun w5 h=>?_
 refine⟨h.is 0 rfl Y2 (o:=6) rfl,?_⟩
 rw[WC,K3]
 refine⟨fun c3=>fin (0,20) _ _ (by rw[if_neg (fun hh=>hh c0),if_neg (fun hh=>hh c1),if_neg (fun hh=>hh c2),if_pos c3]) h,fun c3=>?_⟩
 have h:=h.tick
 have hn:=hg.now
 have ha:=hg.cfg.ahead
 have hw:IntKind.i64.wrap (s.now+s.cfg.ahead)=s.now+s.cfg.ahead:=E5 (by omega) (by omega)
 simp -zeta only[h.ld 0 rfl Y2 (o:=6) rfl,J5,U0 vG,U0 bO,U0 aS,Nat.zero_add,O1.ld (h.L6 hc) Y2 (o:=7) rfl,O1.ld (h.L6 hc) Y2 (o:=3) rfl,Z5,hw,x9,K3]
 refine⟨fun c4=>fin (0,21) _ _ (by rw[if_neg (fun hh=>hh c0),if_neg (fun hh=>hh c1),if_neg (fun hh=>hh c2),if_neg c3,if_pos c4]) h,fun c4=>?_⟩
 have h:=h.tick
 simp -zeta only[h.ld 0 rfl Y2 (o:=6) rfl,U0 XD,U0 NJ,U0 bS,Nat.zero_add,O1.ld (h.L6 hc) o_ (o:=12) rfl,O1.ld (h.L6 hc) Y2 (o:=4) rfl,O1.ld (h.L6 hc) Y2 (o:=9) rfl]
 rw[W9.look (h.L6 hm) xC Jf0 0 bk0 en.time,hk.getD,show (Enc.val (s.cnt en.time):Value) = .int .i64 (s.cnt en.time) from rfl,FC,K3]
 refine⟨fun c5=>fin (0,22) _ _ (by rw[if_neg (fun hh=>hh c0),if_neg (fun hh=>hh c1),if_neg (fun hh=>hh c2),if_neg c3,if_neg c4,if_pos c5]) h,fun c5=>?_⟩
 exact fin (s.next,0) _ _ (by rw[if_neg (fun hh=>hh c0),if_neg (fun hh=>hh c1),if_neg (fun hh=>hh c2),if_neg c3,if_neg c4,if_neg c5]) h
theorem Qu0{m c:Nat}{l:List (Ent Int Int)}(hw:WfE l c){fv:Value}(q:Int→Bool)(hf:∀B':Base,(∀{d:Dat},d B→d B')→∀e∈l,Gives prog B' (dA fv #[Enc.val e.1,Enc.val e.2.1]) (.bool (q e.1))) :
  Does prog B (W9 m l c) (Z0 xB #[oO m,fv]) fun v e' τ=>v = .tuple #[]∧e'=W9 m (l.filter fun e=>!q e.1) c∧τ=[]:=by
 refine Does.intro fun B' w K base h k=>?_
 refine rA.up ?_
 unfold rA.pt
 refine h.range 0 rfl xC fun it w1 h=>?_
 have e0:(l.filter fun e=>!((#[]:Array Nat).contains e.2.2&&q e.1))=l:=List.filter_eq_self.2 fun e _=>by simp
 refine F6 (fun _ w'=>∃seen:Array Nat,Rel B' w' [W9 m (l.filter fun e=>!(seen.contains e.2.2&&q e.1)) c,nW it m c seen c]) (fun _ w'=>dJ l (iN w' it)) ⟨#[],by rw[e0];exact h⟩ ?_
 clear h
 rintro x w2 ⟨seen,h⟩ next hnext
 have hms:=xN h (j:=1) rfl
 have hwf:=hw.filter fun e=>!(seen.contains e.2.2&&q e.1)
 refine h.next 0 1 it rfl rfl hwf.below (fun w3 hall h=>?_) (fun e w3 he hns h=>?_)
 ·rw[show (U5 (.tuple #[.bool false]) 0)=(U5 (.tuple #[.bool false]) 0) from rfl,F5 (v := .bool false) (fun w=>rfl),d_]
  have e1:(l.filter fun e=>!(seen.contains e.2.2&&q e.1))=l.filter fun e=>!q e.1:=by
   refine List.filter_congr fun e he=>?_
   cases hb:!(seen.contains e.2.2&&q e.1) with
   | true =>
    have:=hall e (List.mem_filter.2 ⟨he,hb⟩)
    rw[this] at hb
    simpa using hb.symm
   | false =>
    simp at hb
    rw[hb.2];rfl
  rw[e1] at h
  exact k _ _ [] _ ⟨rfl,rfl,rfl⟩ (h.take 1)
 ·have hel:e∈l:=(List.mem_filter.1 he).1
  rw[UU,lC]
  refine h.entry 0 1 it rfl rfl he hwf.stamps fun w4 h=>?_
  rw[M9,D9]
  refine h.ask (fun B2 own base2=>hf B2 (fun hd=>base2 (base hd)) e hel) fun w6 h=>?_
  have step:∀x∈l,x≠e→(seen.push e.2.2).contains x.2.2=seen.contains x.2.2:=fun x hx hne=>by
   rw[contains_push,decide_eq_false fun hh=>hne (hw.UV hx hel hh),Bool.or_false]
  have hself:(seen.push e.2.2).contains e.2.2=true:=by simp [contains_push]
  rw[R5]
  refine⟨fun hp=>?_,fun hp=>?_⟩
  ·refine h.delete 0 rfl xC Jf0 e.1 fun w7 h=>?_
   have e2:Sp0 e.1 (l.filter fun e=>!(seen.contains e.2.2&&q e.1))=l.filter fun x=>!((seen.push e.2.2).contains x.2.2&&q x.1):=by
    rw[Ms0 hwf.keys,List.filter_filter]
    refine List.filter_congr fun x hx=>?_
    by_cases hxe:x=e
    ·subst hxe;rw[hself,hp];simp
    ·rw[step x hx hxe,decide_eq_true (p:=x.1≠e.1) (fun hh=>hxe (hw.Li0 hx hel hh)),Bool.true_and]
   rw[e2] at h
   refine hnext _ _ ⟨_,h⟩ ?_
   show dJ l (iN w7 it)<dJ l (iN w2 it)
   rw[hms,xN h (j:=1) rfl]
   exact eQ hel hns
  ·have e2:(l.filter fun e=>!(seen.contains e.2.2&&q e.1))=l.filter fun x=>!((seen.push e.2.2).contains x.2.2&&q x.1):=by
    refine List.filter_congr fun x hx=>?_
    by_cases hxe:x=e
    ·subst hxe;rw[hself,hp];simp
    ·rw[step x hx hxe]
   rw[e2] at h
   refine hnext _ _ ⟨_,h⟩ ?_
   show dJ l (iN w6 it)<dJ l (iN w2 it)
   rw[hms,xN h (j:=1) rfl]
   exact eQ hel hns
theorem oA0{b:Nat}{c t n:Int}(hc:O1 b Q0 #[.int .i64 c] B):Gives prog B (dA (.func (.func bC) #[] #[.pointer (some ⟨b,0,none⟩)]) #[.int .i64 t,.int .i64 n]) (.bool (decide (t≤c))):=by
 refine Gives.intro fun B' w K base h k=>?_
 replace hc:=base hc
 refine YH ?_
 refine r_.up (time0 := .int .i64 t) (t1 := .int .i64 n) (t2 := .pointer (some ⟨b,0,none⟩)) (r_.call ?_)
 unfold r_.pt
 simp -zeta only[O1.ld (h.L6 hc) Y2 (o:=0) rfl,WC]
 exact k _ _ h
theorem iK.raise{cnt:Int→Int}{l:List (Ent Int Int)}{c:Nat}(h:iK cnt l c)(z:Int):iK (fun x=>if x≤z then 0 else cnt x) (l.filter fun e=>!decide (e.1≤z)) c:=by
 refine⟨h.wf.filter _,fun t=>?_⟩
 rw[of0 h.wf (fun x=>!decide (x≤z)) t,h.get]
 by_cases ht:t≤z
 ·simp [ht]
 ·simp [ht]
theorem Jt0{kv pv:SV}{m c:Nat}{l:List (Ent Int Int)}{K:PtK}{D1 D2:Dat}(hc:iK s.cnt l c)(hg:uF s.cfg)(ht0 : -1≤s.top∧s.top≤1099511627776){t:Int}(ht:YE t)
  (h:Rel B w [O1 p O3 (ics s kv pv m),W9 m l c,D1,D2])
  (k:∀w' l',iK (ub0 s t).cnt l' c→Rel B w' [O1 p O3 (ics (ub0 s t) kv pv m),W9 m l' c,D1,D2]→K (.tuple #[]) w'):upK prog (Z0 KF #[qb0 p,.int .i64 t]) w K:=by
 obtain⟨ht1,ht2⟩:=ht
 refine vH.up ?_
 unfold vH.pt
 simp -zeta only[J5,U0 wG,Nat.zero_add,h.ld 0 rfl Y2 (o:=8) rfl,II]
 refine h.st 0 rfl Y2 (show 8<13 by omega) rfl fun w1 h=>?_
 have h:Rel B w1 [O1 p O3 (ics { s with top:=max s.top t } kv pv m),W9 m l c,D1,D2]:=h
 refine h.ask (fun B2 own base2=>aX (s:={ s with top:=max s.top t }) (own (i:=0) rfl) hg (by show -1≤max s.top t∧max s.top t≤1099511627776;omega)) fun w2 h=>?_
 refine h.alloc bk0 fun b w3 h=>?_
 refine h.st 4 rfl Y2 (show 0<1 by omega) rfl fun w4 h=>?_
 have h:Rel B w4 [O1 p O3 (ics { s with top:=max s.top t } kv pv m),W9 m l c,D1,D2,O1 b Q0 #[.int .i64 (O9 { s with top:=max s.top t })]]:=h
 simp -zeta only[U0 XD,Nat.zero_add,h.ld 0 rfl o_ (o:=12) rfl,TI]
 refine h.act 1 rfl (fun B2 own base2=>Qu0 hc.wf (fun x=>decide (x≤O9 { s with top:=max s.top t })) fun B3 base3 e _=>oA0 (base3 (own (j:=4) (by decide) rfl))) fun v e' τ w5 hp h=>?_
 obtain⟨rfl,rfl,rfl⟩:=hp
 exact k _ _ (hc.raise _) ((h.take 4))
end
def ES(s:IS)(e:EnD)(r:List OD):(Int×Int)×IS :=
 let x:=CX s e r
 if x.2≠0 then(x,if x.2≠5 then { s with refused:=s.refused+1 } else s)
 else(x,ub0 { s with prods:=DY s.prods e.producer e.epoch e.seq x.1,next:=s.next+1,cnt:=fun t=>if t=e.time then s.cnt e.time+1 else s.cnt t } e.time)
def GD(s:IS)(e:EnD)(r:List OD):(Int×Int)×IS :=
 if e.kind=0 then ES s e r
 else if e.kind=1 then(((FJ s.prods e.producer).2.1,(FJ s.prods e.producer).2.2),if(FJ s.prods e.producer).2.2=0 then { s with prods:=(FJ s.prods e.producer).1 } else s)
 else if e.kind=2∨e.kind=3 then
  if ¬YE e.time then((0,3),s) else if e.kind=3 then((0,0),{ s with now:=max s.now e.time }) else if s.now+s.cfg.ahead<e.time then((0,21),s) else((0,0),ub0 s e.time)
 else((0,1),s)
theorem fe0{s:IS}{e:EnD}{r:List OD}(h:(CX s e r).2=0):(nO s.prods e.producer e.epoch e.seq).2=0∧YE e.time∧WX s.known e.source e.schema r=0∧O9 s<e.time∧e.time≤s.now+s.cfg.ahead∧s.cnt e.time<s.cfg.rate∧(CX s e r).1=s.next:=by
 unfold CX at h ⊢
 by_cases c0:(nO s.prods e.producer e.epoch e.seq).2≠0
 ·rw[if_pos c0] at h;exact absurd h c0
 rw[if_neg c0] at h ⊢
 by_cases c1:¬YE e.time
 ·rw[if_pos c1] at h;cases h
 rw[if_neg c1] at h ⊢
 by_cases c2:WX s.known e.source e.schema r≠0
 ·rw[if_pos c2] at h;exact absurd h c2
 rw[if_neg c2] at h ⊢
 by_cases c3:e.time≤O9 s
 ·rw[if_pos c3] at h;cases h
 rw[if_neg c3] at h ⊢
 by_cases c4:s.now+s.cfg.ahead<e.time
 ·rw[if_pos c4] at h;cases h
 rw[if_neg c4] at h ⊢
 by_cases c5:s.cfg.rate≤s.cnt e.time
 ·rw[if_pos c5] at h;cases h
 rw[if_neg c5]
 exact⟨Decidable.of_not_not c0,Decidable.of_not_not c1,Decidable.of_not_not c2,by omega,by omega,by omega,rfl⟩
theorem Dg0{s:IS}{t:Int}(h:RN s)(ht:YE t):RN (ub0 s t):=by
 obtain⟨h1,h2⟩:=ht
 have h3:=h.top
 refine⟨h.cfg,h.prods,h.now,⟨by show -1≤max s.top t;omega,by show max s.top t≤_;omega⟩,h.next,h.refused,fun x=>?_⟩
 show 0≤(if _ then(0:Int) else _)∧(if _ then(0:Int) else _)≤_
 have:=h.cfg.rate
 split
 ·exact⟨Int.le_refl 0,by show (0:Int)≤s.cfg.rate;omega⟩
 ·exact h.cnt x
theorem nY{s:IS}(h:RN s)(e:EnD)(r:List OD)(h1:s.next<1000000000)(h2:s.refused<1000000000) :
  RN (GD s e r).2∧(GD s e r).2.cfg=s.cfg∧(GD s e r).2.known=s.known∧(GD s e r).2.next≤s.next+1∧(GD s e r).2.refused≤s.refused+1:=by
 unfold GD
 have hn:=h.next
 have hf:=h.refused
 have keep:RN s∧s.cfg=s.cfg∧s.known=s.known∧s.next≤s.next+1∧s.refused≤s.refused+1:=⟨h,rfl,rfl,by omega,by omega⟩
 by_cases c0:e.kind=0
 ·rw[if_pos c0]
  unfold ES
  simp only
  by_cases c:(CX s e r).2≠0
  ·rw[if_pos c]
   simp only
   split
   ·exact⟨⟨h.cfg,h.prods,h.now,h.top,h.next,⟨by show 0≤s.refused+1;omega,by show s.refused+1≤_;omega⟩,h.cnt⟩,rfl,rfl,by show s.next≤_;omega,Int.le_refl _⟩
   ·exact keep
  ·rw[if_neg c]
   obtain⟨p1,p2,p3,p4,p5,p6,p7⟩:=fe0 (Decidable.of_not_not c)
   refine⟨Dg0 ⟨h.cfg,iw0 h.prods _ _ _ _,h.now,h.top,⟨by show 0≤s.next+1;omega,by show s.next+1≤_;omega⟩,h.refused,fun t=>?_⟩ p2,rfl,rfl,Int.le_refl _,by show s.refused≤_;omega⟩
   show 0≤(if t=e.time then s.cnt e.time+1 else s.cnt t)∧(if t=e.time then s.cnt e.time+1 else s.cnt t)≤s.cfg.rate
   have:=h.cnt e.time
   split
   ·omega
   ·exact h.cnt t
 rw[if_neg c0]
 by_cases c1:e.kind=1
 ·rw[if_pos c1]
  simp only
  split
  ·rename_i hz
   exact⟨⟨h.cfg,Dn0 h.prods hz,h.now,h.top,h.next,h.refused,h.cnt⟩,rfl,rfl,by show s.next≤_;omega,by show s.refused≤_;omega⟩
  ·exact keep
 rw[if_neg c1]
 split
 ·split
  ·exact keep
  ·rename_i ht
   have ht:=Decidable.of_not_not ht
   have h3:=h.now
   split
   ·exact⟨⟨h.cfg,h.prods,⟨by show 0≤max s.now e.time;omega,by show max s.now e.time≤_;have:=ht.2;omega⟩,h.top,h.next,h.refused,h.cnt⟩,rfl,rfl,by show s.next≤_;omega,by show s.refused≤_;omega⟩
   ·split
    ·exact keep
    ·exact⟨Dg0 h ht,rfl,rfl,by show s.next≤_;omega,by show s.refused≤_;omega⟩
 ·exact keep
section
variable {B:Base} {w:World} {p:Nat} {s:IS} {σ:List Dat}
theorem intD.nS(h:Rel B w (σ++[intD p s])):∃kv pv m l c,iK s.cnt l c∧Rel B w (σ++[O1 p O3 (ics s kv pv m),W9 m l c,JA kv.1 s.known,GJ pv.1 s.prods]):=by
 obtain⟨x,h⟩:=h.ex (i:=σ.length) kI
 rw[List.set_append_right _ _ (Nat.le_refl _),Nat.sub_self,List.set_cons_zero] at h
 obtain⟨h1,h⟩:=h.VS (i:=σ.length) kI
 rw[List.set_append_right _ _ (Nat.le_refl _),Nat.sub_self,List.set_cons_zero] at h
 have h:=Rel.lX (L:=yq0 p s x) h
 exact⟨_,_,_,_,_,h1,h⟩
theorem intD.RL{kv pv:SV}{m c:Nat}{l:List (Ent Int Int)}(hc:iK s.cnt l c)(h:Rel B w (σ++[O1 p O3 (ics s kv pv m),W9 m l c,JA kv.1 s.known,GJ pv.1 s.prods])):Rel B w (σ++[intD p s]):=by
 have h:=Rel.kR h
 have h:=h.imp (i:=σ.length) (e:=intD p s) kI fun B hB=>⟨((kv,pv),(m,l,c)),hc,hB⟩
 rw[List.set_append_right _ _ (Nat.le_refl _),Nat.sub_self,List.set_cons_zero] at h
 exact h
theorem iK.MH0{cnt:Int→Int}{l:List (Ent Int Int)}{c:Nat}(h:iK cnt l c)(h0:∀t,0≤cnt t)(t:Int):iK (fun x=>if x=t then cnt t+1 else cnt x) (WL t (cnt t+1) l c).1 (WL t (cnt t+1) l c).2:=by
 refine⟨h.wf.set _ _,fun x=>?_⟩
 rw[xU h.wf.keys]
 by_cases hx:x=t
 ·subst hx
  have:=h0 x
  rw[if_pos rfl,if_pos rfl,if_neg (by omega)]
 ·rw[if_neg hx,if_neg hx,h.get]
def KE0(p:Nat)(x:(Int×Int)×IS):Value→Dat→List Dat→Prop:=fun v e' τ=>v = .tuple #[.int .i64 x.1.1,.int .i64 x.1.2]∧e'=intD p x.2∧τ=[]
theorem GJ.oneCell{u:Value}{t:List Pr}(h:GJ u t B):u.oneCell'=true:=by
 obtain⟨L,_,r,_⟩:=h
 exact O4.oneCell r
set_option maxHeartbeats 1000000 in
theorem nx0(hg:RN s)(h1:s.next<1000000000)(h2:s.refused<1000000000){en:EnD}{r:List OD}(hr:O4 en.row.1 r B)(hrl:r.length≤4611686018427387904)(hkl:s.known.length≤4611686018427387904) :
  Does prog B (intD p s) (Z0 yI #[qb0 p,en.v]) (KE0 p (ES s en r)):=by
 refine Does.intro fun B' w K base h k=>?_
 replace hr:=base hr
 refine CG.up ?_
 unfold CG.pt
 have fin:∀(x:(Int×Int)×IS) w' τ,ES s en r=x→Rel B' w' ([intD p x.2]++τ)→K (.tuple #[.int .i64 x.1.1,.int .i64 x.1.2]) w':=fun x w' τ e h=>k _ _ [] w' ⟨by rw[e],by rw[e],rfl⟩ h.drop
 clear k
 unfold ES at fin
 simp only at fin
 refine h.box fun o w1 h=>?_
 have h:Rel B' w1 [intD p s,O1 o U1 en.cs.toArray]:=h
 rw[h.r9 1 rfl M8 rfl]
 refine h.ask (fun B2 own base2=>nG0 (own (i:=0) rfl) hg (base2 hr) hrl hkl) fun w2 h=>?_
 simp -zeta only[M9,D9,Q7,G5,K3]
 have hn:=hg.next
 have hf:=hg.refused
 refine⟨fun c=>?_,fun c=>?_⟩
 ·rw[if_neg (fun hh=>hh c)] at fin
  obtain⟨p1,p2,p3,p4,p5,p6,p7⟩:=fe0 c
  have h:=h.tick
  have h:=h.pick [1,0] (by decide)
  have h:Rel B' (tick w2) ([O1 o U1 en.cs.toArray]++[intD p s]):=h
  obtain⟨kv,pv,m,l,cc,hk,h⟩:=intD.nS h
  have h:Rel B' (tick w2) [O1 o U1 en.cs.toArray,O1 p O3 (ics s kv pv m),W9 m l cc,JA kv.1 s.known,GJ pv.1 s.prods]:=h
  simp -zeta only[J5,U0 xG,Nat.zero_add,h.ld 1 rfl g_ (o:=11) rfl,h.r9 0 rfl M8 rfl]
  refine h.make (post:=fun u τ=>rT u (DY s.prods en.producer en.epoch en.seq (CX s en r).1) τ) (fun B2 own base2=>?_) fun u τ w5 hp h=>?_
  ·obtain⟨L,hL,rt,qt⟩:GJ pv.1 s.prods B2:=own (i:=4) rfl
   have:=WG0 rt qt (by rw[hL];exact hg.prods) en (CX s en r).1
   rw[hL] at this
   exact this
  have h:=hp _ _ _ h
  generalize CX s en r=x at *
  have h:Rel B' w5 [O1 o U1 en.cs.toArray,O1 p O3 (ics s kv pv m),W9 m l cc,JA kv.1 s.known,GJ pv.1 s.prods,GJ u (DY s.prods en.producer en.epoch en.seq x.1)]:=h
  have hu:u.oneCell'=true:=GJ.oneCell (h.here (i:=5) rfl)
  refine h.st 1 rfl g_ (show 11<13 by omega) hu fun w6 h=>?_
  have h:=h.pick [0,1,2,3,5] (by decide)
  have h:Rel B' w6 [O1 o U1 en.cs.toArray,O1 p O3 (ics { s with prods:=DY s.prods en.producer en.epoch en.seq x.1 } kv ⟨u,hu⟩ m),W9 m l cc,JA kv.1 s.known,GJ u (DY s.prods en.producer en.epoch en.seq x.1)]:=h
  simp -zeta only[U0 NJ,Nat.zero_add,h.ld 1 rfl Y2 (o:=9) rfl,Z5]
  rw[E5 (n:=s.next+1) (by omega) (by omega)]
  refine h.st 1 rfl Y2 (show 9<13 by omega) rfl fun w7 h=>?_
  have h:Rel B' w7 [O1 o U1 en.cs.toArray,O1 p O3 (ics { s with prods:=DY s.prods en.producer en.epoch en.seq x.1,next:=s.next+1 } kv ⟨u,hu⟩ m),W9 m l cc,JA kv.1 s.known,GJ u (DY s.prods en.producer en.epoch en.seq x.1)]:=h
  have h:=h.tick
  simp -zeta only[U0 XD,U0 UG,Nat.zero_add,h.ld 1 rfl o_ (o:=12) rfl,h.ld 0 rfl Y2 (o:=6) rfl]
  have hcn:=hg.cnt en.time
  have hrt:=hg.cfg.rate
  rw[h.lookup 2 rfl xC Jf0 0 bk0 en.time,hk.getD,show (Enc.val (s.cnt en.time):Value) = .int .i64 (s.cnt en.time) from rfl,Z5,E5 (by omega) (by omega)]
  refine h.Yf0 2 rfl xC Jf0 en.time (s.cnt en.time+1) fun w8 h=>?_
  have h:Rel B' w8 [O1 o U1 en.cs.toArray,O1 p O3 (ics { s with prods:=DY s.prods en.producer en.epoch en.seq x.1,next:=s.next+1,cnt:=fun t=>if t=en.time then s.cnt en.time+1 else s.cnt t } kv ⟨u,hu⟩ m),W9 m (WL en.time (s.cnt en.time+1) l cc).1 (WL en.time (s.cnt en.time+1) l cc).2,JA kv.1 s.known,GJ u (DY s.prods en.producer en.epoch en.seq x.1)]:=h
  simp -zeta only[h.ld 0 rfl Y2 (o:=6) rfl]
  have h:=h.pick [1,2,3,4] (by decide)
  refine Jt0 (s:={ s with prods:=DY s.prods en.producer en.epoch en.seq x.1,next:=s.next+1,cnt:=fun t=>if t=en.time then s.cnt en.time+1 else s.cnt t }) (hk.MH0 (fun t=>(hg.cnt t).1) en.time) hg.cfg hg.top p2 h fun w9 l' hk' h=>?_
  have h:=intD.RL (σ:=[]) hk' h
  rw[←c]
  exact fin _ _ [] rfl h
 ·rw[if_pos c] at fin
  refine P6 fun J hJ=>?_
  generalize CX s en r=x at *
  refine⟨fun c5=>?_,fun c5=>?_⟩
  ·rw[if_neg (fun hh=>hh c5)] at fin
   exact hJ _ _ (fin _ _ _ rfl h)
  ·rw[if_pos c5] at fin
   have h:=h.pick [1,0] (by decide)
   have h:Rel B' w2 ([O1 o U1 en.cs.toArray]++[intD p s]):=h
   obtain⟨kv,pv,m,l,cc,hk,h⟩:=intD.nS h
   have h:Rel B' w2 [O1 o U1 en.cs.toArray,O1 p O3 (ics s kv pv m),W9 m l cc,JA kv.1 s.known,GJ pv.1 s.prods]:=h
   simp -zeta only[J5,U0 dO,Nat.zero_add,h.ld 1 rfl Y2 (o:=10) rfl,Z5]
   rw[E5 (by omega) (by omega)]
   refine h.st 1 rfl Y2 (show 10<13 by omega) rfl fun w4 h=>?_
   have h:=h.pick [1,2,3,4] (by decide)
   have h:=intD.RL (s:={ s with refused:=s.refused+1 }) (σ:=[]) hk h
   exact hJ _ _ (fin _ _ [] rfl h)
set_option maxHeartbeats 1000000 in
theorem Zr0(hg:RN s)(h1:s.next<1000000000)(h2:s.refused<1000000000){en:EnD}{r:List OD}(hr:O4 en.row.1 r B)(hrl:r.length≤4611686018427387904)(hkl:s.known.length≤4611686018427387904) :
  Does prog B (intD p s) (Z0 JF #[qb0 p,en.v]) (KE0 p (GD s en r)):=by
 refine Does.intro fun B' w K base h k=>?_
 replace hr:=base hr
 refine tH.up ?_
 unfold tH.pt
 have fin:∀(x:(Int×Int)×IS) w' τ,GD s en r=x→Rel B' w' ([intD p x.2]++τ)→K (.tuple #[.int .i64 x.1.1,.int .i64 x.1.2]) w':=fun x w' τ e h=>k _ _ [] w' ⟨by rw[e],by rw[e],rfl⟩ h.drop
 clear k
 unfold GD at fin
 refine h.box fun o w1 h=>?_
 have h:Rel B' w1 [intD p s,O1 o U1 en.cs.toArray]:=h
 simp -zeta only[U0 yT,Nat.add_zero,h.ld 1 rfl Y2 (o:=0) rfl,F7,K3]
 refine⟨fun c0=>?_,fun c0=>?_⟩
 ·rw[if_pos c0] at fin
  rw[h.r9 1 rfl M8 rfl]
  refine h.act 0 rfl (fun B2 own base2=>nx0 hg h1 h2 (base2 hr) hrl hkl) fun v e' τ w2 hp h=>?_
  obtain⟨rfl,rfl,rfl⟩:=hp
  simp -zeta only[M9,D9]
  exact fin _ _ _ rfl h
 rw[if_neg c0] at fin
 refine⟨fun c1=>?_,fun c1=>?_⟩
 ·rw[if_pos c1] at fin
  have h:=h.tick
  have h:=h.pick [1,0] (by decide)
  have h:Rel B' (tick w1) ([O1 o U1 en.cs.toArray]++[intD p s]):=h
  obtain⟨kv,pv,m,l,cc,hk,h⟩:=intD.nS h
  have h:Rel B' (tick w1) [O1 o U1 en.cs.toArray,O1 p O3 (ics s kv pv m),W9 m l cc,JA kv.1 s.known,GJ pv.1 s.prods]:=h
  simp -zeta only[J5,U0 xG,U0 jM,Nat.zero_add,h.ld 1 rfl g_ (o:=11) rfl,h.ld 0 rfl Y2 (o:=1) rfl]
  refine h.make (post:=fun u τ=>∃tv,u = .tuple #[tv,.int .i64 (FJ s.prods en.producer).2.1,.int .i64 (FJ s.prods en.producer).2.2]∧rT tv (FJ s.prods en.producer).1 τ) (fun B2 own base2=>?_) fun u τ w3 hp h=>?_
  ·obtain⟨L,hL,rt,qt⟩:GJ pv.1 s.prods B2:=own (i:=4) rfl
   have:=OB0 rt qt (by rw[hL];exact hg.prods) en.producer
   rw[hL] at this
   exact this
  obtain⟨tv,rfl,hp⟩:=hp
  have h:=hp _ _ _ h
  generalize FJ s.prods en.producer=f at *
  have h:Rel B' w3 [O1 o U1 en.cs.toArray,O1 p O3 (ics s kv pv m),W9 m l cc,JA kv.1 s.known,GJ pv.1 s.prods,GJ tv f.1]:=h
  simp -zeta only[UU,Md0,Od0]
  refine P6 fun J hJ=>?_
  simp -zeta only[F7,K3]
  refine⟨fun cz=>?_,fun cz=>?_⟩
  ·rw[if_pos cz] at fin
   have hu:tv.oneCell'=true:=GJ.oneCell (h.here (i:=5) rfl)
   refine h.st 1 rfl g_ (show 11<13 by omega) hu fun w5 h=>?_
   have h:=h.pick [1,2,3,5] (by decide)
   have h:=intD.RL (s:={ s with prods:=f.1 }) (pv:=⟨tv,hu⟩) (σ:=[]) hk h
   exact hJ _ _ (fin _ _ [] rfl h)
  ·rw[if_neg cz] at fin
   have h:=h.pick [1,2,3,4] (by decide)
   have h:=intD.RL (σ:=[]) hk h
   exact hJ _ _ (fin _ _ [] rfl h)
 rw[if_neg c1] at fin
 refine P6 fun J hJ=>?_
 replace hJ:(∀b:Bool,b=decide (en.kind=2∨en.kind=3)→J (.bool b,()) w1):=by
  intro b hb
  refine hJ _ _ ?_
  clear hJ
  rw[R5]
  refine⟨fun cb=>?_,fun cb=>?_⟩
  ·have hc:en.kind=2∨en.kind=3:=by rw[cb] at hb;exact of_decide_eq_true hb.symm
   rw[if_pos hc] at fin
   simp -zeta only[U0 UG,Nat.zero_add,h.ld 1 rfl Y2 (o:=6) rfl]
   refine h.ask (fun B2 own base2=>zZ en.time) fun w7 h=>?_
   rw[V7,G5,K3]
   refine⟨fun ct=>?_,fun ct=>?_⟩
   ·rw[if_neg (fun hh=>hh ct)] at fin
    simp -zeta only[h.ld 1 rfl Y2 (o:=0) rfl,F7,K3]
    have ht:=h.tick
    have ht:=ht.pick [1,0] (by decide)
    have ht:Rel B' (tick w7) ([O1 o U1 en.cs.toArray]++[intD p s]):=ht
    obtain⟨kv,pv,m,l,cc,hk,ht⟩:=intD.nS ht
    have ht:Rel B' (tick w7) [O1 o U1 en.cs.toArray,O1 p O3 (ics s kv pv m),W9 m l cc,JA kv.1 s.known,GJ pv.1 s.prods]:=ht
    have hnow:=hg.now
    have hah:=hg.cfg.ahead
    have hw:IntKind.i64.wrap (s.now+s.cfg.ahead)=s.now+s.cfg.ahead:=E5 (by omega) (by omega)
    refine⟨fun c3=>?_,fun c3=>?_⟩
    ·rw[if_pos c3] at fin
     simp -zeta only[J5,U0 vG,Nat.zero_add,ht.ld 1 rfl Y2 (o:=7) rfl,ht.ld 0 rfl Y2 (o:=6) rfl,II]
     refine ht.st 1 rfl Y2 (show 7<13 by omega) rfl fun w8 h=>?_
     have h:=h.pick [1,2,3,4] (by decide)
     have h:=intD.RL (s:={ s with now:=max s.now en.time }) (σ:=[]) hk h
     exact fin ((0,0),_) _ [] rfl h
    ·rw[if_neg c3] at fin
     simp -zeta only[J5,U0 vG,U0 bO,U0 aS,Nat.zero_add,ht.ld 1 rfl Y2 (o:=7) rfl,ht.ld 1 rfl Y2 (o:=3) rfl,ht.ld 0 rfl Y2 (o:=6) rfl,Z5,hw,x9,K3]
     refine⟨fun c4=>?_,fun c4=>?_⟩
     ·rw[if_pos c4] at fin
      have ht:=ht.pick [1,2,3,4] (by decide)
      have ht:=intD.RL (σ:=[]) hk ht
      exact fin ((0,21),_) _ [] rfl ht
     ·rw[if_neg c4] at fin
      have ht:=ht.pick [1,2,3,4] (by decide)
      refine Jt0 hk hg.cfg hg.top ct ht fun w9 l' hk' h=>?_
      have h:=intD.RL (σ:=[]) hk' h
      exact fin ((0,0),_) _ [] rfl h
   ·rw[if_pos ct] at fin
    exact fin ((0,3),_) _ _ rfl h
  ·have hc:¬(en.kind=2∨en.kind=3):=by rw[cb] at hb;exact of_decide_eq_false hb.symm
   rw[if_neg hc] at fin
   exact fin ((0,1),_) _ _ rfl h
 refine⟨fun c2=>hJ _ (by rw[decide_eq_true (show en.kind=2∨en.kind=3 from .inl c2),decide_eq_true c2]),fun c2=>?_⟩
 exact hJ _ (decide_eq_decide.2 ⟨fun hh => .inr hh,fun hh=>hh.elim (fun hh=>absurd hh c2) id⟩)
end
theorem uF.iff{c:CfD}:uF c↔(0≤c.late∧c.late≤10000)∧(0≤c.delay∧c.delay≤c.late)∧(0≤c.ahead∧c.ahead≤10000)∧(1≤c.rate∧c.rate≤20):=⟨fun h=>⟨h.late,h.delay,h.ahead,h.rate⟩,fun h=>⟨h.1,h.2.1,h.2.2.1,h.2.2.2⟩⟩
instance (c:CfD):Decidable (uF c):=decidable_of_iff _ uF.iff.symm
def VG0(d:Dat)(τ:List Dat):Prop:=∀(B:Base) (w:World) (σ:List Dat),Rel B w (σ++τ)→Rel B w (σ++[d])
theorem lG0{d:Dat}{τ:List Dat}(h:∀B,(yU τ) B→d B):VG0 d τ:=fun B w σ hr=>by
 have h1:=(Rel.kR hr).imp (i:=σ.length) (e:=d) kI h
 rw[List.set_append_right _ _ (Nat.le_refl _),Nat.sub_self,List.set_cons_zero] at h1
 exact h1
def YP(c:CfD)(ks:List Kn):IS:=⟨c,ks,0,-1,0,0,[],fun _=>0⟩
theorem wF0:iK (fun _=>0) ([]:List (Ent Int Int)) 0:=⟨WfE.nil,fun t=>rfl⟩
theorem so0{c:CfD}(h:uF c)(ks:List Kn):RN (YP c ks):=⟨h,rw0,by simp [YP],by simp [YP],by simp [YP],by simp [YP],fun t=>⟨Int.le_refl 0,by have:=h.rate;show (0:Int)≤c.rate;omega⟩⟩
theorem lH0{K:Value→Prop}{c:CfD}{m:Nat}:M0 prog (H6 O3 #[(0,.agg c.cs.toArray),(3,.int .i64 (-1)),(7,oO m)]) K=K (.agg (ics (YP c []) fD fD m)):=F5 fun w=>by kernel_rfl
section
variable {B:Base} {w:World} {p:Nat} {s:IS}
theorem ZO(n a b:Int):Gives prog B (Z0 SA #[.int .i64 n,.int .i64 a,.int .i64 b]) (.bool (decide (a≤n∧n≤b))):=by
 refine Gives.intro fun B' w K base h k=>?_
 refine lI.up ?_
 unfold lI.pt
 simp -zeta only[FC,WC,K3]
 refine⟨fun c=>?_,fun c=>?_⟩
 ·have e:decide (a≤n∧n≤b)=decide (n≤b):=decide_eq_decide.2 ⟨fun hh=>hh.2,fun hh=>⟨c,hh⟩⟩
  rw[e] at k
  exact k _ _ h
 ·rw[decide_eq_false (fun hh:a≤n∧n≤b=>c hh.1)] at k
  exact k _ _ h
theorem Rx0(c:CfD):Gives prog B (Z0 CR #[.agg c.cs.toArray]) (.bool (decide (uF c))):=by
 refine Gives.intro fun B' w K base h k=>?_
 refine SQ.up ?_
 unfold SQ.pt
 have no:∀w' τ,Rel B' w' τ→¬uF c→K (.bool false) w':=fun w' τ h hn=>by rw[decide_eq_false hn] at k;exact k _ _ h
 refine h.box fun o w1 h=>?_
 have h:Rel B' w1 [O1 o V4 c.cs.toArray]:=h
 simp -zeta only[U0 ZR,Nat.add_zero,Nat.zero_add,h.ld 0 rfl Y2 (o:=2) rfl]
 refine h.ask (fun B2 own base2=>ZO _ _ _) fun w2 h=>?_
 rw[K3]
 refine⟨fun c1=>?_,fun c1=>no _ _ h fun hh=>c1 hh.late⟩
 simp -zeta only[U0 ff0,U0 ZR,Nat.add_zero,Nat.zero_add,h.ld 0 rfl Y2 (o:=1) rfl,h.ld 0 rfl Y2 (o:=2) rfl]
 refine h.ask (fun B2 own base2=>ZO _ _ _) fun w3 h=>?_
 rw[K3]
 refine⟨fun c2=>?_,fun c2=>no _ _ h fun hh=>c2 hh.delay⟩
 simp -zeta only[U0 aS,Nat.add_zero,Nat.zero_add,h.ld 0 rfl Y2 (o:=3) rfl]
 refine h.ask (fun B2 own base2=>ZO _ _ _) fun w4 h=>?_
 rw[K3]
 refine⟨fun c3=>?_,fun c3=>no _ _ h fun hh=>c3 hh.ahead⟩
 simp -zeta only[U0 bS,Nat.add_zero,Nat.zero_add,h.ld 0 rfl Y2 (o:=4) rfl]
 refine h.ask (fun B2 own base2=>ZO _ _ _) fun w5 h=>?_
 have e:decide (uF c)=decide (1≤c.rate∧c.rate≤20):=decide_eq_decide.2 ⟨fun hh=>hh.rate,fun hh=>⟨c1,c2,c3,hh⟩⟩
 rw[e] at k
 exact k _ _ h
structure SB0 (ks:List Kn):Prop where
 len:ks.length≤1000000
 cols:∀x∈ks,x.cols.length≤1000000
theorem bF0{kv pv:SV}{m:Nat}{v:Value}{ks:List Kn}(hk:JA v ks B)(hf:SB0 ks) :
  Does prog B (O1 p O3 (ics s kv pv m)) (Z0 mK #[qb0 p,v]) fun x e' τ=>x = .tuple #[]∧∃u:SV,e'=O1 p O3 (ics s u pv m)∧VG0 (JA u.1 ks) τ:=by
 refine Does.intro fun B' w K base h k=>?_
 obtain⟨L,hL,rk,rc⟩:=base hk
 have hal:∀L:KnL,(DL L).length=L.length:=fun L=>List.length_map ..
 have hLl:L.length≤1000000:=by have:=hf.len;rw[←hL,List.length_map] at this;exact this
 refine RI.up ?_
 unfold RI.pt
 simp -zeta only[J5,U0 cO,Nat.zero_add]
 refine h.st 0 rfl mI (show 6<13 by omega) rfl fun w1 h=>?_
 have h:Rel B' w1 [O1 p O3 (ics s fD pv m)]:=h
 simp -zeta only[O4.len rk ND]
 rw[hal]
 have h:=h.VC KnD A8
 have h:Rel B' w1 [O1 p O3 (ics s fD pv m),Y3 A8 fD.1 (DL [])]:=h
 have h:=(lG0 (d:=AZ []) (τ:=[]) fun B _ x hx=>(by cases hx)) B' w1 [O1 p O3 (ics s fD pv m),Y3 A8 fD.1 (DL [])] (by simpa using h)
 refine F6 (fun x w'=>∃(i:Nat) (L':KnL) (u:SV),i≤L.length∧L'.length=i∧L'.map (·.1)=ks.take i∧x=(.int .i64 i,())∧Rel B' w' [O1 p O3 (ics s u pv m),Y3 A8 u.1 (DL L'),AZ L']) (fun x _=>L.length-(match x.1 with | .int _ n=>n.toNat | _=>0))
  ⟨0,[],fD,Nat.zero_le _,rfl,rfl,rfl,h⟩ ?_
 clear h
 rintro x w2 ⟨i,L',u,hi,hl',hp,rfl,h⟩ next hnext
 simp -zeta only[G6,K3]
 refine⟨fun hlt=>?_,fun hge=>?_⟩
 ·have hil:i<L.length:=by omega
  have hel:(DL L)[i]'(by rw[hal];exact hil)=L[i].1.raw L[i].2:=by simp [DL]
  obtain⟨g,o,hx,hc⟩:=O4.idx rk ND (P:=prog) (i:=i) (by rw[hal];exact hil)
  rw[hel] at hc
  have hc:K6 g o (L[i].1.raw L[i].2).cs B':=hc
  have hcol:O4 L[i].2.1 L[i].1.cols B':=rc L[i] (List.getElem_mem hil)
  have hcl:L[i].1.cols.length≤1000000:=hf.cols _ (by rw[←hL];exact List.mem_map_of_mem (List.getElem_mem hil))
  rw[hx,K6.r9 (h.L6 hc) OQ rfl]
  refine h.R8 (ds:=(L[i].1.raw L[i].2).cs.toArray) up0 rfl OQ rfl (fun v hv=>Enc.one (L[i].1.raw L[i].2) v hv) fun a w3 h=>?_
  have h:Rel B' w3 [O1 p O3 (ics s u pv m),Y3 A8 u.1 (DL L'),AZ L',O1 a A8 (L[i].1.raw L[i].2).cs.toArray]:=h
  simp -zeta only[U0 OX,Nat.zero_add,h.ld 3 rfl lV (o:=2) rfl]
  refine h.make (fun B2 own base2=>FO (base2 hcol) (by omega) (by omega)) fun v' τ w4 hp2 h=>?_
  subst hp2
  have h1:v'.oneCell'=true:=h.oneCell (i:=4) rfl
  obtain⟨sv,rfl⟩:∃sv:SV,sv.1=v':=⟨⟨v',h1⟩,rfl⟩
  refine h.st 3 rfl lV (show 2<3 by omega) h1 fun w5 h=>?_
  have h:Rel B' w5 [O1 p O3 (ics s u pv m),Y3 A8 u.1 (DL L'),AZ L',O1 a A8 (L[i].1.raw sv).cs.toArray,Y3 iB sv.1 L[i].1.cols]:=h
  have h:=h.tick
  simp -zeta only[J5,U0 cO,Nat.zero_add,h.ld 0 rfl mI (o:=6) rfl,h.r9 3 rfl OQ rfl]
  refine h.XH (L[i].1.raw sv) ND (by decide) fun u2 w6 h=>?_
  refine⟨h.is 0 rfl mI (o:=6) rfl,?_⟩
  have hl2:(DL L').length=i:=by rw[hal,hl']
  refine h.append 1 rfl ND (Rd.at (l:=[L[i].1.raw sv]) 5 rfl) (by rw[hl2,List.length_singleton];omega) (by rw[hl2,List.length_singleton];omega) fun u3 w7 h=>?_
  have h3:u3.oneCell'=true:=h.oneCell (i:=1) rfl
  refine h.st 0 rfl mI (show 6<13 by omega) h3 fun w8 h=>?_
  have h:=h.pick [0,1,2,4] (by decide)
  have h:Rel B' w8 ([O1 p O3 (ics s ⟨u3,h3⟩ pv m),Y3 A8 u3 (DL L'++[L[i].1.raw sv])]++[AZ L',Y3 iB sv.1 L[i].1.cols]):=h
  have h:=(lG0 (d:=AZ (L'++[(L[i].1,sv)])) (τ:=[AZ L',Y3 iB sv.1 L[i].1.cols]) fun B hB=>Dat.all_append (Dat.star.left hB) (fun x hx=>by
   rw[List.mem_singleton] at hx
   subst hx
   exact Y3.read (Dat.star.left (Dat.star.right hB)))) _ _ _ h
  rw[show DL L'++[L[i].1.raw sv]=DL (L'++[(L[i].1,sv)]) by simp [DL]] at h
  rw[Z5,E5 (by omega) (by omega)]
  refine hnext _ _ ⟨i+1,L'++[(L[i].1,sv)],⟨u3,h3⟩,hil,by simp [hl'],?_,rfl,h⟩ (by simp only;omega)
  rw[List.map_append,hp,←hL,List.take_succ_eq_append_getElem (by simpa using hil)]
  simp
 ·have hie:i=L.length:=by omega
  subst hie
  rw[List.take_of_length_le (by rw[←hL,List.length_map];exact Nat.le_refl _)] at hp
  exact k _ _ _ _ ⟨rfl,u,rfl,lG0 (τ:=[Y3 A8 u.1 (DL L'),AZ L']) fun B hB=>⟨L',hp,Y3.read (Dat.star.left hB),Dat.star.left (Dat.star.right hB)⟩⟩ h
theorem yE0(c:CfD){v:Value}{ks:List Kn}(hk:JA v ks B)(hf:SB0 ks) :
  Makes prog B (Z0 KQ #[.agg c.cs.toArray,v]) fun u τ=>(uF c∧∃p,u=qb0 p∧τ=[intD p (YP c ks)])∨(¬uF c∧u = .pointer none∧τ=[]):=by
 refine Makes.intro fun B' w K base h k=>?_
 replace hk:=base hk
 refine aV.up ?_
 unfold aV.pt
 refine h.box fun o w1 h=>?_
 have h:Rel B' w1 [O1 o V4 c.cs.toArray]:=h
 rw[h.r9 0 rfl uD rfl]
 refine h.ask (fun B2 own base2=>Rx0 c) fun w2 h=>?_
 rw[V7,G5,K3]
 refine⟨fun c1=>?_,fun c1=>k _ _ _ (.inr ⟨c1,rfl,rfl⟩) h.nil⟩
 rw[h.r9 0 rfl uD rfl]
 refine h.mkMap Int Int fun m w3 h=>?_
 rw[lH0]
 refine h.box fun p w4 h=>?_
 have h:Rel B' w4 [O1 o V4 c.cs.toArray,W9 m ([]:List (Ent Int Int)) 0,O1 p O3 (ics (YP c ks) fD fD m)]:=h
 refine h.act 2 rfl (fun B2 own base2=>bF0 (base2 hk) hf) fun x e' τ w5 hp h=>?_
 obtain⟨rfl,u,rfl,hp⟩:=hp
 have h:=hp _ _ [O1 o V4 c.cs.toArray,W9 m ([]:List (Ent Int Int)) 0,O1 p O3 (ics (YP c ks) u fD m)] h
 have h:=mg0 [] _ _ _ (by rw[List.append_nil];exact h)
 have h:=h.pick [2,1,3,4] (by decide)
 have h:Rel B' w5 [O1 p O3 (ics (YP c ks) u fD m),W9 m ([]:List (Ent Int Int)) 0,JA u.1 (YP c ks).known,GJ fD.1 (YP c ks).prods]:=h
 exact k _ _ _ (.inl ⟨c1,p,rfl,rfl⟩) (intD.close wF0 h)
def EH0(q t:Int)(rv:SV):EnD:=⟨0,7,0,q,⟨#[115]⟩,1,t,rv⟩
def aI0(n:Int):List OD:=[⟨0,n,⟨#[]⟩⟩]
end
section
variable {B:Base} {w:World} {p:Nat} {s:IS}
def st1(s:IS)(q t n:Int):IS:=(GD s (EH0 q t fD) (aI0 n)).2
end
structure ek0 (s:IS) (times:List Int):Prop where
 cnt:∀t,s.cnt t=if O9 s<t then(times.count t:Int) else 0
 top:∀t∈times,t≤s.top
 rate:∀t,(times.count t:Int)≤s.cfg.rate
theorem sC0{c:CfD}(h:uF c)(ks:List Kn):ek0 (YP c ks) []:=⟨fun t=>by
 show (0:Int)=if O9 (YP c ks)<t then((0:Nat):Int) else 0
 split<;>rfl,fun t ht=>(by cases ht),fun t=>by have:=h.rate;show (0:Int)≤c.rate;omega⟩
theorem ev0{s:IS}{times:List Int}(h:ek0 s times)(t:Int):ek0 (ub0 s t) times:=by
 refine⟨fun x=>?_,fun x hx=>?_,h.rate⟩
 ·show (if x≤O9 { s with top:=max s.top t } then 0 else s.cnt x)=if O9 { s with top:=max s.top t }<x then(times.count x:Int) else 0
  have hc:O9 s≤O9 { s with top:=max s.top t }:=by
   show max (-1) (s.top-s.cfg.late-1)≤max (-1) (max s.top t-s.cfg.late-1)
   omega
  by_cases hx:x≤O9 { s with top:=max s.top t }
  ·rw[if_pos hx,if_neg (by omega)]
  ·rw[if_neg hx,if_pos (by omega),h.cnt,if_pos (by omega)]
 ·have:=h.top x hx
  show x≤max s.top t
  omega
structure AH0 (s:IS) (e:EnD) (times:List Int) (x:(Int×Int)×IS):Prop where
 top:s.top≤x.2.top
 yes:e.kind=0→x.1.2=0→O9 s<e.time∧e.time≤x.2.now+s.cfg.ahead∧ek0 x.2 (times++[e.time])
 no:¬(e.kind=0∧x.1.2=0)→ek0 x.2 times
theorem Lm0{s:IS}{times:List Int}(hi:ek0 s times)(e:EnD)(r:List OD):AH0 s e times (GD s e r):=by
 unfold GD
 by_cases c0:e.kind=0
 ·rw[if_pos c0]
  unfold ES
  simp only
  by_cases c:(CX s e r).2≠0
  ·rw[if_pos c]
   split
   ·exact⟨Int.le_refl _,fun _ h2=>absurd h2 c,fun _=>⟨hi.cnt,hi.top,hi.rate⟩⟩
   ·exact⟨Int.le_refl _,fun _ h2=>absurd h2 c,fun _=>hi⟩
  ·rw[if_neg c]
   have c:=Decidable.of_not_not c
   obtain⟨_,_,_,p4,p5,p6,_⟩:=fe0 c
   refine⟨?_,fun _ _=>⟨p4,p5,?_⟩,fun hn=>absurd ⟨c0,c⟩ hn⟩
   ·show s.top≤max s.top e.time
    omega
   ·have hcnt:∀t,((times++[e.time]).count t:Int)=(times.count t:Int)+if t=e.time then 1 else 0:=fun t=>by
     rw[List.count_append,List.count_singleton]
     by_cases ht:t=e.time
     ·subst ht;simp
     ·have:(e.time == t)=false:=by simpa using fun hh:e.time=t=>ht hh.symm
      rw[this,if_neg ht];simp
    have he:=hi.cnt e.time
    rw[if_pos p4] at he
    refine⟨fun x=>?_,fun x hx=>?_,fun t=>?_⟩
    ·show (if x≤O9 { s with top:=max s.top e.time } then 0 else if x=e.time then s.cnt e.time+1 else s.cnt x)=if O9 { s with top:=max s.top e.time }<x then((times++[e.time]).count x:Int) else 0
     have hc:O9 s≤O9 { s with top:=max s.top e.time }:=by
      show max (-1) (s.top-s.cfg.late-1)≤max (-1) (max s.top e.time-s.cfg.late-1)
      omega
     by_cases hx:x≤O9 { s with top:=max s.top e.time }
     ·rw[if_pos hx,if_neg (by omega)]
     ·have hlt:O9 { s with top:=max s.top e.time }<x:=by omega
      rw[if_neg hx,if_pos hlt,hcnt]
      by_cases hxe:x=e.time
      ·subst hxe;rw[if_pos rfl,if_pos rfl,he]
      ·rw[if_neg hxe,if_neg hxe,hi.cnt,if_pos (by omega),Int.add_zero]
    ·show x≤max s.top e.time
     rcases List.mem_append.1 hx with hx | hx
     ·have:=hi.top x hx;omega
     ·rw[List.mem_singleton] at hx;omega
    ·show _≤s.cfg.rate
     rw[hcnt]
     have:=hi.rate t
     split
     ·rename_i ht;subst ht;omega
     ·omega
 rw[if_neg c0]
 by_cases c1:e.kind=1
 ·rw[if_pos c1]
  split
  ·exact⟨Int.le_refl _,fun h=>absurd h c0,fun _=>⟨hi.cnt,hi.top,hi.rate⟩⟩
  ·exact⟨Int.le_refl _,fun h=>absurd h c0,fun _=>hi⟩
 rw[if_neg c1]
 split
 ·split
  ·exact⟨Int.le_refl _,fun h=>absurd h c0,fun _=>hi⟩
  ·split
   ·exact⟨Int.le_refl _,fun h=>absurd h c0,fun _=>⟨hi.cnt,hi.top,hi.rate⟩⟩
   ·split
    ·exact⟨Int.le_refl _,fun h=>absurd h c0,fun _=>hi⟩
    ·exact⟨by show s.top≤max s.top e.time;omega,fun h=>absurd h c0,fun _=>ev0 hi _⟩
 ·exact⟨Int.le_refl _,fun h=>absurd h c0,fun _=>hi⟩
section
variable {B:Base} {w:World} {Kp:Value→Prop} {xo yo:Operand}
theorem JC0{p:Nat}:M0 prog (V3 .eql E8 xo yo (qb0 p) (.pointer none)) Kp=Kp (.bool false):=OA uG
theorem ZC0:M0 prog (V3 .eql E8 xo yo (.pointer none) (.pointer none)) Kp=Kp (.bool true):=F5 fun w=>MP rfl (run_eql_pointer_nil w E8 none uG)
end
def WR(p:Pr):Bs:=encI p.id++encI p.epoch++encI p.next++vY encI p.last
def bI(s:List Pr):Bs:=encI s.length++s.flatMap WR
structure Uw0 (p:Pr):Prop where
 id:inI p.id
 epoch:inI p.epoch
 next:inI p.next
 len:p.last.length≤9223372036854775807
 last:∀x∈p.last,inI x
theorem fl0{n:Int}(h:inP n):inI n:=⟨by have:=h.1;omega,by have:=h.2;omega⟩
theorem KR.good{p:Pr}(h:KR p):Uw0 p:=⟨fl0 h.id,fl0 h.epoch,fl0 h.next,by have:=h.len;have:=h.next;omega,fun x hx=>by
 obtain⟨i,hi,rfl⟩:=List.getElem_of_mem hx
 exact fl0 (h.each i hi)⟩
noncomputable def FQ(s:RS):Pr×RS :=
 let a:=H5 s
 let b:=H5 a.2
 let c:=H5 b.2
 let d:=Zn0 c.2
 (⟨a.1,b.1,c.1,d.1⟩,d.2)
theorem ew0{p:Pr}(h:Uw0 p)(r:Bs):FQ ⟨WR p++r,false⟩=(p,⟨r,false⟩):=by
 unfold FQ WR
 simp only[List.append_assoc]
 rw[yE h.id]
 simp only
 rw[yE h.epoch]
 simp only
 rw[yE h.next]
 simp only
 rw[uv0 h.len h.last]
theorem cv0(p:Pr):0<(WR p).length:=by
 unfold WR
 have:=RV p.id
 simp only[List.length_append]
 omega
noncomputable def zd0:Nat→List Pr→RS→List Pr×RS
 | 0,acc,s=>(acc,s)
 | k+1,acc,s=>if s.rest=[] then(acc,s) else zd0 k (acc++[(FQ s).1]) (FQ s).2
theorem bp0:∀(l acc:List Pr) (r:Bs),(∀p∈l,Uw0 p)→zd0 l.length acc ⟨l.flatMap WR++r,false⟩=(acc++l,⟨r,false⟩)
 | [],acc,r,_=>by simp [zd0]
 | p :: l,acc,r,h=>by
  have hne:¬((p :: l).flatMap WR++r)=[]:=fun hh=>by
   have:=congrArg List.length hh
   have h2:=cv0 p
   rw[List.flatMap_cons,List.length_append,List.length_append,List.length_nil] at this
   omega
  rw[List.length_cons,zd0,if_neg hne,List.flatMap_cons,List.append_assoc,ew0 (h p List.mem_cons_self)]
  rw[bp0 l _ r fun y hy=>h y (List.mem_cons_of_mem _ hy)]
  simp
def uV(t:Bs)(s:List Pr):Prop:=DC s∧bI s=t∧aO (zd0 (qE ⟨t,false⟩).1.toNat [] (qE ⟨t,false⟩).2).2=true∧(zd0 (qE ⟨t,false⟩).1.toNat [] (qE ⟨t,false⟩).2).1=s
theorem eu0{s:List Pr}(h:DC s):zd0 (qE ⟨bI s,false⟩).1.toNat [] (qE ⟨bI s,false⟩).2=(s,⟨[],false⟩):=by
 have hl:=h.len
 unfold bI
 rw[qW (by omega) ⟨by omega,by omega⟩]
 simp only[Int.toNat_natCast]
 have:=bp0 s [] [] fun p hp=>(h.fine p hp).good
 rw[List.append_nil,List.nil_append] at this
 exact this
theorem FG0{s:List Pr}(h:DC s):uV (bI s) s:=by
 unfold uV
 rw[eu0 h]
 exact⟨h,rfl,rfl,rfl⟩
theorem jB0{s s':List Pr}(h:DC s)(h':uV (bI s) s'):s'=s:=by
 have:=h'.2.2.2
 rw[eu0 h] at this
 exact this.symm
theorem bv0{p:Pr}(h:KR p):(WR p).length≤600:=by
 have g:=h.good
 have hl:=h.len
 have hn:=h.next
 have h1:=Q6 g.id
 have h2:=Q6 g.epoch
 have h3:=Q6 g.next
 have h4:=(TV encI p.last (by omega)).2
 have h5:=xE encI p.last 21 fun y hy=>Q6 (g.last y hy)
 unfold WR
 simp only[List.length_append]
 omega
theorem TU{s:List Pr}(h:DC s):(bI s).length≤31000:=by
 have hl:=h.len
 have h1:=Q6 (n:=s.length) ⟨by omega,by omega⟩
 have h2:=xE WR s 600 fun p hp=>bv0 (h.fine p hp)
 unfold bI
 rw[List.length_append]
 omega
theorem br0{s:RS}(hs:WK s)(hr:s.rest≠[]):WK (FQ s).2∧(FQ s).2.rest.length+1≤s.rest.length:=by
 have h1:=rU (.inl rfl:bE 59) (lo := -9223372036854775808) hs
 have l1:=(zB (.inl rfl:bE 59) (-9223372036854775808) s).1
 have l2:=(zB (.inl rfl:bE 59) (-9223372036854775808) (H5 s).2).1
 have l3:=(zB (.inl rfl:bE 59) (-9223372036854775808) (H5 (H5 s).2).2).1
 have hs0:s.bad=false:=by
  cases hb:s.bad
  ·rfl
  ·exact absurd (hs hb) hr
 have hlen:0<s.rest.length:=List.length_pos_iff.2 hr
 have hsan:WK (FQ s).2:=ao0 (fun s=>iG) (iG (iG (iG hs)))
 have hle:(FQ s).2.rest.length≤(H5 s).2.rest.length:=Nat.le_trans (Bq0 YD _) (Nat.le_trans l3 l2)
 refine⟨hsan,?_⟩
 obtain⟨s1,s2⟩:=Ok1.shrink Vd0 RV hs0
 cases hb:(H5 s).2.bad
 ·have:=s2 hb;omega
 ·have:=(iG hs) hb
  rw[this] at hle
  simp at hle
  rw[hle]
  simp
  omega
theorem eA0{d:Dat}{τ σ:List Dat}{B:Base}{w:World}(h:∀B,(yU τ) B→d B)(hr:Rel B w (σ++τ)):Rel B w (σ++[d]):=by
 have h1:=(Rel.kR hr).imp (i:=σ.length) (e:=d) kI h
 rw[List.set_append_right _ _ (Nat.le_refl _),Nat.sub_self,List.set_cons_zero] at h1
 exact h1
section
variable {B:Base} {w:World} {σ:List Dat}
theorem gh0(hB:VI B){v:Value}{L:PrL}(r:O4 v (o9 L) B)(q:IG L B)(hR:DC (prs L)):Gives prog B (Z0 TK #[v]) (.string (ofL (bI (prs L)))):=by
 refine Gives.Ef0 fun B' w K base h start k=>?_
 replace hB:=base hB
 replace r:=base r
 replace q:=base q
 refine qO.up ?_
 unfold qO.pt
 have hal:(o9 L).length=L.length:=List.length_map ..
 have hpl:(prs L).length=L.length:=List.length_map ..
 have hl:=hR.len
 have hall:=TU hR
 refine h.alloc PG fun b w1 h=>?_
 have h:=start w1 b h
 simp -zeta only[O4.len r I6]
 rw[hal]
 have hin:inI (L.length:Int):=⟨by omega,by omega⟩
 refine h.ask (fun B2 own base2=>oh0 (base2 hB) hin) fun w2 h=>?_
 have en:sd0 (L.length:Int)=encI (prs L).length:=by rw[hpl];unfold sd0;rw[if_neg (by omega)]
 rw[en]
 have h2:=Q6 hin
 rw[←hpl] at h2
 refine h.VN (Nat.le_refl _) (by rw[Q_,List.length_nil];omega) fun _ w4 h=>?_
 have h:Rel B' w4 [bP B'.W.heap.size b (encI (prs L).length)]:=h
 unfold bI at hall k
 refine F6 (fun x w'=>∃i:Nat,i≤L.length∧x=(.int .i64 i,())∧Rel B' w' [bP B'.W.heap.size b (encI (prs L).length++((prs L).take i).flatMap WR)]) (fun x _=>L.length-(match x.1 with | .int _ n=>n.toNat | _=>0))
  ⟨0,Nat.zero_le _,rfl,by simpa using h⟩ ?_
 clear h
 rintro x w5 ⟨i,hi,rfl,h⟩ next hnext
 simp -zeta only[G6,K3]
 refine⟨fun hlt=>?_,fun hge=>?_⟩
 ·have hil:i<L.length:=by omega
  obtain⟨g,o,hx,hcl⟩:=O4.idx r I6 (P:=prog) (i:=i) (by omega)
  have hel:(o9 L)[i]'(by omega)=L[i].1.raw L[i].2:=by simp [o9]
  rw[hel] at hcl
  have hcl:K6 g o (L[i].1.raw L[i].2).cs B':=hcl
  have hrow:=q L[i] (List.getElem_mem hil)
  have hfine:=hR.fine L[i].1 (List.mem_map_of_mem (List.getElem_mem hil))
  have hgood:=hfine.good
  have hnx:=hfine.next
  have hll:=hfine.len
  have hstep:=jI WR (l:=prs L) (i:=i) (by omega)
  rw[show (prs L)[i]'(by omega)=L[i].1 by simp] at hstep
  have hle:=QE WR (prs L) (i+1)
  rw[hstep,List.length_append] at hle
  rw[hx,K6.r9 (h.L6 hcl) X7 rfl]
  refine h.R8 (ds:=(L[i].1.raw L[i].2).cs.toArray) zF rfl X7 rfl (fun v hv=>Enc.one (L[i].1.raw L[i].2) v hv) fun a w6 h=>?_
  have h:Rel B' w6 [bP B'.W.heap.size b (encI (prs L).length++((prs L).take i).flatMap WR),O1 a U2 (L[i].1.raw L[i].2).cs.toArray]:=h
  have h:=h.tick
  simp -zeta only[U0 iF,U0 fI,U0 dL,U0 jF,Nat.add_zero,Nat.zero_add,h.ld 1 rfl Y2 (o:=0) rfl,h.ld 1 rfl Y2 (o:=1) rfl,h.ld 1 rfl Y2 (o:=2) rfl,h.ld 1 rfl wF (o:=3) rfl]
  refine h.ask (fun B2 own base2=>wC (base2 hB) hgood.id) fun w7 h=>?_
  refine⟨h.is 1 rfl wF (o:=3) rfl,h.is 1 rfl Y2 (o:=2) rfl,h.is 1 rfl Y2 (o:=1) rfl,?_⟩
  refine h.ask (fun B2 own base2=>wC (base2 hB) hgood.epoch) fun w8 h=>?_
  refine⟨h.is 1 rfl wF (o:=3) rfl,h.is 1 rfl Y2 (o:=2) rfl,?_⟩
  have l1:=Q6 hgood.id
  have l2:=Q6 hgood.epoch
  have l3:=Q6 hgood.next
  have l4:=(TV encI L[i].1.last (by omega)).2
  have l5:=xE encI L[i].1.last 21 fun y hy=>Q6 (hgood.last y hy)
  rw[C9 (by omega)]
  refine h.ask (fun B2 own base2=>wC (base2 hB) hgood.next) fun w9 h=>?_
  refine⟨h.is 1 rfl wF (o:=3) rfl,?_⟩
  rw[C9 (by rw[List.length_append];omega)]
  refine h.ask (fun B2 own base2=>rE0 (base2 hB) (base2 hrow) hgood.last (by omega)) fun w10 h=>?_
  rw[C9 (by simp only[List.length_append];omega)]
  simp only[List.length_append] at hall
  have hpe:encI L[i].1.id++encI L[i].1.epoch++encI L[i].1.next++vY encI L[i].1.last=WR L[i].1:=rfl
  rw[hpe]
  refine(h.take 1).VN (Nat.le_refl _) (by rw[Q_];simp only[List.length_append];omega) fun _ w11 h=>?_
  rw[Z5,E5 (by omega) (by omega)]
  refine hnext _ _ ⟨i+1,hil,rfl,?_⟩ (by simp only;omega)
  rw[hstep,←List.append_assoc]
  exact h
 ·refine h.gU (Nat.le_refl _) fun w7 h=>?_
  have hie:i=L.length:=by omega
  subst hie
  have e:(prs L).take L.length=prs L:=List.take_of_length_le (by omega)
  rw[e]
  exact k _ _ h
set_option maxHeartbeats 1000000 in
theorem Iw0(hB:qC B){t:Bs}(ht:t.length≤1000000):Makes prog B (Z0 kQ #[.string (ofL t)]) fun u τ=>(∃s tv,uV t s∧u = .tuple #[tv,.bool true]∧rT tv s τ)∨((∀s,¬uV t s)∧u = .tuple #[.slice none 0 0,.bool false]∧τ=[]):=by
 refine Makes.intro fun B' w K base h k=>?_
 replace hB:=base hB
 refine CP.up ?_
 unfold CP.pt
 refine h.make (fun B2 own base2=>WT) fun u τ w1 hp h=>?_
 obtain⟨p,rfl,rfl⟩:=hp
 have h:Rel B' w1 [rdD p ⟨t,false⟩]:=h
 have hal:∀L:PrL,(o9 L).length=L.length:=fun L=>List.length_map ..
 have hsn:WK ⟨t,false⟩:=fun hb=>by cases hb
 have l1:(qE ⟨t,false⟩).2.rest.length≤t.length:=(zB (.inl rfl:bE 59) 0 ⟨t,false⟩).1
 have hin:=(zB (.inl rfl:bE 59) 0 ⟨t,false⟩).2.1
 have n0:0≤(qE ⟨t,false⟩).1:=(zB (.inl rfl:bE 59) 0 ⟨t,false⟩).2.2 (Int.le_refl 0)
 have n1:(qE ⟨t,false⟩).1≤9223372036854775807:=hin.2
 have hs1:WK (qE ⟨t,false⟩).2:=ab0 hsn
 have no:(∀s,¬uV t s)→∀w' τ,Rel B' w' τ→K (.tuple #[.slice none 0 0,.bool false]) w':=fun hn w' τ h=>k _ _ _ (.inr ⟨hn,rfl,rfl⟩) h.nil
 have yes:∀s tv τ,uV t s→rT tv s τ→∀w',Rel B' w' τ→K (.tuple #[tv,.bool true]) w':=fun s tv τ h1 h2 w' h=>k _ _ _ (.inl ⟨s,tv,h1,rfl,h2⟩) h
 clear k
 unfold uV at no yes
 refine P6 fun J1 hJ1=>?_
 replace hJ1:∀(tv:Value) (L:PrL) (s':RS),zd0 (qE ⟨t,false⟩).1.toNat [] (qE ⟨t,false⟩).2=(prs L,s')→L.length≤t.length→(∀x∈L,x.1.last.length≤4611686018427387904)→∀w',Rel B' w' [rdD p s',Y3 U2 tv (o9 L),IG L]→J1 (tv,()) w':=by
  intro tv L s' htab hLl hq w' h
  refine hJ1 _ _ ?_
  clear hJ1
  rw[htab] at no yes
  simp only at no yes
  refine h.ask (fun B2 own base2=>dR (own (i:=0) rfl)) fun w3 h=>?_
  rw[V7,G5,R5]
  refine⟨fun cd=>?_,fun cd=>no (fun s hh=>by rw[hh.2.2.1] at cd;cases cd) _ _ h⟩
  refine h.ask (fun B2 own base2=>WB0 (Y3.read (own (i:=1) rfl)) (own (i:=2) rfl) (by omega) hq) fun w4 h=>?_
  rw[V7,G5,R5]
  refine⟨fun cr=>?_,fun cr=>no (fun s hh=>by rw[hh.2.2.2,zW.2 hh.1] at cr;cases cr) _ _ h⟩
  have hR:=zW.1 cr
  refine h.ask (fun B2 own base2=>gh0 (base2 hB) (Y3.read (own (i:=1) rfl)) (own (i:=2) rfl) hR) fun w5 h=>?_
  rw[FZ,G5,K3]
  refine⟨fun ce=>?_,fun ce=>no (fun s hh=>ce ?_) _ _ h⟩
  ·have ce:bI (prs L)=t:=by have:=congrArg bl ce;exact this
   have h:=h.pick [1,2] (by decide)
   exact yes (prs L) tv [Y3 U2 tv (o9 L),IG L] ⟨hR,ce,cd,rfl⟩ (uU fun B hB=>⟨L,rfl,Y3.read (Dat.star.left hB),Dat.star.left (Dat.star.right hB)⟩) _ h
  ·rw[hh.2.2.2,hh.2.1]
 refine h.rd_ 0 rfl (fun B2 own base2=>EY (base2 hB) (by show t.length≤_;omega)) fun w6 h=>?_
 generalize qE ⟨t,false⟩=n at *
 obtain⟨n,r1⟩:=n
 simp only at l1 n0 n1 hs1 hJ1
 obtain⟨m,rfl⟩:∃m:Nat,n=m:=⟨n.toNat,by omega⟩
 rw[Int.toNat_natCast] at hJ1
 have h:Rel B' w6 [rdD p r1]:=h
 have h:=h.VC PrD U2
 have h:Rel B' w6 [rdD p r1,Y3 U2 (.slice none 0 0) (o9 [])]:=h
 have h:=eA0 (d:=IG []) (τ:=[]) (σ:=[rdD p r1,Y3 U2 (.slice none 0 0) (o9 [])]) (fun B _ x hx=>by cases hx) (by simpa using h)
 refine F6 (fun x w'=>∃(j:Nat) (L:PrL) (tv:Value) (s':RS),j≤m∧x=(tv,.int .i64 j,())∧zd0 j (prs L) s'=zd0 m [] r1∧WK s'∧L.length+s'.rest.length≤t.length∧(∀x∈L,x.1.last.length≤4611686018427387904) ∧
   Rel B' w' [rdD p s',Y3 U2 tv (o9 L),IG L]) (fun x _=>match x.2.1 with | .int _ n=>n.toNat | _=>0)
  ⟨m,[],.slice none 0 0,r1,Nat.le_refl _,rfl,rfl,hs1,by simpa using l1,fun x hx=>(by cases hx),h⟩ ?_
 clear h
 rintro x w7 ⟨j,L,tv,s',hj,rfl,htab,hsa,hlen,hq,h⟩ next hnext
 simp -zeta only[x9,K3]
 refine⟨fun hpos=>?_,fun hz=>?_⟩
 case refine_2 =>
  obtain rfl:j=0:=by omega
  rw[zd0] at htab
  exact hJ1 tv L s' htab.symm (by omega) hq _ h
 obtain⟨i,rfl⟩:∃i,j=i+1:=⟨j-1,by omega⟩
 rw[zd0] at htab
 refine h.ask (fun B2 own base2=>gX (own (i:=0) rfl)) fun w8 h=>?_
 rw[x9,K3]
 refine⟨fun hp=>?_,fun hp=>?_⟩
 case refine_2 =>
  have:s'.rest=[]:=List.eq_nil_of_length_eq_zero (by omega)
  rw[if_pos this] at htab
  exact hJ1 tv L s' htab.symm (by omega) hq _ h
 have hne:¬s'.rest=[]:=fun hh=>by rw[hh] at hp;exact absurd hp (by simp)
 rw[if_neg hne] at htab
 obtain⟨hsa2,hshr⟩:=br0 hsa hne
 have a1:=(zB (.inl rfl:bE 59) (-9223372036854775808) s').1
 have a2:=(zB (.inl rfl:bE 59) (-9223372036854775808) (H5 s').2).1
 have a3:=(zB (.inl rfl:bE 59) (-9223372036854775808) (H5 (H5 s').2).2).1
 have a1:(H5 s').2.rest.length≤s'.rest.length:=a1
 have a2:(H5 (H5 s').2).2.rest.length≤(H5 s').2.rest.length:=a2
 have a3:(H5 (H5 (H5 s').2).2).2.rest.length≤(H5 (H5 s').2).2.rest.length:=a3
 have a4:(Zn0 (H5 (H5 (H5 s').2).2).2).1.length≤(H5 (H5 (H5 s').2).2).2.rest.length+1:=Eq0 Vd0 RV _
 refine h.rd_ 0 rfl (fun B2 own base2=>mD (base2 hB) (by omega)) fun w9 h=>?_
 have h:Rel B' w9 [rdD p (H5 s').2,Y3 U2 tv (o9 L),IG L]:=h
 refine h.rd_ 0 rfl (fun B2 own base2=>mD (base2 hB) (by omega)) fun w10 h=>?_
 have h:Rel B' w10 [rdD p (H5 (H5 s').2).2,Y3 U2 tv (o9 L),IG L]:=h
 refine h.rd_ 0 rfl (fun B2 own base2=>mD (base2 hB) (by omega)) fun w11 h=>?_
 have h:Rel B' w11 [rdD p (H5 (H5 (H5 s').2).2).2,Y3 U2 tv (o9 L),IG L]:=h
 refine h.act 0 rfl (fun B2 own base2=>mD0 (base2 hB) (by omega)) fun u e' τ w12 hp h=>?_
 obtain⟨rfl,rfl⟩:=hp
 have hpr:(FQ s').1=⟨(H5 s').1,(H5 (H5 s').2).1,(H5 (H5 (H5 s').2).2).1,(Zn0 (H5 (H5 (H5 s').2).2).2).1⟩:=rfl
 have h:Rel B' w12 [rdD p (FQ s').2,Y3 U2 tv (o9 L),IG L,Y3 Q0 u (FQ s').1.last]:=h
 have a4:(FQ s').1.last.length≤t.length+1:=by rw[hpr];show (Zn0 _).1.length≤_;omega
 have e1:(H5 s').1=(FQ s').1.id:=rfl
 have e2:(H5 (H5 s').2).1=(FQ s').1.epoch:=rfl
 have e3:(H5 (H5 (H5 s').2).2).1=(FQ s').1.next:=rfl
 rw[e1,e2,e3]
 clear hpr e1 e2 e3 a1 a2 a3
 generalize FQ s'=y at *
 obtain⟨pr,s2⟩:=y
 simp only at *
 have h1:u.oneCell'=true:=h.oneCell (i:=3) rfl
 obtain⟨sv,rfl⟩:∃sv:SV,sv.1=u:=⟨⟨u,h1⟩,rfl⟩
 obtain⟨a,c,hform,_⟩:=O4.form (Y3.read (h.here (i:=3) rfl))
 have hbd:∀{Kp:Value→Prop},M0 prog (H6 U2 #[(0,.int .i64 pr.id),(1,.int .i64 pr.epoch),(2,.int .i64 pr.next),(3,sv.1)]) Kp=Kp (pr.raw sv).v:=fun {Kp}=>by
  have e:(pr.raw sv).v = .agg #[.int .i64 pr.id,.int .i64 pr.epoch,.int .i64 pr.next,sv.1]:=rfl
  rw[e,hform]
  exact eU
 rw[hbd]
 refine h.WS (α:=PrD) 1 rfl (pr.raw sv) I6 (by decide) (by rw[hal];omega) (by rw[hal];omega) fun v2 w14 h=>?_
 have h:Rel B' w14 ([rdD p s2,Y3 U2 v2 (o9 L++[pr.raw sv])]++[IG L,Y3 Q0 sv.1 pr.last]):=h
 have h:=eA0 (d:=IG (L++[(pr,sv)])) (τ:=[IG L,Y3 Q0 sv.1 pr.last]) (σ:=[rdD p s2,Y3 U2 v2 (o9 L++[pr.raw sv])]) (fun B hB=>Dat.all_append (Dat.star.left hB) fun x hx=>by
  rw[List.mem_singleton] at hx
  subst hx
  exact Y3.read (Dat.star.left (Dat.star.right hB))) h
 rw[show o9 L++[pr.raw sv]=o9 (L++[(pr,sv)]) by simp [o9]] at h
 rw[TB,E5 (by omega) (by omega)]
 have e4:(((i+1:Nat):Int)-1)=(i:Int):=by omega
 rw[e4]
 refine hnext _ _ ⟨i,L++[(pr,sv)],v2,s2,by omega,rfl,?_,hsa2,by rw[List.length_append,List.length_singleton];omega,fun x hx=>?_,h⟩ (by simp only;omega)
 ·rw[←htab]
  simp
 ·rcases List.mem_append.1 hx with hx | hx
  ·exact hq x hx
  ·rw[List.mem_singleton.1 hx]
   show pr.last.length≤_
   omega
end
end Go.Proofs.YtngbebnhegcokaaGreatDoor
namespace Go.Proofs
open Go.Shelf
def Tryz.bY:Go.Shelf.Ren:=⟨fun | 7=>64 | 10=>129 | n=>n,fun | 23=>97 | 26=>3 | 3=>3 | 28=>110 | 0=>0 | 27=>109 | 33=>127 | 4=>4 | n=>n,fun | n=>n⟩
theorem Tryz.Iv0:Go.Proofs.SlLaysZI.n7 Tryz.prog Tryz.bY:={
 mixed:=by kernel_rfl
 f7:=⟨Tryz.f64.name,by decide,Tryz.func64.trans (congrArg some (by kernel_rfl))⟩
 f10:=⟨Tryz.f129.name,by decide,Tryz.func129.trans (congrArg some (by kernel_rfl))⟩
 t0:=Tryz.underlying0
 a0:=Tryz.isAgg0
 z0:=Tryz.sizeOf0
 v0:=Tryz.zeroValue0
 t4:=Tryz.underlying4
 a4:=Tryz.isAgg4
 z4:=Tryz.sizeOf4
 v4:=Tryz.zeroValue4
 t23:=Tryz.underlying97
 a23:=Tryz.isAgg97
 z23:=Tryz.sizeOf97
 v23:=Tryz.zeroValue97
 t26:=Tryz.underlying3
 a26:=Tryz.isAgg3
 z26:=Tryz.sizeOf3
 v26:=Tryz.zeroValue3
 t27:=Tryz.underlying109
 a27:=Tryz.isAgg109
 z27:=Tryz.sizeOf109
 v27:=Tryz.zeroValue109
 t28:=Tryz.underlying110
 a28:=Tryz.isAgg110
 z28:=Tryz.sizeOf110
 v28:=Tryz.zeroValue110
 t33:=Tryz.underlying127
 a33:=Tryz.isAgg127
 z33:=Tryz.sizeOf127
 v33:=Tryz.zeroValue127 }
def Tryz.Va0:Go.Shelf.Ren:=⟨fun | 8=>127 | 11=>180 | n=>n,fun | 26=>3 | 28=>110 | 24=>35 | 0=>0 | 33=>127 | 4=>4 | n=>n,fun | n=>n⟩
theorem Tryz.ql0:Go.Proofs.SlLaysZI.n8 Tryz.prog Tryz.Va0:={
 mixed:=by kernel_rfl
 f8:=⟨Tryz.f127.name,by decide,Tryz.func127.trans (congrArg some (by kernel_rfl))⟩
 f11:=⟨Tryz.f180.name,by decide,Tryz.func180.trans (congrArg some (by kernel_rfl))⟩
 t0:=Tryz.underlying0
 a0:=Tryz.isAgg0
 z0:=Tryz.sizeOf0
 v0:=Tryz.zeroValue0
 t24:=Tryz.underlying35
 a24:=Tryz.isAgg35
 z24:=Tryz.sizeOf35
 v24:=Tryz.zeroValue35
 t26:=Tryz.underlying3
 a26:=Tryz.isAgg3
 z26:=Tryz.sizeOf3
 v26:=Tryz.zeroValue3
 t28:=Tryz.underlying110
 a28:=Tryz.isAgg110
 z28:=Tryz.sizeOf110
 v28:=Tryz.zeroValue110
 i26:=by kernel_rfl }
theorem Tryz.wn0:∀args w,(callFunc 129 args).run Tryz.prog w = .ok (.enter 129 args) w:=enters_of Tryz.func129 (by kernel_rfl) rfl
end Go.Proofs

namespace Go.Proofs
open Go.Shelf
def Tryz.wd0:Go.Shelf.Ren:=⟨fun | 189=>128 | 125=>182 | 257=>181 | 128=>233 | 129=>234 | 294=>224 | 295=>225 | 296=>226 | 297=>227 | 298=>228 | 299=>229 | 216=>230 | 300=>231 | 301=>232 | 328=>261 | 329=>262 | 330=>263 | 331=>264 | 332=>265 | 215=>266 | 343=>276 | n=>n,fun | 28=>35 | 3=>3 | 46=>54 | 0=>0 | 51=>290 | 53=>292 | 4=>4 | 183=>284 | 182=>283 | 131=>266 | 5=>5 | 9=>9 | 218=>317 | 222=>277 | 228=>330 | 229=>331 | n=>n,fun | n=>n⟩
theorem Tryz.Gc0:Go.Proofs.Lays.n189 Tryz.prog Tryz.wd0:={
 mixed:=by kernel_rfl
 f125:=Tryz.func182.trans (congrArg some (by kernel_rfl))
 f128:=Tryz.func233.trans (congrArg some (by kernel_rfl))
 f129:=Tryz.func234.trans (congrArg some (by kernel_rfl))
 f189:=Tryz.func128.trans (congrArg some (by kernel_rfl))
 f215:=Tryz.func266.trans (congrArg some (by kernel_rfl))
 f216:=Tryz.func230.trans (congrArg some (by kernel_rfl))
 f257:=Tryz.func181.trans (congrArg some (by kernel_rfl))
 f294:=Tryz.func224.trans (congrArg some (by kernel_rfl))
 f295:=Tryz.func225.trans (congrArg some (by kernel_rfl))
 f296:=Tryz.func226.trans (congrArg some (by kernel_rfl))
 f297:=Tryz.func227.trans (congrArg some (by kernel_rfl))
 f298:=Tryz.func228.trans (congrArg some (by kernel_rfl))
 f299:=Tryz.func229.trans (congrArg some (by kernel_rfl))
 f300:=Tryz.func231.trans (congrArg some (by kernel_rfl))
 f301:=Tryz.func232.trans (congrArg some (by kernel_rfl))
 f328:=Tryz.func261.trans (congrArg some (by kernel_rfl))
 f329:=Tryz.func262.trans (congrArg some (by kernel_rfl))
 f330:=Tryz.func263.trans (congrArg some (by kernel_rfl))
 f331:=Tryz.func264.trans (congrArg some (by kernel_rfl))
 f332:=Tryz.func265.trans (congrArg some (by kernel_rfl))
 f343:=Tryz.func276.trans (congrArg some (by kernel_rfl))
 t0:=Tryz.underlying0
 a0:=Tryz.isAgg0
 z0:=Tryz.sizeOf0
 v0:=Tryz.zeroValue0
 t3:=Tryz.underlying3
 a3:=Tryz.isAgg3
 z3:=Tryz.sizeOf3
 v3:=Tryz.zeroValue3
 t4:=Tryz.underlying4
 a4:=Tryz.isAgg4
 z4:=Tryz.sizeOf4
 v4:=Tryz.zeroValue4
 t5:=Tryz.underlying5
 a5:=Tryz.isAgg5
 z5:=Tryz.sizeOf5
 v5:=Tryz.zeroValue5
 t9:=Tryz.underlying9
 a9:=Tryz.isAgg9
 z9:=Tryz.sizeOf9
 v9:=Tryz.zeroValue9
 t28:=Tryz.underlying35
 a28:=Tryz.isAgg35
 z28:=Tryz.sizeOf35
 v28:=Tryz.zeroValue35
 t46:=Tryz.underlying54
 a46:=Tryz.isAgg54
 z46:=Tryz.sizeOf54
 v46:=Tryz.zeroValue54
 t51:=Tryz.underlying290
 a51:=Tryz.isAgg290
 z51:=Tryz.sizeOf290
 v51:=Tryz.zeroValue290
 t53:=Tryz.underlying292
 a53:=Tryz.isAgg292
 z53:=Tryz.sizeOf292
 v53:=Tryz.zeroValue292
 t131:=Tryz.underlying266
 a131:=Tryz.isAgg266
 z131:=Tryz.sizeOf266
 v131:=Tryz.zeroValue266
 t182:=Tryz.underlying283
 a182:=Tryz.isAgg283
 z182:=Tryz.sizeOf283
 v182:=Tryz.zeroValue283
 t183:=Tryz.underlying284
 a183:=Tryz.isAgg284
 z183:=Tryz.sizeOf284
 v183:=Tryz.zeroValue284
 t218:=Tryz.underlying317
 a218:=Tryz.isAgg317
 z218:=Tryz.sizeOf317
 v218:=Tryz.zeroValue317
 t222:=Tryz.underlying277
 a222:=Tryz.isAgg277
 z222:=Tryz.sizeOf277
 v222:=Tryz.zeroValue277
 t228:=Tryz.underlying330
 a228:=Tryz.isAgg330
 z228:=Tryz.sizeOf330
 v228:=Tryz.zeroValue330
 t229:=Tryz.underlying331
 a229:=Tryz.isAgg331
 z229:=Tryz.sizeOf331
 v229:=Tryz.zeroValue331 }
end Go.Proofs

namespace Go.Proofs.YtngbebnhegcokaaGreatDoor
open Go.Proofs.Tryz (prog)
open Go.RowKit
set_option maxRecDepth 100000
theorem vf0(l:List Int):flat l=l.map (Value.int .i64):=by
 induction l with
 | nil=>rfl
 | cons a l ih=>rw[iI,ih];rfl
section
variable {B:Base} {w:World} {σ:List Dat} {E:TypeId}
theorem Rel.putRow(h:Rel B w σ)(i:Nat){g cap m n:Nat}{os:Array Obj}{l l':List Int}(hi:σ[i]? = some (Y3 E (.slice (some ⟨g,0,none⟩) l.length cap) l))(hl:l'.length=l.length)(hm:m≤l.length) :
  Rel B (Go.Sort.grow (Go.Sort.putRow (Value.int .i64) (Go.Sort.ahead w n) g 0 l'.toArray) os) (σ.set i (Y3 E (.slice (some ⟨g,0,none⟩) m cap) (l'.take m))):=by
 obtain⟨c,h⟩:=h
 obtain⟨_,cur,hb,h1,hmx,h3,h4⟩:=(Y3.own (h.own i _ hi)).inv
 have hlt:=hb.lt
 have h3':cur.size=cap:=by rw[h3];exact Nat.mul_one cap
 have hg:(Go.Sort.grow (Go.Sort.putRow (Value.int .i64) (Go.Sort.ahead w n) g 0 l'.toArray) os).heap[g]? = some (.cells (Go.Sort.putCells (Value.int .i64) 0 l'.toArray cur) E (0,0)):=by
  rw[Go.Sort.heap_grow_old _ _ (by simpa using hlt)]
  show (w.heap.modify g _)[g]? = _
  rw[Array.getElem?_modify,if_pos rfl,hb.2]
  rfl
 refine⟨WF c w.heap.size 0,h.step hi ⟨rfl,rfl,rfl,?_,fun k hk=>by simp [WF,hk],fun k hk ht=>?_⟩ (YB.Y3 (YB.mk_ (cur:=Go.Sort.putCells (Value.int .i64) 0 l'.toArray cur) ⟨by simp [WF,hlt,hb.1],hg⟩ ?_ (Nat.le_trans hm h1) hmx ?_ ?_))⟩
 ·rw[Go.Sort.size_grow,Go.Sort.size_putRow]
  exact Nat.le_add_right _ _
 ·rw[Go.Sort.heap_grow_old _ _ (by simpa using hk)]
  show (w.heap.modify g _)[k]? = _
  rw[Array.getElem?_modify,if_neg]
  rintro rfl
  exact ht hb.1
 ·rw[List.length_take];omega
 ·rw[←h3];simp [Go.Sort.putCells]
 ·rw[vf0]
  have hcs:(Go.Sort.putCells (Value.int .i64) 0 l'.toArray cur).size=cap:=by simp [Go.Sort.putCells,h3']
  have h1':(Enc.sz Int)=1:=rfl
  rw[h1',Nat.mul_one]
  apply List.ext_getElem
  ·simp [hcs];omega
  ·intro k hk1 hk2
   have hk:k<m:=by
    rw[List.length_take] at hk1
    omega
   have hkl:k<l'.length:=by omega
   simp [Go.Sort.putCells,hkl]
theorem holdsInt{c:Nat→Nat}{t g cap:Nat}{cur:Array Value}{l:List Int}(hb:Blk c t w g E cur)(h1:l.length≤cap)(h3:cur.size=cap * Enc.sz Int)(h4:cur.toList.take (l.length * Enc.sz Int)=flat l):Go.Sort.Holds (Value.int .i64) w g 0 l.toArray:=by
 intro j hj
 have hj':j<l.length:=by simpa using hj
 refine⟨?_,hb.free _⟩
 rw[Nat.zero_add]
 refine hb.cell ?_
 have e:(cur.toList.take (l.length * Enc.sz Int))[j]? = (flat l)[j]? := by rw[h4]
 have h1':(Enc.sz Int)=1:=rfl
 rw[h1',Nat.mul_one,List.getElem?_take_of_lt hj',vf0] at e
 rw[Array.getElem?_toList] at e
 rw[e]
 simp [hj']
abbrev iY(l:List Int):List Int:=l.mergeSort fun x y=>decide (x≤y)
theorem Aw0{l:List Int}{x:Int}:x∈iY l↔x∈l:=(List.mergeSort_perm l _).mem_iff
theorem nV(l:List Int):(iY l).length=l.length:=(List.mergeSort_perm l _).length_eq
theorem nu0{v:Value}{l:List Int}(hl:l.length≤1000000000):Does prog B (Y3 Q0 v l) (Z0 QD #[v]) fun u e' τ=>u = .tuple #[]∧e'=Y3 Q0 v (iY l)∧τ=[]:=by
 refine Does.intro fun B' w K base h k=>?_
 rcases Nat.eq_zero_or_pos l.length with h0 | h0
 ·have hl0:l=[]:=List.length_eq_zero_iff.1 h0
  subst hl0
  have hv:∃p cap,v = .slice p 0 cap:=by
   rcases h.here (i:=0) rfl with⟨rfl,_⟩ | ⟨g,cap,_,rfl,_⟩
   ·exact⟨_,_,rfl⟩
   ·exact⟨_,_,rfl⟩
  obtain⟨p,cap,rfl⟩:=hv
  refine MO.up ?_
  refine Calls.mono (Any.slices_Sort_int_none Tryz.Gc0 p cap w) fun e w' he=>?_
  obtain⟨rfl,rfl⟩:=he
  have e:iY []=[]:=by simp [iY]
  exact k _ _ [] _ ⟨rfl,rfl,rfl⟩ (by rw[e];exact h)
 ·obtain⟨g,cap,rfl⟩:=h.open_ (i:=0) rfl h0
  obtain⟨c,h'⟩:=h
  obtain⟨_,cur,hb,h1,hmx,h3,h4⟩:=(Y3.own (h'.own 0 _ rfl)).inv
  refine MO.up ?_
  refine Calls.mono (Any.slices_Sort_int Tryz.Gc0 g 0 cap l w (holdsInt hb h1 h3 h4) hb.lt (by omega)) fun e w' he=>?_
  obtain⟨rfl,n,os,rfl⟩:=he
  have:=Rel.putRow (B:=B') (σ:=[Y3 Q0 (.slice (some ⟨g,0,none⟩) l.length cap) l]) ⟨c,h'⟩ 0 (m:=l.length) (n:=n) (os:=os) (l':=iY l) rfl (nV l) (Nat.le_refl _)
  rw[List.take_of_length_le (by rw[nV];exact Nat.le_refl _)] at this
  exact k _ _ [] _ ⟨rfl,rfl,rfl⟩ this
end
section
variable {B:Base}
theorem KC0(m:Nat):Makes prog B (Z0 UC #[oO m]) fun u τ=>∃b,u = .func (.func y_) #[] #[ptr b]∧τ=[O1 b V6 #[oO m]]:=by
 refine Makes.intro fun B' w K base h k=>?_
 refine MB.up ?_
 unfold MB.pt
 refine h.box fun b w1 h=>?_
 simp -zeta only[TI]
 exact k _ _ _ ⟨b,rfl,rfl⟩ h
theorem QF0{n:Int}(h:inI n):(Lit.int .i64 n).wf=true:=by
 unfold Lit.wf
 simp only[Bool.and_eq_true,decide_eq_true_eq]
 exact⟨h.1,h.2⟩
abbrev yu0:Value→Option (DataW Unit×List MemPlace):=fun _=>some (.nil,[])
theorem fo0{e:Ent Int Int}(h:inI e.1):Go.WideElems.rd prog Q0 yu0 (JC e)=some (.int .i64 e.1,.nil):=by
 unfold Go.WideElems.rd
 have:keyOf prog Q0 (JC e).key=some (.int .i64 e.1):=Go.Maps.keyOf_int_mk IV (QF0 h)
 rw[this]
 rfl
theorem Gq0{l:List (Ent Int Int)}(hr:∀e∈l,inI e.1) :
  (Go.intKeys (DataW.map (((l.map JC).toArray.toList.map (Go.WideElems.rg prog Q0 yu0)).foldr DataW.insert []))).Perm (l.map (·.1)):=by
 show (List.map (fun p:Lit×DataW Unit=>Go.intOf p.1) _).Perm _
 refine(List.Perm.map _ (Go.WideShapes.sorted_perm _)).trans ?_
 rw[List.map_map]
 show (List.map _ (l.map JC)).Perm _
 rw[List.map_map]
 refine List.Perm.of_eq (List.map_congr_left fun e he=>?_)
 show Go.intOf (Go.WideElems.rg prog Q0 yu0 (JC e)).1=e.1
 unfold Go.WideElems.rg
 rw[fo0 (hr e he)]
 rfl
theorem Op0{m b c:Nat}{l:List (Ent Int Int)}(hb:O1 b V6 #[oO m] B)(hm:W9 m l c B)(hw:WfE l c)(hr:∀e∈l,inI e.1)(hl:l.length≤1000000) :
  Makes prog B (Z0 sG #[.func (.func y_) #[] #[ptr b]]) fun u τ=>∃ss,ss.Perm (l.map (·.1))∧τ=[Y3 Q0 u ss]:=by
 refine Makes.intro fun B' w K base h k=>?_
 have hb:=h.L6 (base hb)
 have hm:=h.L6 (base hm)
 have hb2:w.heap[b]? = some (.cells #[oO m] V6 (0,0)):=hb.2
 have hm2:w.heap[m]? = some (.map (l.map JC).toArray c):=hm.2
 have hsz:(l.map JC).toArray.size=l.length:=by simp
 have hown:w.ownsMap prog Q0 yu0 m l.length (DataW.map (((l.map JC).toArray.toList.map (Go.WideElems.rg prog Q0 yu0)).foldr DataW.insert [])):=by
  refine⟨_,c,hm2,⟨by rw[hsz];unfold maxLen;omega,⟨fun x hx=>?_,?_,?_⟩,fun x hx=>?_⟩,by rw[hsz];exact Nat.le_refl _,rfl⟩
  ·obtain⟨e,he,rfl⟩:=List.mem_map.1 (show x∈l.map JC from hx)
   exact hw.below e he
  ·show (List.map _ (l.map JC)).Nodup
   rw[List.map_map]
   exact hw.stamps
  ·show (List.map _ (l.map JC)).Nodup
   rw[List.map_map]
   have:(l.map (Enc.val ∘ fun e:Ent Int Int=>e.1)).Nodup:=by
    rw[←List.map_map]
    exact hw.keys.map (f:=(Enc.val:Int→Value)) (fun a b hab e=>hab (by injection e))
   exact this
  ·obtain⟨e,he,rfl⟩:=List.mem_map.1 (show x∈l.map JC from hx)
   exact⟨_,fo0 (hr e he)⟩
 have hlen:Go.Maps.size (DataW.map (((l.map JC).toArray.toList.map (Go.WideElems.rg (H:=Unit) prog Q0 yu0)).foldr DataW.insert []))=l.length:=by
  show (List.foldr DataW.insert [] _).length=_
  rw[(Go.WideShapes.sorted_perm _).length_eq]
  simp
 have hseq:=AnyZI.keys_gives (ρ:=Tryz.bY) { Tryz.Iv0 with } Fence.wide 1 trivial rfl (Nat.le_refl _) b m l.length _ w (Array.getElem?_eq_some_iff.1 hb2).1 (O1.oU hb (o:=0) rfl) hown
 have cS:=AnyZI.collect_in Tryz.ql0 Fence.wide 3 trivial trivial rfl (Nat.le_refl _) y_ #[ptr b] trivial Tryz.wn0 _ _ (by rw[hlen];unfold maxLen;omega) (by rw[hlen];omega) w hseq
 refine QY.up (Calls.mono (callsIn_wide.1 cS) ?_)
 rintro e w' ⟨v,ss,rfl,hS,hrow,_,hbl⟩
 refine k v _ w' ⟨ss,hS.trans (Gq0 hr),rfl⟩ ?_
 obtain⟨cc,h⟩:=h
 refine⟨WF cc w.heap.size 1,h.push ⟨hbl.os,hbl.tape,hbl.output,hbl.size,fun j hj=>if_pos hj,fun j hj _=>hbl.block j hj⟩ ?_⟩
 rcases hrow.2 with⟨rfl,h0⟩ | ⟨g,cap,cur,rfl,hbase,hg,h1,h2,h3,h4⟩
 ·exact .inl ⟨rfl,List.eq_nil_of_length_eq_zero h0⟩
 ·refine .inr ⟨g,cap,cur,rfl,⟨if_neg (by omega),hg⟩,h1,h2,h3,?_⟩
  rw[vf0]
  exact h4
end
structure ca0 (s:IS):Prop where
 in_:∀t,s.cnt t≠0→O9 s<t∧t≤s.top
theorem ek0.keys{s:IS}{times:List Int}(h:ek0 s times):ca0 s:=⟨fun t ht=>by
 have h1:=h.cnt t
 by_cases c:O9 s<t
 ·rw[if_pos c] at h1
  refine⟨c,h.top t ?_⟩
  have:0<times.count t:=by omega
  exact List.count_pos_iff.1 this
 ·rw[if_neg c] at h1;exact absurd h1 ht⟩
def CE(s:IS):List Int:=((List.range (s.top-O9 s).toNat).map fun i:Nat=>O9 s+1+(i:Int)).filter fun t=>decide (s.cnt t≠0)
theorem pU{s:IS}(h:ca0 s){t:Int}:t∈CE s↔s.cnt t≠0:=by
 unfold CE
 rw[List.mem_filter,decide_eq_true_iff,List.mem_map]
 constructor
 ·exact fun h=>h.2
 ·intro ht
  obtain⟨h1,h2⟩:=h.in_ t ht
  exact⟨⟨(t-O9 s-1).toNat,List.mem_range.2 (by omega),by omega⟩,ht⟩
theorem aj0(s:IS):(CE s).Pairwise (·<·):=by
 unfold CE
 refine List.Pairwise.filter _ ?_
 rw[List.pairwise_map]
 exact List.pairwise_lt_range.imp fun h=>by omega
theorem NU{s:IS}(h:uF s.cfg):s.top-O9 s≤10001 ∧ -1≤O9 s:=by
 have:=h.late
 unfold O9
 omega
theorem Oa0{s:IS}(h:uF s.cfg):(CE s).length≤10001:=by
 refine Nat.le_trans (List.length_filter_le _ _) ?_
 have:=(NU h).1
 simp
 omega
def qZ(s:IS)(t:Int):Bs:=encI t++encI (s.cnt t)
def ly0(s:IS):Bs:=(((encI s.now++encI s.top)++encI s.next)++encI s.refused)++yB (bI s.prods)
def rZ(s:IS):Bs:=(ly0 s++encI (CE s).length)++(CE s).flatMap (qZ s)
theorem Ec0{s:IS}(hk:ca0 s){l:List (Ent Int Int)}{c:Nat}(hc:iK s.cnt l c){ss:List Int}(hp:ss.Perm (l.map (·.1))):iY ss=CE s∧l.length=(CE s).length:=by
 have hnd:ss.Nodup:=hp.nodup_iff.2 hc.wf.keys
 have hmem:∀t,t∈ss↔s.cnt t≠0:=fun t=>by
  rw[hp.mem_iff,List.mem_map]
  have hg:=hc.get t
  constructor
  ·rintro⟨e,he,rfl⟩ h0
   rw[if_pos h0] at hg
   exact nU.1 hg e he rfl
  ·intro h0
   rw[if_neg h0] at hg
   obtain⟨b,hb⟩:=hc.wf.Af0.1 hg
   exact⟨_,hb,rfl⟩
 have e1:iY ss=CE s:=by
  refine ch0 ?_ (aj0 s) fun t=>by rw[Aw0,hmem,pU hk]
  have h1:=List.pairwise_mergeSort (le:=fun x y:Int=>decide (x≤y)) (fun a b c h1 h2=>by simp at h1 h2 ⊢;omega) (fun a b=>by simp;omega) ss
  have h2:(iY ss).Nodup:=(List.mergeSort_perm ss _).nodup_iff.2 hnd
  refine(h1.and h2).imp fun {a b} hh=>?_
  have:=of_decide_eq_true hh.1
  have:=hh.2
  omega
 refine⟨e1,?_⟩
 rw[←e1,nV,hp.length_eq,List.length_map]
def Tr0(cnt:Int→Int)(t n:Int):Int→Int:=fun x=>if x=t then n else cnt x
noncomputable def wW(top rate:Int):Nat→Int→(Int→Int)→RS→Option (Int→Int)
 | 0,_,cnt,r=>if aO r=true then some cnt else none
 | k+1,last,cnt,r=>if r.rest=[] then none else
  if(last+1≤(H5 r).1∧(H5 r).1≤top)∧1≤(H5 (H5 r).2).1∧(H5 (H5 r).2).1≤rate then wW top rate k (H5 r).1 (Tr0 cnt (H5 r).1 (H5 (H5 r).2).1) (H5 (H5 r).2).2 else none
noncomputable def Mi0(s:RS):((((Int×Int)×Int)×Int)×Bs)×RS:=IQ (IQ (IQ (IQ H5 H5) H5) H5) D8 s
theorem Iy0:Rd2 (fun p:(((Int×Int)×Int)×Int)×Bs=>(((encI p.1.1.1.1++encI p.1.1.1.2)++encI p.1.1.2)++encI p.1.2)++yB p.2) (fun p=>(((inI p.1.1.1.1∧inI p.1.1.1.2)∧inI p.1.1.2)∧inI p.1.2)∧p.2.length≤9223372036854775807) Mi0 :=
 (((mO.seq mO).seq mO).seq mO).seq RZ
open Classical in
noncomputable def Sn0(c:CfD)(ks:List Kn)(p:(((Int×Int)×Int)×Int)×Bs):Option IS :=
 if h:∃s,uV p.2 s then
  if YE p.1.1.1.1∧YE p.1.1.2∧(-1≤p.1.1.1.2∧p.1.1.1.2≤1099511627776)∧¬p.1.2<0 then some ⟨c,ks,p.1.1.1.1,p.1.1.1.2,p.1.1.2,p.1.2,h.choose,fun _=>0⟩ else none
 else none
noncomputable def xW(c:CfD)(ks:List Kn)(t:Bs):Option IS:=match Sn0 c ks (Mi0 ⟨t,false⟩).1 with
 | none=>none
 | some s0=>(wW s0.top c.rate (qE (Mi0 ⟨t,false⟩).2).1.toNat (O9 s0) s0.cnt (qE (Mi0 ⟨t,false⟩).2).2).map fun f=>{ s0 with cnt:=f }
theorem Kg0{s:IS}(hs:ca0 s)(hr:∀t,s.cnt t≤s.cfg.rate∧0≤s.cnt t)(hb:inI s.top∧inI s.cfg.rate ∧ -1≤O9 s):∀(l:List Int) (last:Int) (cnt:Int→Int),O9 s≤last→l.Pairwise (·<·)→(∀t∈l,last<t∧s.cnt t≠0) →
  wW s.top s.cfg.rate l.length last cnt ⟨l.flatMap (qZ s),false⟩=some (fun x=>if x∈l then s.cnt x else cnt x)
 | [],_,cnt,_,_,_=>by
  show wW _ _ 0 _ cnt ⟨[],false⟩=_
  rw[wW,if_pos (by rfl)]
  congr 1
 | t :: l,last,cnt,hcl,hp,hm=>by
  obtain⟨h1,h2⟩:=hm t List.mem_cons_self
  obtain⟨h3,h4⟩:=hs.in_ t h2
  obtain⟨h5,h6⟩:=hr t
  have hti:inI t:=by obtain⟨⟨_,_⟩,_⟩:=hb;constructor<;>omega
  have hci:inI (s.cnt t):=by obtain⟨_,⟨_,_⟩,_⟩:=hb;constructor<;>omega
  rw[List.length_cons,wW,List.flatMap_cons]
  unfold qZ
  have e1:H5 ⟨encI t++encI (s.cnt t)++l.flatMap (fun t=>encI t++encI (s.cnt t)),false⟩=(t,⟨encI (s.cnt t)++l.flatMap (fun t=>encI t++encI (s.cnt t)),false⟩):=by
   rw[List.append_assoc];exact yE hti _ false
  rw[e1]
  simp only
  rw[yE hci]
  simp only
  rw[if_neg (by simp [encI]),if_pos ⟨⟨by omega,h4⟩,by omega,h5⟩]
  have ih:=Kg0 hs hr hb l t (Tr0 cnt t (s.cnt t)) (by omega) (List.pairwise_cons.1 hp).2 fun x hx=>⟨(List.pairwise_cons.1 hp).1 x hx,(hm x (List.mem_cons_of_mem _ hx)).2⟩
  unfold qZ at ih
  rw[ih]
  congr 1
  funext x
  by_cases hx:x∈l
  ·rw[if_pos hx,if_pos (List.mem_cons_of_mem _ hx)]
  ·rw[if_neg hx]
   unfold Tr0
   by_cases e:x=t
   ·subst e;rw[if_pos rfl,if_pos List.mem_cons_self]
   ·rw[if_neg e,if_neg (fun h=>(List.mem_cons.1 h).elim e hx)]
structure ne0 (s:IS):Prop where
 cfg:uF s.cfg
 prods:DC s.prods
 now:inI s.now
 top : -1≤s.top∧s.top≤1099511627776
 next:inI s.next
 refused:inI s.refused
 cnt:∀t,0≤s.cnt t∧s.cnt t≤s.cfg.rate
 keys:ca0 s
theorem RN.fit{s:IS}(h:RN s)(hk:ca0 s):ne0 s:=by
 have h1:=h.now
 have h2:=h.next
 have h3:=h.refused
 exact⟨h.cfg,h.prods,⟨by omega,by omega⟩,h.top,⟨by omega,by omega⟩,⟨by omega,by omega⟩,h.cnt,hk⟩
theorem ne0.key{s:IS}(h:ne0 s){t:Int}(ht:t∈CE s):inI t∧inI (s.cnt t):=by
 have h1:=(pU h.keys).1 ht
 obtain⟨h2,h3⟩:=h.keys.in_ t h1
 have h4:=(NU h.cfg).2
 have h5:=h.top
 have h6:=h.cnt t
 have h7:=h.cfg.rate
 exact⟨⟨by omega,by omega⟩,⟨by omega,by omega⟩⟩
theorem tn0(s:IS):rZ s=ly0 s++(encI (CE s).length++(CE s).flatMap (qZ s)):=by
 unfold rZ
 rw[List.append_assoc]
theorem kv0{s:IS}(h:ne0 s)(r:Bs):Mi0 ⟨ly0 s++r,false⟩=(((((s.now,s.top),s.next),s.refused),bI s.prods),⟨r,false⟩):=by
 have ht:=h.top
 have hti:inI s.top:=⟨by omega,by omega⟩
 have:=Iy0.fore ((((s.now,s.top),s.next),s.refused),bI s.prods) r ⟨⟨⟨⟨h.now,hti⟩,h.next⟩,h.refused⟩,by have:=TU h.prods;show (bI s.prods).length≤_;omega⟩
 exact this
theorem Oi0{c:CfD}{ks:List Kn}{p:(((Int×Int)×Int)×Int)×Bs}{ps:List Pr}(h:uV p.2 ps)(hr:DC ps)(he:bI ps=p.2)(h1:YE p.1.1.1.1)(h2:YE p.1.1.2)(h3 : -1≤p.1.1.1.2∧p.1.1.1.2≤1099511627776)(h4:¬p.1.2<0) :
  Sn0 c ks p=some ⟨c,ks,p.1.1.1.1,p.1.1.1.2,p.1.1.2,p.1.2,ps,fun _=>0⟩:=by
 have hx:∃s,uV p.2 s:=⟨ps,h⟩
 unfold Sn0
 rw[dif_pos hx,if_pos ⟨h1,h2,h3,h4⟩]
 have:hx.choose=ps:=jB0 hr (by rw[he];exact hx.choose_spec)
 rw[this]
theorem dS{c:CfD}{ks:List Kn}{p:(((Int×Int)×Int)×Int)×Bs}(h:(∀s,¬uV p.2 s)∨¬(YE p.1.1.1.1∧YE p.1.1.2∧(-1≤p.1.1.1.2∧p.1.1.1.2≤1099511627776)∧¬p.1.2<0)):Sn0 c ks p=none:=by
 unfold Sn0
 rcases h with h | h
 ·rw[dif_neg fun⟨s,hs⟩=>h s hs]
 ·split
  ·first | rfl | rw[if_neg h]
  ·rfl
theorem ir0{s:IS}(h:ne0 s)(h1:YE s.now)(h2:YE s.next)(h3:0≤s.refused):xW s.cfg s.known (rZ s)=some s:=by
 have ht:=h.top
 have hl:=Oa0 (s:=s) h.cfg
 have hr:=h.cfg.rate
 unfold xW
 rw[tn0,kv0 h]
 simp only
 rw[Oi0 (ps:=s.prods) (FG0 h.prods) h.prods rfl h1 h2 ht (by show ¬s.refused<0;omega)]
 simp only
 rw[qW (n:=((CE s).length:Int)) (by omega) ⟨by omega,by omega⟩]
 simp only[Int.toNat_natCast]
 have hcl:O9 ⟨s.cfg,s.known,s.now,s.top,s.next,s.refused,s.prods,fun _=>0⟩=O9 s:=rfl
 rw[hcl,Kg0 h.keys (fun t=>⟨(h.cnt t).2,(h.cnt t).1⟩) ⟨⟨by omega,by omega⟩,⟨by omega,by omega⟩,(NU h.cfg).2⟩ (CE s) _ _ (Int.le_refl _) (aj0 s) fun t ht=>by
  have:=(pU h.keys).1 ht
  exact⟨(h.keys.in_ t this).1,this⟩]
 show some _=some _
 congr 1
 have:(fun x=>if x∈CE s then s.cnt x else 0)=s.cnt:=by
  funext x
  by_cases hx:x∈CE s
  ·rw[if_pos hx]
  ·rw[if_neg hx]
   have:=mt (pU h.keys).2 hx
   exact(Classical.not_not.1 this).symm
 rw[this]
section
variable {B:Base} {w:World} {p:Nat} {s:IS}
theorem Dw0{m b c:Nat}{l:List (Ent Int Int)}(hb:O1 b V6 #[oO m] B)(hm:W9 m l c B)(hw:WfE l c)(hr:∀e∈l,inI e.1)(hl:l.length≤1000000) :
  Makes prog B (Z0 OL #[.func (.func y_) #[] #[ptr b]]) fun u τ=>∃ss,ss.Perm (l.map (·.1))∧τ=[Y3 Q0 u (iY ss)]:=by
 refine Makes.intro fun B' w K base h k=>?_
 refine YJ.up ?_
 unfold YJ.pt
 refine h.make (fun B2 own base2=>Op0 (base2 (base hb)) (base2 (base hm)) hw hr hl) fun u τ w1 hp h=>?_
 obtain⟨ss,hp,rfl⟩:=hp
 have hlen:ss.length=l.length:=by rw[hp.length_eq,List.length_map]
 refine h.act 0 rfl (fun B2 own base2=>nu0 (by omega)) fun u2 e' τ w2 hp2 h=>?_
 obtain⟨rfl,rfl,rfl⟩:=hp2
 exact k _ _ _ ⟨ss,hp,rfl⟩ h
theorem W9.TH0{w:World}{m c:Nat}{l:List (Ent Int Int)}{Kp:Value→Prop}{U:TypeId}{bs:Array Bool}(h:(W9 m l c).here w):Y0 prog (M5 .len #[V6] U bs #[.map (some m)]) w Kp=Kp (.int .i64 l.length) :=
 mt0 (B:=⟨w,fun _=>False⟩) (w:=w) (σ:=[W9 m l c]) (κ:=Int) (ν:=Int) ⟨fun _=>1,rfl,rfl,rfl,Nat.le_refl _,fun _ hk=>hk.elim,fun _ hk=>hk.elim,fun i d hd=>by
  cases i with
  | zero=>cases hd;exact⟨rfl,h.2⟩
  | succ i=>simp at hd⟩ 0 rfl xC
set_option maxHeartbeats 1000000 in
theorem Ry0(hB:VI B)(hI:intD p s B)(hf:ne0 s):Gives prog B (Z0 zJ #[qb0 p]) (.string (ofL (rZ s))):=by
 refine Gives.intro fun B' w K base h k=>?_
 replace hB:=base hB
 obtain⟨kv,pv,m,l,c,hk,hc,hm,_,L,hL,rL,qL⟩:=intD.jP (base hI)
 refine uH.up ?_
 unfold uH.pt
 have h:=h.tick
 have hperm:=(Ec0 hf.keys hk (List.Perm.refl _)).2
 have hkl:=Oa0 (s:=s) hf.cfg
 have hll:l.length≤10001:=by omega
 have htop:inI s.top:=by have:=hf.top;constructor<;>omega
 have hin:inI (l.length:Int):=⟨by omega,by omega⟩
 have hwr:∀e∈l,inI e.1:=fun e he=>by
  have hg:SF e.1 l=some e.2.1:=jW hk.wf.keys he
  have hg2:=hk.get e.1
  rw[hg] at hg2
  by_cases h0:s.cnt e.1=0
  ·rw[if_pos h0] at hg2;cases hg2
  ·exact(hf.key ((pU hf.keys).2 h0)).1
 have l1:=Q6 hf.now
 have l2:=Q6 htop
 have l3:=Q6 hf.next
 have l4:=Q6 hf.refused
 have l5:=TU hf.prods
 have l6:=wE (bI s.prods) (by omega)
 have l7:=Q6 hin
 have hall:=xE (qZ s) (CE s) 42 fun t ht=>by
  have h1:=Q6 (hf.key ht).1
  have h2:=Q6 (hf.key ht).2
  unfold qZ
  rw[List.length_append]
  omega
 have en:sd0 (l.length:Int)=encI l.length:=by unfold sd0;rw[if_neg (by omega)]
 have is:∀{w:World} {σ:List Dat} {o:Nat} {T:TypeId} {x:Value},Rel B' w σ→scB prog T=true→(ics s kv pv m).toList[o]? = some x→Is prog (X0 T (.pointer (some ⟨p,o,none⟩))) x w:=fun h ht hx=>O1.is (h.L6 hc) ht hx
 simp -zeta only[J5,U0 vG,U0 wG,U0 NJ,U0 dO,U0 xG,U0 XD,Nat.zero_add,
  O1.ld (h.L6 hc) Y2 (o:=7) (v := .int .i64 s.now) rfl,O1.ld (h.L6 hc) Y2 (o:=8) (v := .int .i64 s.top) rfl,O1.ld (h.L6 hc) Y2 (o:=9) (v := .int .i64 s.next) rfl,O1.ld (h.L6 hc) Y2 (o:=10) (v := .int .i64 s.refused) rfl,
  O1.ld (h.L6 hc) g_ (o:=11) (v:=pv.1) rfl,O1.ld (h.L6 hc) o_ (o:=12) (v:=oO m) rfl]
 refine h.ask (fun B2 own base2=>wC (base2 hB) hf.now) fun w1 h=>?_
 refine⟨is h o_ rfl,is h g_ rfl,is h Y2 rfl,is h Y2 rfl,is h Y2 rfl,?_⟩
 refine h.ask (fun B2 own base2=>wC (base2 hB) htop) fun w2 h=>?_
 refine⟨is h o_ rfl,is h g_ rfl,is h Y2 rfl,is h Y2 rfl,?_⟩
 rw[C9 (by omega)]
 refine h.ask (fun B2 own base2=>wC (base2 hB) hf.next) fun w3 h=>?_
 refine⟨is h o_ rfl,is h g_ rfl,is h Y2 rfl,?_⟩
 rw[C9 (by simp only[List.length_append];omega)]
 refine h.ask (fun B2 own base2=>wC (base2 hB) hf.refused) fun w4 h=>?_
 refine⟨is h o_ rfl,is h g_ rfl,?_⟩
 rw[C9 (by simp only[List.length_append];omega)]
 refine h.ask (fun B2 own base2=>gh0 (base2 hB) (base2 rL) (base2 qL) (by rw[hL];exact hf.prods)) fun w5 h=>?_
 rw[hL]
 refine⟨is h o_ rfl,?_⟩
 refine h.ask (fun B2 own base2=>gT (base2 hB) (by omega)) fun w6 h=>?_
 refine⟨is h o_ rfl,?_⟩
 rw[C9 (by simp only[List.length_append];omega),W9.TH0 (h.L6 hm)]
 refine h.ask (fun B2 own base2=>oh0 (base2 hB) hin) fun w7 h=>?_
 refine⟨is h Y2 rfl,is h Y2 rfl,?_⟩
 rw[en,C9 (by simp only[List.length_append];omega)]
 simp -zeta only[O1.ld (h.L6 hc) o_ (o:=12) (v:=oO m) rfl]
 refine h.make (fun B2 own base2=>KC0 m) fun u τ w8 hp h=>?_
 obtain⟨b,rfl,rfl⟩:=hp
 refine h.make (fun B2 own base2=>Dw0 (own (i:=0) rfl) (base2 hm) hk.wf hwr (by omega)) fun u τ w9 hp h=>?_
 obtain⟨ss,hss,rfl⟩:=hp
 rw[(Ec0 hf.keys hk hss).1] at h
 have h:Rel B' w9 [Y3 Q0 u (CE s)]:=h.pick [1] (by decide)
 have ehd:rZ s=((((((encI s.now++encI s.top)++encI s.next)++encI s.refused)++yB (bI s.prods))++encI (l.length:Int))++(CE s).flatMap (qZ s)):=by
  unfold rZ ly0
  rw[hperm]
 rw[ehd] at k
 generalize hhd:((((((encI s.now++encI s.top)++encI s.next)++encI s.refused)++yB (bI s.prods))++encI (l.length:Int)))=hd at *
 have hhl:hd.length≤100000:=by rw[←hhd];simp only[List.length_append];omega
 rw[O4.len (Y3.read (h.here (i:=0) rfl)) N8]
 refine F6 (fun x w'=>∃i:Nat,i≤(CE s).length∧x=(.string (ofL (hd++((CE s).take i).flatMap (qZ s))),.int .i64 i,())∧Rel B' w' [Y3 Q0 u (CE s)]) (fun x _=>(CE s).length-(match x.2.1 with | .int _ n=>n.toNat | _=>0))
  ⟨0,Nat.zero_le _,by rw[List.take_zero,List.flatMap_nil,List.append_nil];rfl,h⟩ ?_
 clear h
 rintro x w10 ⟨i,hi,rfl,h⟩ next hnext
 simp -zeta only[G6]
 rw[K3]
 refine⟨fun hlt=>?_,fun hge=>?_⟩
 ·have hil:i<(CE s).length:=by omega
  have hkey:=hf.key (List.getElem_mem hil)
  have m1:=Q6 hkey.1
  have m2:=Q6 hkey.2
  have hstep:=jI (qZ s) (l:=CE s) (i:=i) hil
  have hle:=QE (qZ s) (CE s) i
  obtain⟨g2,o2,hx2,hc2⟩:=O4.idx (Y3.read (h.here (i:=0) rfl)) N8 (P:=prog) hil
  have hc2:(K6 g2 o2 [.int .i64 (CE s)[i]]).here w10:=hc2
  simp -zeta only[hx2,K6.ld0 hc2 Y2 rfl]
  have h:=h.tick
  simp -zeta only[O1.ld (h.L6 hc) o_ (o:=12) (v:=oO m) rfl]
  rw[W9.look (h.L6 hm) xC Jf0 0 bk0 (CE s)[i],hk.getD]
  refine h.ask (fun B2 own base2=>wC (base2 hB) hkey.1) fun w11 h=>?_
  refine⟨bz0 fun {K}=>by rw[W9.look (h.L6 hm) xC Jf0 0 bk0 (CE s)[i],hk.getD],is h o_ rfl,?_⟩
  refine h.ask (fun B2 own base2=>wC (base2 hB) hkey.2) fun w12 h=>?_
  rw[C9 (by omega),C9 (by simp only[List.length_append];omega),Z5,E5 (by omega) (by omega)]
  refine hnext _ _ ⟨i+1,by omega,?_,h⟩ (by simp only;omega)
  rw[hstep]
  unfold qZ
  simp only[List.append_assoc]
  rfl
 ·have hie:i=(CE s).length:=by omega
  subst hie
  rw[List.take_length]
  exact k _ _ h.nil
end
end Go.Proofs.YtngbebnhegcokaaGreatDoor
namespace Go.Proofs.YtngbebnhegcokaaGreatDoor
open Go.Proofs.Tryz (prog)
open Go.RowKit Go.Shelf
set_option maxRecDepth 100000
end Go.Proofs.YtngbebnhegcokaaGreatDoor
namespace Go.Proofs.YtngbebnhegcokaaGreatDoor
open Go.Proofs.Tryz (prog)
open Go.RowKit
set_option maxRecDepth 100000
theorem SA0{x y:Int}{l:List (Ent Int Int)}{c:Nat}(h:SF x l=none):WL x y l c=(l++[(x,y,c)],c+1):=by
 have:QC x l 0=none:=by
  unfold SF at h
  cases hf:QC x l 0 with
  | none=>rfl
  | some q=>rw[hf] at h;cases h
 unfold WL
 rw[this]
theorem zn0{x z:Int}{l:List (Ent Int Int)}{c:Nat}:∃e∈(dI x z l c).1,e.2.2=(dI x z l c).2.2.1:=by
 unfold dI
 cases hf:QC x l 0 with
 | none=>exact⟨(x,z,c),List.mem_append_right _ (by simp),rfl⟩
 | some q =>
  obtain⟨h1,_,_⟩:=lD (i:=q.1) (v:=q.2) hf
  refine⟨l[q.1],List.getElem_mem h1,?_⟩
  show _=((l[q.1]?).map (·.2.2)).getD 0
  rw[List.getElem?_eq_getElem h1]
  rfl
theorem iK.upd{cnt:Int→Int}{l:List (Ent Int Int)}{c:Nat}(h:iK cnt l c){t n:Int}(hn:n≠0):iK (Tr0 cnt t n) (WL t n l c).1 (WL t n l c).2:=by
 refine⟨h.wf.set _ _,fun x=>?_⟩
 rw[xU h.wf.keys]
 unfold Tr0
 by_cases hx:x=t
 ·rw[if_pos hx,if_pos hx,if_neg hn]
 ·rw[if_neg hx,if_neg hx,h.get]
section
variable {B:Base} {w:World} {p:Nat}
set_option maxHeartbeats 2000000 in
theorem GC0(hB:qC B)(c:CfD){v:Value}{ks:List Kn}(hkn:JA v ks B)(hf:SB0 ks){t:Bs}(ht:t.length≤1000000) :
  Makes prog B (Z0 iT #[.agg c.cs.toArray,v,.string (ofL t)]) fun u τ=>(uF c∧∃s p,xW c ks t=some s∧u = .tuple #[qb0 p,.bool true]∧τ=[intD p s])∨((uF c→xW c ks t=none)∧u = .tuple #[.pointer none,.bool false]∧τ=[]):=by
 refine Makes.intro fun B' w K base h k=>?_
 replace hB:=base hB
 refine PS.up ?_
 unfold PS.pt
 refine h.box fun o w1 h=>?_
 have h:Rel B' w1 [O1 o V4 c.cs.toArray]:=h
 rw[h.r9 0 rfl uD rfl]
 refine h.make (fun B2 own base2=>yE0 c (base2 (base hkn)) hf) fun u τ w2 hp h=>?_
 rcases hp with⟨hR,p,rfl,rfl⟩ | ⟨hR,rfl,rfl⟩
 case inr =>
  rw[ZC0,lC]
  exact k _ _ _ (.inr ⟨fun hh=>absurd hh hR,rfl,rfl⟩) h.nil
 rw[JC0,d_]
 have no:xW c ks t=none→∀w' σ,Rel B' w' σ→K (.tuple #[.pointer none,.bool false]) w':=fun e w' σ h=>k _ _ _ (.inr ⟨fun _=>e,rfl,rfl⟩) h.nil
 have yes:∀s,xW c ks t=some s→∀w',Rel B' w' [intD p s]→K (.tuple #[qb0 p,.bool true]) w':=fun s e w' h=>k _ _ _ (.inl ⟨hR,s,p,e,rfl,rfl⟩) h
 clear k
 refine h.make (fun B2 own base2=>WT) fun u τ w3 hp h=>?_
 obtain⟨q,rfl,rfl⟩:=hp
 have h:Rel B' w3 [O1 o V4 c.cs.toArray,intD p (YP c ks),rdD q ⟨t,false⟩]:=h
 have q0:(⟨t,false⟩:RS).rest.length=t.length:=rfl
 have q1:=YD ⟨t,false⟩
 have q2:=YD (H5 ⟨t,false⟩).2
 have q3:=YD (H5 (H5 ⟨t,false⟩).2).2
 have q4:=YD (H5 (H5 (H5 ⟨t,false⟩).2).2).2
 have q5:=AU (H5 (H5 (H5 (H5 ⟨t,false⟩).2).2).2).2
 have q6:=Wd0 (D8 (H5 (H5 (H5 (H5 ⟨t,false⟩).2).2).2).2).2
 refine h.rd_ 2 rfl (fun B2 own base2=>mD (base2 hB) (by omega)) fun w4 h=>?_
 refine h.rd_ 2 rfl (fun B2 own base2=>mD (base2 hB) (by omega)) fun w5 h=>?_
 refine h.rd_ 2 rfl (fun B2 own base2=>mD (base2 hB) (by omega)) fun w6 h=>?_
 refine h.rd_ 2 rfl (fun B2 own base2=>mD (base2 hB) (by omega)) fun w7 h=>?_
 have hdef:Mi0 ⟨t,false⟩=((((((H5 ⟨t,false⟩).1,(H5 (H5 ⟨t,false⟩).2).1),(H5 (H5 (H5 ⟨t,false⟩).2).2).1),(H5 (H5 (H5 (H5 ⟨t,false⟩).2).2).2).1),(D8 (H5 (H5 (H5 (H5 ⟨t,false⟩).2).2).2).2).1),(D8 (H5 (H5 (H5 (H5 ⟨t,false⟩).2).2).2).2).2):=rfl
 unfold xW at no yes
 rw[hdef] at no yes
 simp only at no yes
 have htl:(D8 (H5 (H5 (H5 (H5 ⟨t,false⟩).2).2).2).2).1.length≤t.length:=by omega
 have hrl:(D8 (H5 (H5 (H5 (H5 ⟨t,false⟩).2).2).2).2).2.rest.length≤t.length:=by omega
 have h4l:(H5 (H5 (H5 (H5 ⟨t,false⟩).2).2).2).2.rest.length≤t.length:=by omega
 have h:Rel B' w7 [O1 o V4 c.cs.toArray,intD p (YP c ks),rdD q (H5 (H5 (H5 (H5 ⟨t,false⟩).2).2).2).2]:=h
 have rdT:∀{K:PtK} {w:World} {σ:List Dat},Rel B' w (rdD q (H5 (H5 (H5 (H5 ⟨t,false⟩).2).2).2).2 :: σ)→(∀w',Rel B' w' (rdD q (D8 (H5 (H5 (H5 (H5 ⟨t,false⟩).2).2).2).2).2 :: σ)→K (.string (ofL (D8 (H5 (H5 (H5 (H5 ⟨t,false⟩).2).2).2).2).1)) w')→upK prog (Z0 y8 #[uS q]) w K:=fun h kk=>h.rd_ 0 rfl (fun B2 own base2=>iR (base2 hB) (by omega)) kk
 clear hdef q0 q1 q2 q3 q4 q5 q6
 generalize D8 (H5 (H5 (H5 (H5 ⟨t,false⟩).2).2).2).2=y5 at *
 generalize H5 (H5 (H5 (H5 ⟨t,false⟩).2).2).2=y4 at *
 generalize H5 (H5 (H5 ⟨t,false⟩).2).2=y3 at *
 generalize H5 (H5 ⟨t,false⟩).2=y2 at *
 generalize H5 ⟨t,false⟩=y1 at *
 obtain⟨tx,r5⟩:=y5
 obtain⟨x4,r4⟩:=y4
 obtain⟨x3,r3⟩:=y3
 obtain⟨x2,r2⟩:=y2
 obtain⟨x1,r1⟩:=y1
 simp only at no yes htl hrl h4l h rdT
 have h:=h.pick [0,2,1] (by decide)
 have h:Rel B' w7 ([O1 o V4 c.cs.toArray,rdD q r4]++[intD p (YP c ks)]):=h
 obtain⟨kv,pv,m,l,cc,hk,h⟩:=intD.nS h
 have h:Rel B' w7 [O1 o V4 c.cs.toArray,rdD q r4,O1 p O3 (ics (YP c ks) kv pv m),W9 m l cc,JA kv.1 ks,GJ pv.1 []]:=h
 simp -zeta only[J5,U0 vG,U0 wG,U0 NJ,U0 dO,U0 xG,Nat.zero_add]
 refine h.st 2 rfl Y2 (show 7<13 by omega) rfl fun w8 h=>?_
 refine h.st 2 rfl Y2 (show 8<13 by omega) rfl fun w9 h=>?_
 refine h.st 2 rfl Y2 (show 9<13 by omega) rfl fun w10 h=>?_
 refine h.st 2 rfl Y2 (show 10<13 by omega) rfl fun w11 h=>?_
 have h:=h.pick [1,0,2,3,4] (by decide)
 have h:Rel B' w11 [rdD q r4,O1 o V4 c.cs.toArray,O1 p O3 (ics ⟨c,ks,x1,x2,x3,x4,[],fun _=>0⟩ kv pv m),W9 m l cc,JA kv.1 ks]:=h
 refine rdT h fun w12 h=>?_
 refine h.make (fun B2 own base2=>Iw0 (base2 hB) (by omega)) fun u τ w13 hp h=>?_
 rcases hp with⟨ps,tv,hT,rfl,hown⟩ | ⟨hT,rfl,rfl⟩
 case inr =>
  simp -zeta only[M9,D9]
  refine h.st 2 rfl g_ (show 11<13 by omega) rfl fun w14 h=>?_
  rw[V7,Bool.not_false,lC]
  exact no (by rw[dS (.inl hT)]) _ _ h
 simp -zeta only[M9,D9]
 have h:=hown _ _ _ h
 have h:Rel B' w13 [rdD q r5,O1 o V4 c.cs.toArray,O1 p O3 (ics ⟨c,ks,x1,x2,x3,x4,[],fun _=>0⟩ kv pv m),W9 m l cc,JA kv.1 ks,GJ tv ps]:=h
 have htv:tv.oneCell'=true:=GJ.oneCell (h.here (i:=5) rfl)
 refine h.st 2 rfl g_ (show 11<13 by omega) htv fun w14 h=>?_
 have h:Rel B' w14 [rdD q r5,O1 o V4 c.cs.toArray,O1 p O3 (ics ⟨c,ks,x1,x2,x3,x4,ps,fun _=>0⟩ kv ⟨tv,htv⟩ m),W9 m l cc,JA kv.1 ks,GJ tv ps]:=h
 rw[V7,Bool.not_true,d_]
 simp -zeta only[h.ld 2 rfl Y2 (o:=7) (v := .int .i64 x1) rfl]
 refine h.ask (fun _ _ _=>zZ x1) fun w15 h=>?_
 rw[V7,G5,K3]
 refine⟨fun c1=>?_,fun c1=>no (by rw[dS (.inr fun hh=>c1 hh.1)]) _ _ h⟩
 simp -zeta only[h.ld 2 rfl Y2 (o:=9) (v := .int .i64 x3) rfl]
 refine h.ask (fun _ _ _=>zZ x3) fun w16 h=>?_
 rw[V7,G5,K3]
 refine⟨fun c2=>?_,fun c2=>no (by rw[dS (.inr fun hh=>c2 hh.2.1)]) _ _ h⟩
 simp -zeta only[h.ld 2 rfl Y2 (o:=8) (v := .int .i64 x2) rfl]
 refine h.ask (fun _ _ _=>ZO x2 (-1) 1099511627776) fun w17 h=>?_
 rw[V7,G5,K3]
 refine⟨fun c3=>?_,fun c3=>no (by rw[dS (.inr fun hh=>c3 hh.2.2.1)]) _ _ h⟩
 simp -zeta only[h.ld 2 rfl Y2 (o:=10) (v := .int .i64 x4) rfl]
 rw[G6,K3]
 refine⟨fun c4=>no (by rw[dS (.inr fun hh=>hh.2.2.2 c4)]) _ _ h,fun c4=>?_⟩
 obtain⟨ok1,ok2,_⟩:=id hT
 rw[Oi0 (ps:=ps) hT ok1 ok2 c1 c2 c3 c4] at no yes
 simp only at no yes
 refine h.ask (fun B2 own base2=>aX (own (i:=2) rfl) hR c3) fun w18 h=>?_
 have n0:0≤(qE r5).1:=(zB (.inl rfl:bE 59) 0 r5).2.2 (Int.le_refl 0)
 have nI:inI (qE r5).1:=(zB (.inl rfl:bE 59) 0 r5).2.1
 have q6:=Wd0 r5
 refine h.rd_ 0 rfl (fun B2 own base2=>EY (base2 hB) (by omega)) fun w19 h=>?_
 have h:Rel B' w19 [rdD q (qE r5).2,O1 o V4 c.cs.toArray,O1 p O3 (ics ⟨c,ks,x1,x2,x3,x4,ps,fun _=>0⟩ kv ⟨tv,htv⟩ m),W9 m l cc,JA kv.1 ks,GJ tv ps]:=h
 generalize qE r5=y6 at *
 obtain⟨n,r6⟩:=y6
 simp only at no yes n0 nI q6 h
 obtain⟨N,rfl⟩:∃N:Nat,n=N:=⟨n.toNat,by omega⟩
 rw[Int.toNat_natCast] at no yes
 have hgap:=NU (s:=⟨c,ks,x1,x2,x3,x4,ps,fun _=>0⟩) hR
 have hcle:O9 ⟨c,ks,x1,x2,x3,x4,ps,fun _=>0⟩≤1099511627776:=by
  have:=hR.late
  show max (-1) (x2-c.late-1)≤_
  omega
 have hc0:=hgap.2
 clear hgap
 have h0:l.length=0:=by
  rcases Nat.eq_zero_or_pos l.length with e | e
  ·exact e
  ·have hm:=jW hk.wf.keys (List.getElem_mem e)
   rw[hk.get,if_pos (show (YP c ks).cnt l[0].1=0 from rfl)] at hm
   cases hm
 refine P6 fun J hJ=>?_
 replace hJ:∀(cnt:Int→Int) (r:RS) (l:List (Ent Int Int)) (cc:Nat) w',iK cnt l cc→wW x2 c.rate N (O9 ⟨c,ks,x1,x2,x3,x4,ps,fun _=>0⟩) (fun _=>0) r6=(if aO r=true∧l.length=N then some cnt else none) →
   Rel B' w' [rdD q r,O1 o V4 c.cs.toArray,O1 p O3 (ics ⟨c,ks,x1,x2,x3,x4,ps,fun _=>0⟩ kv ⟨tv,htv⟩ m),W9 m l cc,JA kv.1 ks,GJ tv ps]→J () w':=by
  clear h hk h0
  intro cnt r l cc w' hk hfin h
  refine hJ _ _ ?_
  rw[hfin] at no yes
  refine h.ask (fun B2 own base2=>dR (own (i:=0) rfl)) fun w20 h=>?_
  rw[V7,G5,R5]
  refine⟨fun c5=>?_,fun c5=>no (by rw[if_neg (fun hh=>by rw[hh.1] at c5;cases c5)];rfl) _ _ h⟩
  simp -zeta only[U0 XD,Nat.zero_add,h.ld 2 rfl o_ (o:=12) (v:=oO m) rfl]
  rw[mt0 h 3 rfl xC,Q7,G5,K3]
  refine⟨fun c6=>?_,fun c6=>no (by rw[if_neg (fun hh=>c6 (by rw[hh.2]))];rfl) _ _ h⟩
  have h:=h.pick [2,3,4,5] (by decide)
  have h:Rel B' w20 [O1 p O3 (ics ⟨c,ks,x1,x2,x3,x4,ps,cnt⟩ kv ⟨tv,htv⟩ m),W9 m l cc,JA kv.1 ks,GJ tv ps]:=h
  exact yes ⟨c,ks,x1,x2,x3,x4,ps,cnt⟩ (by rw[if_pos ⟨c5,by omega⟩];rfl) _ (intD.close hk h)
 refine F6 (fun x w'=>∃(i:Nat) (last:Int) (cnt:Int→Int) (r:RS) (l:List (Ent Int Int)) (cc:Nat),i≤N∧x=(.int .i64 last,.int .i64 i,())∧iK cnt l cc∧l.length=i∧(∀y,cnt y≠0→y≤last)∧(-1≤last∧last≤1099511627776) ∧
   wW x2 c.rate (N-i) last cnt r=wW x2 c.rate N (O9 ⟨c,ks,x1,x2,x3,x4,ps,fun _=>0⟩) (fun _=>0) r6∧r.rest.length≤t.length ∧
   Rel B' w' [rdD q r,O1 o V4 c.cs.toArray,O1 p O3 (ics ⟨c,ks,x1,x2,x3,x4,ps,fun _=>0⟩ kv ⟨tv,htv⟩ m),W9 m l cc,JA kv.1 ks,GJ tv ps]) (fun x _=>N-(match x.2.1 with | .int _ n=>n.toNat | _=>0))
  ⟨0,_,fun _=>0,r6,l,cc,Nat.zero_le _,rfl,hk,h0,fun y hy=>absurd rfl hy,⟨hc0,hcle⟩,rfl,by omega,h⟩ ?_
 clear h hk h0
 rintro x w21 ⟨i,last,cnt,r,l,cc,hi,rfl,hk,hl,hlast,hbl,hev,hsl,h⟩ next hnext
 rw[G6,K3]
 refine⟨fun hlt=>?_,fun hge=>?_⟩
 case refine_2 =>
  have e0:N-i=0:=by omega
  rw[e0,wW] at hev
  refine hJ cnt r l cc _ hk ?_ h
  rw[←hev]
  by_cases hd:aO r=true
  ·rw[if_pos hd,if_pos ⟨hd,by omega⟩]
  ·rw[if_neg hd,if_neg fun hh=>hd hh.1]
 obtain⟨k',hk'⟩:∃k',N-i=k'+1:=⟨N-i-1,by omega⟩
 rw[hk',wW] at hev
 refine h.ask (fun B2 own base2=>gX (own (i:=0) rfl)) fun w22 h=>?_
 rw[x9,K3]
 refine⟨fun hpos=>?_,fun hnp=>?_⟩
 case refine_2 =>
  have hnil:r.rest=[]:=List.eq_nil_of_length_eq_zero (by omega)
  rw[if_pos hnil] at hev
  refine hJ cnt r l cc _ hk ?_ h
  rw[←hev,if_neg fun hh=>by omega]
 have hne:¬r.rest=[]:=fun e=>by rw[e] at hpos;exact absurd hpos (by decide)
 rw[if_neg hne] at hev
 have z1:=YD r
 have z2:=YD (H5 r).2
 refine h.rd_ 0 rfl (fun B2 own base2=>mD (base2 hB) (by omega)) fun w23 h=>?_
 refine h.rd_ 0 rfl (fun B2 own base2=>mD (base2 hB) (by omega)) fun w24 h=>?_
 have h:Rel B' w24 [rdD q (H5 (H5 r).2).2,O1 o V4 c.cs.toArray,O1 p O3 (ics ⟨c,ks,x1,x2,x3,x4,ps,fun _=>0⟩ kv ⟨tv,htv⟩ m),W9 m l cc,JA kv.1 ks,GJ tv ps]:=h
 have z3:(H5 (H5 r).2).2.rest.length≤t.length:=by omega
 clear z1 z2
 generalize hR2:(H5 (H5 r).2)=y2 at *
 generalize hR1:H5 r=y1 at *
 obtain⟨M,r8⟩:=y2
 obtain⟨T,r7⟩:=y1
 simp only at hev h z3
 rw[Z5,E5 (by omega) (by omega)]
 simp -zeta only[U0 wG,Nat.zero_add,h.ld 2 rfl Y2 (o:=8) (v := .int .i64 x2) rfl]
 refine h.ask (fun _ _ _=>ZO T (last+1) x2) fun w25 h=>?_
 rw[V7,G5,K3]
 refine⟨fun c5=>?_,fun c5=>no (by rw[←hev,if_neg fun hh=>c5 hh.1];rfl) _ _ h⟩
 simp -zeta only[U0 bS,Nat.zero_add,h.ld 1 rfl Y2 (o:=4) (v := .int .i64 c.rate) rfl]
 refine h.ask (fun _ _ _=>ZO M 1 c.rate) fun w26 h=>?_
 rw[V7,G5,K3]
 refine⟨fun c6=>?_,fun c6=>no (by rw[←hev,if_neg fun hh=>c6 hh.2];rfl) _ _ h⟩
 rw[if_pos ⟨c5,c6⟩] at hev
 simp -zeta only[U0 XD,Nat.zero_add,h.ld 2 rfl o_ (o:=12) (v:=oO m) rfl]
 refine h.mapEntry 3 rfl xC Jf0 0 bk0 T fun w27 h=>?_
 rw[D9]
 refine h.entryStore 3 rfl zn0 M fun w28 h=>?_
 obtain⟨es1,es2⟩:=qc0 (x:=T) (y:=M) (z:=(0:Int)) hk.wf
 have hg:SF T l=none:=by
  rw[hk.get]
  by_cases e:cnt T=0
  ·rw[if_pos e]
  ·exact absurd (hlast T e) (by omega)
 have hlen:(WL T M l cc).1.length=i+1:=by rw[SA0 hg,List.length_append,hl];rfl
 have h:Rel B' w28 [rdD q r8,O1 o V4 c.cs.toArray,O1 p O3 (ics ⟨c,ks,x1,x2,x3,x4,ps,fun _=>0⟩ kv ⟨tv,htv⟩ m),W9 m (oV (dI T 0 l cc).2.2.1 M (dI T 0 l cc).1) (dI T 0 l cc).2.1,JA kv.1 ks,GJ tv ps]:=h
 rw[es1,es2] at h
 rw[Z5,E5 (by omega) (by omega)]
 refine hnext _ _ ⟨i+1,T,Tr0 cnt T M,r8,_,_,by omega,rfl,hk.upd (by omega),hlen,fun y hy=>?_,⟨by omega,by omega⟩,by rw[show N-(i+1)=k' by omega];exact hev,z3,h⟩ (by simp only;omega)
 unfold Tr0 at hy
 by_cases e:y=T
 ·omega
 ·rw[if_neg e] at hy
  have:=hlast y hy
  omega
end
theorem Rd2.map{α β:Type}{enc:α→Bs}{good:α→Prop}{one:RS→α×RS}(h:Rd2 enc good one)(f:α→β)(g:β→α)(hfg:∀b,f (g b)=b)(hgf:∀a,g (f a)=a):Rd2 (fun b=>enc (g b)) (fun b=>good (g b)) (fun s=>(f (one s).1,(one s).2)):=by
 refine⟨fun s hb=>?_,fun x r hx=>?_⟩
 ·obtain⟨h1,h2,h3⟩:=h.back s hb
  exact⟨h1,by simp only[hgf];exact h2,by simp only[hgf];exact h3⟩
 ·show (f (one ⟨enc (g x)++r,false⟩).1,(one ⟨enc (g x)++r,false⟩).2)=_
  rw[h.fore _ _ hx,hfg]
def vOf(x:(Int×Int)×Bs):OD:=⟨x.1.1,x.1.2,ofL x.2⟩
def vTo(v:OD):(Int×Int)×Bs:=((v.kind,v.n),bl v.s)
theorem fE0(v:OD):vOf (vTo v)=v:=by
 obtain⟨k,n,s⟩:=v
 show (⟨k,n,ofL (bl s)⟩:OD)=_
 rw[fV]
def XR(v:OD):Bs:=encI v.kind++encI v.n++yB (bl v.s)
structure VK (v:OD):Prop where
 kind:inI v.kind
 n:inI v.n
 s:(bl v.s).length≤9223372036854775807
noncomputable def NW(s:RS):OD×RS:=(vOf (IQ (IQ H5 H5) D8 s).1,(IQ (IQ H5 H5) D8 s).2)
theorem le0:Rd2 XR VK NW:=by
 have h:=((mO.seq mO).seq RZ).map vOf vTo fE0 fun x=>rfl
 exact⟨fun s hb=>by
  obtain⟨h1,h2,h3⟩:=h.back s hb
  exact⟨h1,h2,⟨h3.1.1,h3.1.2,h3.2⟩⟩,fun x r hx=>h.fore x r ⟨⟨hx.kind,hx.n⟩,hx.s⟩⟩
def dG(l:List OD):Bs:=encI l.length++l.flatMap XR
theorem Ii0(v:OD):0<(XR v).length:=by
 unfold XR
 have:=RV v.kind
 simp only[List.length_append]
 omega
noncomputable def uO(t:Bs):Option (List OD) :=
 let n:=qE ⟨t,false⟩
 let p:=IK NW n.1.toNat [] n.2
 if aO p.2=true then some p.1 else none
theorem Rc0{l:List OD}(hl:l.length≤9223372036854775807)(hg:∀v∈l,VK v):uO (dG l)=some l:=by
 unfold uO dG
 rw[qW (by omega) ⟨by omega,by omega⟩]
 have h:=le0.Oj0 l [] [] hg
 rw[List.append_nil,List.nil_append] at h
 simp only[Int.toNat_natCast,h]
 rfl
theorem Rl0{t:Bs}{l:List OD}(h:uO t=some l):dG l=t∧∀v∈l,VK v:=by
 unfold uO at h
 simp only at h
 split at h
 ·rename_i hd
  injection h with h
  obtain⟨d1,d2⟩:=qn0 hd
  obtain⟨b1,l2,l1,l2',l3,l4⟩:=le0.times _ _ _ d1
  obtain⟨_,c2,c3⟩:=yt0.back _ b1
  rw[List.nil_append] at l2'
  rw[l2'] at h
  subst h
  refine⟨?_,l4⟩
  unfold dG
  have hn:(l2.length:Int)=(qE ⟨t,false⟩).1:=by omega
  have e:t=encI (qE ⟨t,false⟩).1++(qE ⟨t,false⟩).2.rest:=c2
  rw[l3,d2,List.append_nil] at e
  rw[hn]
  exact e.symm
 ·cases h
theorem dp0{k:Nat}(hk:0<k){acc:List OD}{s:RS}(hs:s.rest=[]):aO (IK NW k acc s).2=false:=by
 cases hd:aO (IK NW k acc s).2
 ·rfl
 ·obtain⟨d1,d2⟩:=qn0 hd
  obtain⟨_,l,l1,_,l3,_⟩:=le0.times _ _ _ d1
  rw[hs,d2,List.append_nil] at l3
  cases l with
  | nil=>rw[List.length_nil] at l1;omega
  | cons v l =>
   have h1:=Ii0 v
   have:=congrArg List.length l3
   rw[List.flatMap_cons,List.length_append,List.length_nil] at this
   omega
theorem Qj0{s:RS}(h:WK s):WK (NW s).2:=TY (iG (iG h))
theorem rp0{s:RS}(hs:WK s)(hr:s.rest≠[]):(NW s).2.rest.length+1≤s.rest.length:=by
 have hlen:0<s.rest.length:=List.length_pos_iff.2 hr
 cases hb:(NW s).2.bad
 ·obtain⟨_,h2,_⟩:=le0.back s hb
  have:=Ii0 (NW s).1
  rw[h2,List.length_append]
  omega
 ·rw[Qj0 hs hb,List.length_nil]
  omega
theorem Gi0{v:OD}(h:VK v){N:Nat}(hN:(bl v.s).length≤N):(XR v).length≤64+N:=by
 unfold XR
 have h1:=Q6 h.kind
 have h2:=Q6 h.n
 have h3:=wE (bl v.s) h.s
 simp only[List.length_append]
 omega
section
variable {B:Base} {w:World} {σ:List Dat} {p:Nat} {s:RS}
theorem rB0(hB:VI B){v:OD}(hg:VK v)(hs:(bl v.s).length≤1099511627776):Gives prog B (Z0 lT #[.agg v.cs.toArray]) (.string (ofL (XR v))):=by
 refine Gives.intro fun B' w K base h k=>?_
 replace hB:=base hB
 refine eT.up ?_
 unfold eT.pt
 refine h.box fun o w1 h=>?_
 have h:Rel B' w1 [O1 o R3 v.cs.toArray]:=h
 have h:=h.tick
 have h1:=Q6 hg.kind
 have h2:=Q6 hg.n
 have h3:=wE (bl v.s) hg.s
 have es:v.s=ofL (bl v.s):=(fV v.s).symm
 simp -zeta only[U0 vP,U0 KT,U0 mM,Nat.add_zero,Nat.zero_add,h.ld 0 rfl Y2 (o:=0) rfl,h.ld 0 rfl Y2 (o:=1) rfl,h.ld 0 rfl U6 (o:=2) rfl]
 refine h.ask (fun B2 own base2=>wC (base2 hB) hg.kind) fun w2 h=>?_
 refine⟨h.is 0 rfl U6 (o:=2) rfl,h.is 0 rfl Y2 (o:=1) rfl,?_⟩
 refine h.ask (fun B2 own base2=>wC (base2 hB) hg.n) fun w3 h=>?_
 refine⟨h.is 0 rfl U6 (o:=2) rfl,?_⟩
 rw[C9 (by omega)]
 refine h.ask (v := .string (ofL (yB (bl v.s)))) (fun B2 own base2=>by have:=gT (B:=B2) (base2 hB) (s:=bl v.s) (by omega);rw[←es] at this;exact this) fun w4 h=>?_
 rw[C9 (by rw[List.length_append];omega)]
 exact k _ _ h
theorem Og0(hB:VI B){u:Value}{l:List OD}(r:O4 u l B)(hl:l.length≤1000000)(hg:∀v∈l,VK v∧(bl v.s).length≤1000000):Gives prog B (Z0 UK #[u]) (.string (ofL (dG l))):=by
 refine Gives.Ef0 fun B' w K base h start k=>?_
 replace hB:=base hB
 replace r:=base r
 refine zO.up ?_
 unfold zO.pt
 have hall:=xE XR l 1000064 fun v hv=>by have:=Gi0 (hg v hv).1 (hg v hv).2;omega
 refine h.alloc PG fun b w1 h=>?_
 have h:=start w1 b h
 simp -zeta only[O4.len r Q8]
 have hin:inI (l.length:Int):=⟨by omega,by omega⟩
 refine h.ask (fun B2 own base2=>oh0 (base2 hB) hin) fun w2 h=>?_
 have en:sd0 (l.length:Int)=encI l.length:=by unfold sd0;rw[if_neg (by omega)]
 rw[en]
 have h2:=Q6 hin
 refine h.VN (Nat.le_refl _) (by rw[Q_,List.length_nil];omega) fun _ w4 h=>?_
 have h:Rel B' w4 [bP B'.W.heap.size b (encI l.length)]:=h
 unfold dG at k
 refine F6 (fun x w'=>∃i:Nat,i≤l.length∧x=(.int .i64 i,())∧Rel B' w' [bP B'.W.heap.size b (encI l.length++(l.take i).flatMap XR)]) (fun x _=>l.length-(match x.1 with | .int _ n=>n.toNat | _=>0))
  ⟨0,Nat.zero_le _,rfl,by simpa using h⟩ ?_
 clear h
 rintro x w5 ⟨i,hi,rfl,h⟩ next hnext
 simp -zeta only[G6,K3]
 refine⟨fun hlt=>?_,fun hge=>?_⟩
 ·have hil:i<l.length:=by omega
  obtain⟨g,o,hx,hcl⟩:=O4.idx r Q8 (P:=prog) hil
  have hcl:K6 g o l[i].cs B':=hcl
  obtain⟨hgi,hsi⟩:=hg l[i] (List.getElem_mem hil)
  have hstep:=jI XR hil
  have hle:=QE XR l (i+1)
  rw[hstep,List.length_append] at hle
  rw[hx,K6.r9 (h.L6 hcl) Z7 rfl]
  refine h.R8 (ds:=l[i].cs.toArray) JK rfl Z7 rfl (fun v hv=>Enc.one l[i] v hv) fun a w6 h=>?_
  have h:Rel B' w6 [bP B'.W.heap.size b (encI l.length++(l.take i).flatMap XR),O1 a R3 l[i].cs.toArray]:=h
  rw[h.r9 1 rfl Z7 rfl]
  refine h.ask (fun B2 own base2=>rB0 (base2 hB) hgi (by omega)) fun w7 h=>?_
  refine(h.take 1).VN (Nat.le_refl _) (by rw[Q_];simp only[List.length_append];omega) fun _ w11 h=>?_
  rw[Z5,E5 (by omega) (by omega)]
  refine hnext _ _ ⟨i+1,hil,rfl,?_⟩ (by simp only;omega)
  rw[hstep,←List.append_assoc]
  exact h
 ·refine h.gU (Nat.le_refl _) fun w7 h=>?_
  have hie:i=l.length:=by omega
  subst hie
  rw[List.take_length]
  exact k _ _ h
theorem KG0(hB:qC B)(hs:s.rest.length≤140737488355328):Does prog B (rdD p s) (Z0 GU #[uS p]) (jV p (.agg (NW s).1.cs.toArray) (NW s).2):=by
 refine Does.rd fun B' w K base h k=>?_
 replace hB:=base hB
 refine tV.up ?_
 unfold tV.pt
 have a1:(H5 s).2.rest.length≤s.rest.length:=(zB (.inl rfl) _ s).1
 have a2:(H5 (H5 s).2).2.rest.length≤(H5 s).2.rest.length:=(zB (.inl rfl) _ (H5 s).2).1
 refine h.alloc JK fun o w1 h=>?_
 refine h.rd_ 0 rfl (fun B2 own base2=>mD (base2 hB) (by omega)) fun w2 h=>?_
 refine h.rd_ 0 rfl (fun B2 own base2=>mD (base2 hB) (by omega)) fun w3 h=>?_
 rw[YO]
 refine h.R8 (ds:=(⟨(H5 s).1,(H5 (H5 s).2).1,⟨#[]⟩⟩:OD).cs.toArray) JK rfl Z7 rfl (fun v hv=>Enc.one (⟨(H5 s).1,(H5 (H5 s).2).1,⟨#[]⟩⟩:OD) v hv) fun o2 w5 h=>?_
 refine h.rd_ 0 rfl (fun B2 own base2=>iR (base2 hB) (by omega)) fun w6 h=>?_
 simp -zeta only[U0 mM,Nat.zero_add]
 refine h.st 2 rfl U6 (show 2<3 by omega) rfl fun w7 h=>?_
 have h:Rel B' w7 [rdD p (NW s).2,O1 o R3 (Value.cells (.agg #[(.int .i64 0),(.int .i64 0),(.string ⟨#[]⟩)])),O1 o2 R3 (NW s).1.cs.toArray]:=h
 rw[h.r9 2 rfl Z7 rfl]
 refine h.YG 1 (ds:=(NW s).1.cs.toArray) rfl Z7 rfl rfl (fun v hv=>Enc.one (NW s).1 v hv) fun w8 h=>?_
 rw[qJ h 1 rfl Z7 rfl]
 exact k _ _ h
theorem Aj0(hB:qC B){t:Bs}(ht:t.length≤1099511627776):Makes prog B (Z0 EM #[.string (ofL t)]) fun u τ=>(∃l v,uO t=some l∧u = .tuple #[v,.bool true]∧τ=[Y3 R3 v l])∨(uO t=none∧u = .tuple #[.slice none 0 0,.bool false]∧τ=[]):=by
 refine Makes.intro fun B' w K base h k=>?_
 replace hB:=base hB
 refine NP.up ?_
 unfold NP.pt
 refine h.make (fun B2 own base2=>WT) fun u τ w1 hp h=>?_
 obtain⟨p,rfl,rfl⟩:=hp
 have h:Rel B' w1 [rdD p ⟨t,false⟩]:=h
 have hsn:WK ⟨t,false⟩:=fun hb=>by cases hb
 have l1:(qE ⟨t,false⟩).2.rest.length≤t.length:=(zB (.inl rfl:bE 59) 0 ⟨t,false⟩).1
 have n0:0≤(qE ⟨t,false⟩).1:=(zB (.inl rfl:bE 59) 0 ⟨t,false⟩).2.2 (Int.le_refl 0)
 have hin:=(zB (.inl rfl:bE 59) 0 ⟨t,false⟩).2.1
 have n1:(qE ⟨t,false⟩).1≤9223372036854775807:=hin.2
 have hs1:WK (qE ⟨t,false⟩).2:=ab0 hsn
 have no:uO t=none→∀w' τ,Rel B' w' τ→K (.tuple #[.slice none 0 0,.bool false]) w':=fun hn w' τ h=>k _ _ _ (.inr ⟨hn,rfl,rfl⟩) h.nil
 have yes:∀l v,uO t=some l→∀w',Rel B' w' [Y3 R3 v l]→K (.tuple #[v,.bool true]) w':=fun l v h1 w' h=>k _ _ _ (.inl ⟨l,v,h1,rfl,rfl⟩) h
 clear k hin
 unfold uO at no yes
 simp only at no yes
 refine h.rd_ 0 rfl (fun B2 own base2=>EY (base2 hB) (by show t.length≤_;omega)) fun w2 h=>?_
 generalize qE ⟨t,false⟩=n at *
 obtain⟨n,r1⟩:=n
 simp only at l1 n0 n1 hs1 no yes
 obtain⟨m,rfl⟩:∃m:Nat,n=m:=⟨n.toNat,by omega⟩
 rw[Int.toNat_natCast] at no yes
 have h:Rel B' w2 [rdD p r1]:=h
 have h:=h.VC OD R3
 refine F6 (fun x w'=>∃(j:Nat) (acc:List OD) (v:Value) (s':RS),j≤m∧x=(v,.int .i64 j,())∧IK NW j acc s'=IK NW m [] r1∧WK s'∧acc.length+s'.rest.length≤t.length ∧
   Rel B' w' [rdD p s',Y3 R3 v acc]) (fun x _=>match x.2.1 with | .int _ n=>n.toNat | _=>0)
  ⟨m,[],.slice none 0 0,r1,Nat.le_refl _,rfl,rfl,hs1,by simpa using l1,h⟩ ?_
 clear h
 rintro x w3 ⟨j,acc,v,s',hj,rfl,htab,hsa,hlen,h⟩ next hnext
 simp -zeta only[x9,K3]
 refine⟨fun hpos=>?_,fun hz=>?_⟩
 ·obtain⟨i,rfl⟩:∃i,j=i+1:=⟨j-1,by omega⟩
  refine h.ask (fun B2 own base2=>gX (own (i:=0) rfl)) fun w4 h=>?_
  rw[F7,K3]
  refine⟨fun hp=>?_,fun hp=>?_⟩
  ·have hr:s'.rest=[]:=List.eq_nil_of_length_eq_zero (by omega)
   have:=dp0 (k:=i+1) (acc:=acc) (Nat.succ_pos i) hr
   rw[htab] at this
   exact no (if_neg (by rw[this];decide)) _ _ h
  ·have hr:s'.rest≠[]:=fun hh=>by rw[hh] at hp;exact hp rfl
   rw[IK] at htab
   have hsh:=rp0 hsa hr
   have hs2:=Qj0 hsa
   refine h.rd_ 0 rfl (fun B2 own base2=>KG0 (base2 hB) (by omega)) fun w5 h=>?_
   generalize NW s'=y at *
   obtain⟨x,s2⟩:=y
   simp only at hsh hs2 htab
   have h:Rel B' w5 [rdD p s2,Y3 R3 v acc]:=h
   refine h.WS (α:=OD) 1 rfl x Q8 (by decide) (by omega) (by omega) fun v2 w7 h=>?_
   rw[TB,E5 (by omega) (by omega)]
   have e4:(((i+1:Nat):Int)-1)=(i:Int):=by omega
   rw[e4]
   exact hnext _ _ ⟨i,acc++[x],v2,s2,by omega,rfl,htab,hs2,by rw[List.length_append,List.length_singleton];omega,h⟩ (by simp only;omega)
 ·obtain rfl:j=0:=by omega
  rw[IK] at htab
  rw[←htab] at no yes
  simp only at no yes
  refine h.ask (fun B2 own base2=>dR (own (i:=0) rfl)) fun w8 h=>?_
  rw[V7,G5,R5]
  refine⟨fun cd=>?_,fun cd=>no (if_neg (by rw[cd];decide)) _ _ h⟩
  have h:=h.pick [1] (by decide)
  exact yes acc v (if_pos cd) _ h
end
end Go.Proofs.YtngbebnhegcokaaGreatDoor
namespace Go.Proofs.YtngbebnhegcokaaGreatDoor
open Go.Proofs.Tryz (prog)
open Go.RowKit
set_option maxRecDepth 100000
abbrev Val:=T9
def Ng0(x:Val):Bool:=if x.kind=0 then decide (x.s=⟨#[]⟩) else if x.kind=1 then decide (x.n=0)&&decide (x.s.size≤200) else decide (x.kind=2)&&(decide (x.n=0)||decide (x.n=1))&&decide (x.s=⟨#[]⟩)
def DK(l:List Val):Bool:=decide (l.length≤12)&&l.all Ng0
set_option maxRecDepth 100000
set_option maxRecDepth 100000 in
theorem qw0(v:Val):xS v=Ng0 v:=by
 obtain⟨k,n,s⟩:=v
 unfold xS Ng0 sB0 op0 dd0
 simp only[T9.mk.injEq]
 by_cases h0:k=0
 ·simp [h0]
 ·by_cases h1:k=1
  ·have hs:((s.size:Int)≤200)↔s.size≤200:=by omega
   simp [h1,hs]
  ·simp only[h0,h1,if_false]
   by_cases h2:k=2
   ·by_cases h3:n=0
    ·simp [h2,h3]
    ·simp [h2,h3]
   ·simp [h2]
set_option maxRecDepth 100000 in
theorem Vc0(l:List Val):wU l=DK l:=by
 unfold wU DK
 have:xS=Ng0:=by funext v;exact qw0 v
 rw[this,show decide ((l.length:Int)≤12)=decide (l.length≤12) from decide_eq_decide.2 (by omega)]
set_option maxRecDepth 100000 in
theorem np0{B:Base}{v:Value}{l:List Val}(r:O4 v l B)(hs:∀x∈l,x.s.size≤9223372036854775807):Gives prog B (Z0 gF #[v]) (.bool (DK l)):=by
 rw[←Vc0];exact Yc0 r
end Go.Proofs.YtngbebnhegcokaaGreatDoor
namespace Go.Proofs.YtngbebnhegcokaaGreatDoor
open Go.Proofs.Tryz (prog)
open Go.RowKit
set_option maxRecDepth 100000
structure Ev where
 part:Int
 pos:Int
 source:ByteArray
 schema:Int
 time:Int
 row:List Val
 deriving DecidableEq
def Ev.raw(e:Ev)(v:SV):Y7:=⟨e.part,e.pos,e.source,e.schema,e.time,v⟩
abbrev EvL:=List (Ev×SV)
def l_(L:EvL):List Y7:=L.map fun p=>p.1.raw p.2
def evs(L:EvL):List Ev:=L.map (·.1)
def sM(L:EvL):Dat:=Dat.all L fun p=>O4 p.2.1 p.1.row
def dN(p:Ev×SV):Dat:=Y3 R3 p.2.1 p.1.row
def sy0(v:Value)(L:EvL)(B:Base):Prop:=O4 v (l_ L) B∧sM L B
section
variable {B:Base}
theorem Qk0(e:Ev)(v:SV)(r:O4 v.1 e.row B)(hl:e.row.length≤1000000):Makes prog B (Z0 SH #[(e.raw v).v]) fun u τ=>∃v':SV,u=(e.raw v').v∧τ=[dN (e,v')]:=by
 refine Makes.intro fun B' w K base h k=>?_
 replace r:=base r
 refine mR.up ?_
 unfold mR.pt
 refine h.box fun b w1 h=>?_
 replace h:Rel B' w1 [O1 b Q3 (e.raw v).cs.toArray]:=by
  have e1:((e.raw v).v:Value).cells=(e.raw v).cs.toArray:=Enc.cells_val (e.raw v)
  rw[e1] at h
  exact h
 refine h.alloc TC fun b2 w2 h=>?_
 simp -zeta only[U0 lM,Nat.zero_add,h.ld 0 rfl H7 (o:=5) rfl]
 refine h.make (fun B2 own base2=>pM (base2 r) (by omega) (by omega)) fun v' τ w3 hp h=>?_
 subst hp
 have h1:v'.oneCell'=true:=h.oneCell (i:=2) rfl
 refine h.st 0 rfl H7 (show 5<6 by omega) h1 fun w4 h=>?_
 rw[h.r9 0 rfl Y8 rfl]
 refine h.Nr0 1 rfl Y8 rfl (by decide) (fun u hu=>Enc.one (e.raw ⟨v',h1⟩) u hu) fun w5 h=>?_
 rw[qJ h 1 rfl Y8 rfl]
 exact k _ [dN (e,⟨v',h1⟩)] _ ⟨⟨v',h1⟩,rfl,rfl⟩ (h.pick [2] (by decide))
theorem ry0(e:Ev)(v:SV)(r:O4 v.1 e.row B)(hl:e.row.length≤1000000):Makes prog B (dA (.func (.func SH) #[] #[]) #[(e.raw v).v]) fun u τ=>∃v':SV,u=(e.raw v').v∧τ=[dN (e,v')]:=by
 intro w σ K h k
 exact YH (Qk0 e v r hl w σ K h k)
theorem Yx0{v:Value}{L:EvL}(r:sy0 v L B)(hn:L.length≤1000000)(hl:∀p∈L,p.1.row.length≤1000000) :
  Makes prog B (Z0 aG #[v,.func (.func SH) #[] #[]]) fun u τ=>∃L':EvL,evs L'=evs L∧τ=Y3 Q3 u (l_ L') :: L'.map dN:=by
 refine Makes.intro fun B' w K base h k=>?_
 have r1:=base r.1
 have r2:=base r.2
 clear r
 refine kE.up ?_
 unfold kE.pt
 have hrl:(l_ L).length=L.length:=by simp [l_]
 simp -zeta only[O4.len r1 u7]
 rw[hrl]
 refine h.Bz0 (m:=0) (n:=L.length) (⟨0,0,⟨#[]⟩,0,0,⟨.slice none 0 0,rfl⟩⟩:Y7) u7 (by kernel_rfl) (Nat.zero_le _) (by omega) (by omega) fun u w1 h _=>?_
 refine F6 (fun x w'=>∃(i:Nat) (u:Value) (L':EvL),i≤L.length∧x=(u,.int .i64 i,())∧evs L'=(evs L).take i∧Rel B' w' (Y3 Q3 u (l_ L') :: L'.map dN)) (fun x _=>L.length-(match x.2.1 with | .int _ n=>n.toNat | _=>0)) ⟨0,u,[],Nat.zero_le _,rfl,rfl,h⟩ ?_
 clear h
 rintro x w2 ⟨i,u,L',hi,rfl,he,h⟩ next hnext
 have hl':L'.length=i:=by
  have:=congrArg List.length he
  simpa [evs,hi] using this
 simp -zeta only[G6,K3]
 refine⟨fun hlt=>?_,fun hge=>?_⟩
 ·have hil:i<L.length:=by omega
  obtain⟨g,o,hx,hc⟩:=O4.idx r1 u7 (i:=i) (by omega)
  have hel:(l_ L)[i]'(by omega)=L[i].1.raw L[i].2:=by simp [l_]
  rw[hel] at hc
  simp -zeta only[hx,K6.r9 (h.L6 hc) Y8 rfl]
  refine h.R8 (ds:=(L[i].1.raw L[i].2).cs.toArray) TC rfl Y8 rfl (fun v hv=>Enc.one (L[i].1.raw L[i].2) v hv) fun b w3 h=>?_
  rw[h.r9 _ kI Y8 rfl]
  refine h.make (fun B2 own base2=>ry0 L[i].1 L[i].2 (base2 (r2 L[i] (List.getElem_mem hil))) (hl _ (List.getElem_mem hil))) fun y τ w4 hp h=>?_
  obtain⟨v',rfl,rfl⟩:=hp
  have h:Rel B' w4 ((Y3 Q3 u (l_ L') :: L'.map dN)++[dN (L[i].1,v')]):=h.mid
  refine h.WS (α:=Y7) 0 rfl (L[i].1.raw v') u7 (by decide) (by simp [l_];omega) (by simp [l_];omega) fun u' w5 h=>?_
  rw[Z5,E5 (by omega) (by omega)]
  refine hnext _ _ ⟨i+1,u',L'++[(L[i].1,v')],by omega,rfl,?_,?_⟩ (by simp only;omega)
  ·have:(evs L).take (i+1)=(evs L).take i++[L[i].1]:=by
    rw[List.take_succ_eq_append_getElem (by simpa [evs] using hil)]
    simp [evs]
   rw[this,←he]
   simp [evs]
  ·simpa [l_] using h
 ·have:i=L.length:=by omega
  subst this
  rw[List.take_of_length_le (by simp [evs])] at he
  exact k _ _ _ ⟨L',he,rfl⟩ h
end
structure St where
 part:Int
 first:Int
 horizon:Int
 events:List Ev
def St.next(s:St):Int:=s.first+s.events.length
def vQ(s:St)(e:Ev):Bool:=decide (e.part=s.part)&&(decide (e.source.size≤200)&&(decide (0≤e.schema)&&(decide (0≤e.time)&&decide (e.time≤1099511627776))))
def pQ(s:St)(e:Ev):Int×St:=if vQ s e=true then if DK e.row=true then if e.pos=s.next then if s.events.length<2000 then(0,{ s with events:=s.events++[e] }) else(6,s) else(25,s) else(16,s) else(1,s)
def ZB(s:St)(pos:Int):Nat:=(min (max pos s.first) s.next-s.first).toNat
def hor(h:Int)(l:List Ev):Int:=l.foldl (fun h e=>max h (e.time+1)) h
def Ye0(s:St)(n:Nat):St:=⟨s.part,s.first+n,hor s.horizon (s.events.take n),s.events.drop n⟩
def kY(s:St)(t:Int):Nat:=if jO (fun e=>decide (t≤e.time)) s.events<0 then s.events.length else(jO (fun e=>decide (t≤e.time)) s.events).toNat
def PY(s:St)(fr most:Int):List Ev:=(s.events.drop (ZB s fr)).take (max 0 (min most (s.events.length-ZB s fr))).toNat
def zf0(s:St)(t:Int):List Ev:=s.events.filter fun e=>decide (t≤e.time)
def okS(s:St):Prop:=0≤s.first∧s.first≤2305843009213693952∧s.events.length≤2000∧∀e∈s.events,e.row.length≤1000000 ∧ -1≤e.time∧e.time≤1099511627776
def XL(b:Nat)(s:St)(v:Value):Dat:=O1 b Q5 #[.int .i64 s.part,.int .i64 s.first,.int .i64 s.horizon,v]
def U7(b:Nat)(s:St):Dat:=Dat.ex fun p:SV×EvL=>(Dat.pure (evs p.2=s.events∧okS s)).and ((XL b s p.1.1).star ((Y3 Q3 p.1.1 (l_ p.2)).star (sM p.2)))
def wQ(b:Nat)(s:St)(B:Base):Prop:=∃(v:SV) (L:EvL),evs L=s.events∧okS s∧XL b s v.1 B∧sy0 v.1 L B
theorem U7.read{b:Nat}{s:St}{B:Base}(h:U7 b s B):wQ b s B:=by
 obtain⟨⟨v,L⟩,⟨h1,h2⟩,h3⟩:=h
 exact⟨v,L,h1,h2,Dat.star.left h3,Y3.read (Dat.star.left (Dat.star.right h3)),Dat.star.right (Dat.star.right h3)⟩
theorem wQ.mono{b:Nat}{s:St}{B B':Base}(h:wQ b s B)(hb:∀{d:Dat},d B→d B'):wQ b s B':=by
 obtain⟨v,L,h1,h2,h3,h4,h5⟩:=h
 exact⟨v,L,h1,h2,hb h3,hb h4,hb h5⟩
theorem SY{B:Base}{w:World}{b:Nat}{s:St}(h:Rel B w [U7 b s]):∃(v:SV) (L:EvL),evs L=s.events∧okS s∧Rel B w [XL b s v.1,Y3 Q3 v.1 (l_ L),sM L]:=by
 obtain⟨⟨v,L⟩,h⟩:=h.ex (i:=0) rfl
 obtain⟨⟨h1,h2⟩,h⟩:=h.VS (i:=0) rfl
 have h:=h.split (i:=0) rfl
 have h:=Rel.split (i:=1) h rfl
 exact⟨v,L,h1,h2,h⟩
theorem zN{B:Base}{w:World}{b:Nat}{s:St}{v:Value}{L:EvL}{τ:List Dat}(h:Rel B w (XL b s v :: Y3 Q3 v (l_ L) :: sM L :: τ))(he:evs L=s.events)(ho:okS s):Rel B w (U7 b s :: τ):=by
 have hv:v.oneCell'=true:=h.oneCell (i:=1) rfl
 have h:=h.join 1 2 rfl rfl (by omega)
 have h:=h.join 0 1 rfl rfl (by omega)
 have h:=h.imp (i:=0) (e:=U7 b s) rfl fun B hB=>⟨⟨⟨v,hv⟩,L⟩,⟨he,ho⟩,hB⟩
 exact Rel.mid (σ:=[U7 b s]) (ρ:=[emp,emp]) h
section
variable {B:Base} {b:Nat} {s:St}
theorem Sk0(hs:wQ b s B):Gives prog B (Z0 DD #[ptr b]) (.int .i64 s.first):=by
 refine Gives.intro fun B' w K base h k=>?_
 obtain⟨v,L,he,ho,hc,-⟩:=hs.mono base
 refine YI.up ?_
 unfold YI.pt
 simp -zeta only[J5,U0 mF,Nat.zero_add,O1.ld (h.L6 hc) Y2 (o:=1) rfl]
 exact k _ _ h
theorem ov0(hs:wQ b s B):Gives prog B (Z0 EI #[ptr b]) (.int .i64 s.horizon):=by
 refine Gives.intro fun B' w K base h k=>?_
 obtain⟨v,L,he,ho,hc,-⟩:=hs.mono base
 refine NG.up ?_
 unfold NG.pt
 simp -zeta only[J5,U0 gL,Nat.zero_add,O1.ld (h.L6 hc) Y2 (o:=2) rfl]
 exact k _ _ h
theorem CK{L:EvL}{l:List Ev}(h:evs L=l):(l_ L).length=l.length:=by subst h;simp [l_,evs]
theorem cb0(hs:wQ b s B):Gives prog B (Z0 v_ #[ptr b]) (.int .i64 s.next):=by
 refine Gives.intro fun B' w K base h k=>?_
 obtain⟨v,L,he,ho,hc,hr,-⟩:=hs.mono base
 obtain⟨o1,o2,o3,-⟩:=ho
 refine VJ.up ?_
 unfold VJ.pt
 simp -zeta only[J5,U0 mF,U0 XA,Nat.zero_add,O1.ld (h.tick.L6 hc) Y2 (o:=1) rfl,O1.ld (h.tick.L6 hc) q9 (o:=3) rfl,O4.len hr u7,Z5,CK he]
 rw[E5 (by omega) (by omega)]
 exact k _ _ h.tick
theorem Ft0(hs:wQ b s B)(pos:Int):Gives prog B (Z0 rG #[ptr b,.int .i64 pos]) (.int .i64 (ZB s pos)):=by
 refine Gives.intro fun B' w K base h k=>?_
 have hs':=hs.mono base
 obtain⟨v,L,he,ho,hc,hr,-⟩:=hs'
 obtain⟨o1,o2,o3,-⟩:=ho
 refine aJ.up ?_
 unfold aJ.pt
 simp -zeta only[J5,U0 mF,Nat.zero_add,O1.ld (h.tick.L6 hc) Y2 (o:=1) rfl,II]
 refine h.tick.ask (fun B2 own base2=>cb0 ((hs.mono base).mono base2)) fun w1 h=>⟨O1.is (h.L6 hc) Y2 (o:=1) rfl,O1.is (h.L6 hc) Y2 (o:=1) rfl,?_⟩
 simp -zeta only[YK,TB]
 unfold St.next
 rw[E5 (by omega) (by omega)]
 have:min (max pos s.first) (s.first+s.events.length)-s.first=(ZB s pos:Int):=by unfold ZB St.next;omega
 rw[this]
 exact k _ _ h
theorem BD0(hs:wQ b s B)(e:Ev)(v:SV):Gives prog B (Z0 sK #[ptr b,(e.raw v).v]) (.bool (vQ s e)):=by
 refine Gives.intro fun B' w K base h k=>?_
 obtain⟨v',L,he,ho,hc,-⟩:=hs.mono base
 refine bJ.up ?_
 unfold bJ.pt
 refine h.box fun b1 w1 h=>?_
 have e1:((e.raw v).v:Value).cells=(e.raw v).cs.toArray:=Enc.cells_val (e.raw v)
 rw[e1] at h
 have h:=h.tick
 have hc:=h.L6 hc
 simp -zeta only[J5,U0 LX,U0 ET,U0 FT,U0 tJ,U0 eP,Nat.zero_add,O1.ld hc Y2 (o:=0) rfl,h.ld 0 rfl Y2 (o:=0) rfl,h.ld 0 rfl U6 (o:=2) rfl,h.ld 0 rfl Y2 (o:=3) rfl,h.ld 0 rfl Y2 (o:=4) rfl,LC K8,Z5,TB,as0,G6,WC,x9,FC,F7,Q7,iZ,Kx0,V7,YK,II,G5,K3,lC,d_,M9,D9,UU,Md0,Od0,decide_true,decide_false,Bool.not_true,Bool.not_false,J5]
 have kk:=fun b (hb:vQ s e=b)=>(show K (.bool b) (tick w1) by rw[←hb];exact k _ _ h)
 have hu:vQ s e=(decide (e.part=s.part)&&(decide (e.source.size≤200)&&(decide (0≤e.schema)&&(decide (0≤e.time)&&decide (e.time≤1099511627776))))):=rfl
 refine⟨fun h1=>⟨fun h2=>⟨fun h3=>⟨fun h4=>?_,fun h4=>?_⟩,fun h3=>?_⟩,fun h2=>?_⟩,fun h1=>?_⟩
 ·refine kk _ ?_
  have h1:e.part=s.part:=h1
  have h2:(e.source.size:Int)≤200:=h2
  rw[hu,decide_eq_true h1,decide_eq_true (show e.source.size≤200 by omega),decide_eq_true (show 0≤e.schema from h3),decide_eq_true (show 0≤e.time from h4)]
  simp only[Bool.true_and]
  rfl
 ·refine kk _ ?_
  rw[hu,decide_eq_false (p:=0≤e.time) h4];simp
 ·refine kk _ ?_
  rw[hu,decide_eq_false (p:=0≤e.schema) h3];simp
 ·refine kk _ ?_
  have h2:¬(e.source.size:Int)≤200:=h2
  rw[hu,decide_eq_false (p:=e.source.size≤200) (by omega)];simp
 ·refine kk _ ?_
  rw[hu,decide_eq_false (p:=e.part=s.part) h1];simp
end
section
variable {B:Base} {b:Nat} {s:St}
theorem Tz0(part:Int):Makes prog B (Z0 LQ #[.int .i64 part]) fun u τ=>∃b,u=ptr b∧τ=[U7 b ⟨part,0,0,[]⟩]:=by
 refine Makes.intro fun B' w K base h k=>?_
 refine kV.up ?_
 unfold kV.pt
 simp -zeta only[gZ]
 refine h.box fun b w1 h=>?_
 have h:=h.VC Y7 Q3
 refine k _ _ _ ⟨b,rfl,rfl⟩ ?_
 have ho:okS ⟨part,0,0,[]⟩:=⟨Int.le_refl 0,by show (0:Int)≤_;decide,Nat.zero_le _,fun e he=>by cases he⟩
 have h:Rel B' w1 ([XL b ⟨part,0,0,[]⟩ (.slice none 0 0),Y3 Q3 (.slice none 0 0) (l_ [])]++([]:EvL).map dN):=h
 have h:=h.gather (g:=fun p=>O4 p.2.1 p.1.row) (fun x hx=>by cases hx)
 exact zN (τ:=[]) h rfl ho
theorem rx0(e:Ev)(v:SV)(r:O4 v.1 e.row B)(hz:∀x∈e.row,x.s.size≤9223372036854775807) :
  Does prog B (U7 b s) (Z0 tF #[ptr b,(e.raw v).v]) fun u e' τ=>u = .int .i64 (pQ s e).1∧e'=U7 b (pQ s e).2∧τ=[]:=by
 refine Does.intro fun B' w K base h k=>?_
 replace r:=base r
 obtain⟨v0,L,he,ho,h⟩:=SY h
 refine tL.up ?_
 unfold tL.pt
 refine h.box fun b1 w1 h=>?_
 have e1:((e.raw v).v:Value).cells=(e.raw v).cs.toArray:=Enc.cells_val (e.raw v)
 rw[e1] at h
 replace h:Rel B' w1 [XL b s v0.1,Y3 Q3 v0.1 (l_ L),sM L,O1 b1 Q3 (e.raw v).cs.toArray]:=h
 have same:∀w' c,(pQ s e)=(c,s)→Rel B' w' [XL b s v0.1,Y3 Q3 v0.1 (l_ L),sM L,O1 b1 Q3 (e.raw v).cs.toArray]→K (.int .i64 c) w':=fun w' c hc h=>by
  rw[hc] at k
  exact k _ _ _ _ ⟨rfl,rfl,rfl⟩ ((zN h he ho).take 1)
 rw[h.r9 3 rfl Y8 rfl]
 refine h.ask (fun B2 own base2=>BD0 ⟨v0,L,he,ho,own (i:=0) rfl,Y3.read (own (i:=1) rfl),own (i:=2) rfl⟩ e v) fun w2 h=>?_
 rw[V7,G5,R5]
 refine⟨fun hr=>?_,fun hr=>same _ _ (by unfold pQ;rw[if_neg (by rw[hr];decide)]) h⟩
 simp -zeta only[U0 lM,Nat.zero_add,h.ld 3 rfl H7 (o:=5) rfl]
 refine h.ask (fun B2 own base2=>np0 (base2 r) hz) fun w3 h=>?_
 rw[V7,G5,R5]
 refine⟨fun hrr=>?_,fun hrr=>same _ _ (by unfold pQ;rw[if_pos hr,if_neg (by rw[hrr];decide)]) h⟩
 have h:=h.tick
 simp -zeta only[U0 MX,Nat.zero_add,h.ld 3 rfl Y2 (o:=1) rfl]
 refine h.ask (fun B2 own base2=>cb0 ⟨v0,L,he,ho,own (i:=0) rfl,Y3.read (own (i:=1) rfl),own (i:=2) rfl⟩) fun w4 h=>⟨h.is 3 rfl Y2 (o:=1) rfl,?_⟩
 simp -zeta only[Q7,G5,K3]
 refine⟨fun(hp:e.pos=s.next)=>?_,fun(hp:¬e.pos=s.next)=>same _ _ (by unfold pQ;rw[if_pos hr,if_pos hrr,if_neg hp]) h⟩
 obtain⟨o1,o2,o3,o4⟩:=ho
 have hrd:=Y3.read (h.here (i:=1) rfl)
 simp -zeta only[J5,U0 XA,Nat.zero_add,h.ld 0 rfl q9 (o:=3) rfl,O4.len hrd u7,CK he,FC,K3]
 refine⟨fun hf=>same _ _ (by unfold pQ;rw[if_pos hr,if_pos hrr,if_pos hp,if_neg (by omega)]) h,fun hf=>?_⟩
 have hok:pQ s e=(0,{ s with events:=s.events++[e] }):=by unfold pQ;rw[if_pos hr,if_pos hrr,if_pos hp,if_pos (by omega)]
 have h:=h.tick
 rw[h.ld 0 rfl q9 (o:=3) rfl,h.r9 3 rfl Y8 rfl]
 have hl:e.row.length≤1000000:=by
  have h12:=hrr
  unfold DK at h12
  rw[Bool.and_eq_true] at h12
  have:=of_decide_eq_true h12.1
  omega
 refine h.make (fun B2 own base2=>Qk0 e v (base2 r) hl) fun y τ w5 hp2 h=>?_
 obtain⟨v',rfl,rfl⟩:=hp2
 refine⟨h.is 0 rfl q9 (o:=3) rfl,?_⟩
 have hrl:=CK he
 refine h.XH (e.raw v') u7 (by decide) fun t w6 h=>⟨h.is 0 rfl q9 (o:=3) rfl,?_⟩
 refine h.append 1 rfl u7 (Rd.at 5 rfl) (by simp;omega) (by simp;omega) fun u w7 h=>?_
 have hu:u.oneCell'=true:=h.oneCell (i:=1) rfl
 refine h.st 0 rfl q9 (show 3<4 by omega) hu fun w8 h=>?_
 rw[hok] at k
 refine k _ _ _ _ ⟨rfl,rfl,rfl⟩ ?_
 have h:=h.pick [0,1,2,4] (by decide)
 have h:=h.join 2 3 rfl rfl (by omega)
 have h:=h.imp (i:=2) (e:=sM (L++[(e,v')])) rfl fun B hB=>Dat.all_append (Dat.star.left hB) (by
  intro p hp
  simp only[List.mem_cons,List.not_mem_nil,or_false] at hp
  subst hp
  exact Y3.read (Dat.star.right hB))
 have h:=h.take 3
 have hev:l_ L++[e.raw v']=l_ (L++[(e,v')]):=by simp [l_]
 have h:Rel B' w8 [XL b { s with events:=s.events++[e] } u,Y3 Q3 u (l_ L++[e.raw v']),sM (L++[(e,v')])]:=h
 rw[hev] at h
 refine zN (s:={ s with events:=s.events++[e] }) (τ:=[]) h (by simp [evs,←he]) ⟨o1,o2,by simp;omega,fun x hx=>?_⟩
 rcases List.mem_append.1 hx with hx | hx
 ·exact o4 x hx
 ·simp only[List.mem_cons,List.not_mem_nil,or_false] at hx
  subst hx
  simp only[vQ,Bool.and_eq_true,decide_eq_true_eq] at hr
  exact⟨hl,by omega,by omega⟩
theorem bH0(e:Ev)(v:SV)(r:O4 v.1 e.row B)(_:e.row.length≤1000000)(hz:∀x∈e.row,x.s.size≤9223372036854775807) :
  Does prog B (U7 b s) (Z0 tF #[ptr b,(e.raw v).v]) fun u e' τ=>u = .int .i64 (pQ s e).1∧e'=U7 b (pQ s e).2∧τ=[]:=rx0 e v r hz
theorem Gu0{v:Value}{L:EvL}{n:Nat}(r:O4 v (l_ (L.drop n)) B)(hn:L.length≤2000):Makes prog B (Z0 W_ #[v]) fun v' τ=>τ=[Y3 Q3 v' (l_ (L.drop n))] :=
 oM r (by simp [l_];omega) (by simp [l_];omega)
theorem Qy0{l:List Ev}{i:Nat}(hi:i<l.length)(h0:Int):hor h0 (l.take (i+1))=max (hor h0 (l.take i)) (l[i].time+1):=by
 unfold hor
 rw[List.take_succ_eq_append_getElem hi,List.foldl_append]
 rfl
theorem DE0(n:Nat)(hn:n≤s.events.length)(hb:s.first+n≤2305843009213693952) :
  Does prog B (U7 b s) (Z0 FI #[ptr b,.int .i64 n]) fun u e' τ=>u = .int .i64 n∧e'=U7 b (Ye0 s n)∧τ=[]:=by
 refine Does.intro fun B' w K base h k=>?_
 obtain⟨v0,L,he,ho,h⟩:=SY h
 obtain⟨o1,o2,o3,o4⟩:=ho
 have hLl:L.length=s.events.length:=by rw[←he];simp [evs]
 refine uL.up ?_
 unfold uL.pt
 refine F6 (fun x w'=>∃i:Nat,i≤n∧x=(.int .i64 i,())∧Rel B' w' [XL b { s with horizon:=hor s.horizon (s.events.take i) } v0.1,Y3 Q3 v0.1 (l_ L),sM L]) (fun x _=>n-(match x.1 with | .int _ n=>n.toNat | _=>0)) ⟨0,Nat.zero_le _,rfl,h⟩ ?_
 clear h
 rintro x w1 ⟨i,hi,rfl,h⟩ next hnext
 simp -zeta only[G6,K3]
 refine⟨fun hlt=>?_,fun hge=>?_⟩
 ·have h:=h.tick
  have hil:i<s.events.length:=by omega
  obtain⟨g,o,hx,hc⟩:=O4.idx (Y3.read (h.here (i:=1) rfl)) u7 (i:=i) (by rw[CK he];omega)
  have hel:(l_ L)[i]'(by rw[CK he];omega)=s.events[i].raw (L[i]'(by omega)).2:=by simp [l_,←he,evs]
  rw[hel] at hc
  simp -zeta only[J5,U0 gL,U0 XA,Nat.zero_add,h.ld 0 rfl Y2 (o:=2) rfl,h.ld 0 rfl q9 (o:=3) rfl,hx,U0 tJ,K6.ld hc Y2 (j:=4) rfl,Z5,II]
  have ht:=o4 _ (List.getElem_mem hil)
  have hw:IntKind.i64.wrap ((s.events[i].raw (L[i]'(by omega)).2).time+1)=s.events[i].time+1:=E5 (by show _≤s.events[i].time+1;omega) (by show s.events[i].time+1≤_;omega)
  rw[hw]
  refine h.st 0 rfl Y2 (show 2<4 by omega) rfl fun w2 h=>?_
  rw[E5 (by omega) (by omega)]
  refine hnext _ _ ⟨i+1,by omega,rfl,?_⟩ (by simp only;omega)
  rw[Qy0 hil]
  exact h
 ·have:i=n:=by omega
  subst this
  clear hnext
  obtain⟨v1,hv1,hr1⟩:=O4.cut (Y3.read (h.here (i:=1) rfl)) u7 (P:=prog) (lo:=i) (hi:=(l_ L).length) (lov:=some (.int .i64 i)) (hiv:=none) Bnd.some Bnd.none (by rw[CK he];omega) (Nat.le_refl _)
  have hd:(List.take (l_ L).length (l_ L)).drop i=l_ (L.drop i):=by rw[List.take_length];simp [l_]
  simp -zeta only[J5,U0 mF,U0 XA,Nat.zero_add,h.ld 0 rfl q9 (o:=3) rfl,hv1]
  refine h.make (fun B2 own base2=>?_) (post:=fun v' τ=>τ=[Y3 Q3 v' (l_ (L.drop i))]) fun u τ w2 hp h=>?_
  ·obtain⟨v2,hv2,hr2⟩:=O4.cut (Y3.read (own (i:=1) rfl)) u7 (P:=prog) (lo:=i) (hi:=(l_ L).length) (lov:=some (.int .i64 i)) (hiv:=none) Bnd.some Bnd.none (by rw[CK he];omega) (Nat.le_refl _)
   have e2:v1=v2:=by
    have h1:=hv1 (Kp:=fun v=>v=v2)
    rw[hv2] at h1
    exact(h1.mp rfl)
   rw[hd] at hr2
   subst e2
   exact Gu0 hr2 (by omega)
  ·subst hp
   have hu:u.oneCell'=true:=h.oneCell (i:=3) rfl
   refine h.st 0 rfl q9 (show 3<4 by omega) hu fun w3 h=>?_
   simp -zeta only[h.ld 0 rfl Y2 (o:=1) rfl,Z5]
   rw[E5 (by omega) (by omega)]
   refine h.st 0 rfl Y2 (show 1<4 by omega) rfl fun w4 h=>?_
   refine k _ _ _ _ ⟨rfl,rfl,rfl⟩ ?_
   have h:=h.pick [0,3,2] (by decide)
   have h:=h.imp (i:=2) (e:=sM (L.drop i)) rfl fun B hB p hp=>hB p (List.mem_of_mem_drop hp)
   have h:Rel B' w4 [XL b (Ye0 s i) u,Y3 Q3 u (l_ (L.drop i)),sM (L.drop i)]:=h
   refine zN (τ:=[]) h (by simp [evs,Ye0,←he,List.map_drop]) ⟨by show 0≤s.first+i;omega,hb,by show (s.events.drop i).length≤_;simp;omega,fun x hx=>o4 x (List.mem_of_mem_drop hx)⟩
theorem ob0(s:St)(pos:Int):ZB s pos≤s.events.length:=by unfold ZB St.next;omega
theorem BF0(pos:Int)(hb:s.first+s.events.length≤2305843009213693952) :
  Does prog B (U7 b s) (Z0 KL #[ptr b,.int .i64 pos]) fun u e' τ=>u = .int .i64 (ZB s pos)∧e'=U7 b (Ye0 s (ZB s pos))∧τ=[]:=by
 refine Does.intro fun B' w K base h k=>?_
 refine TJ.up ?_
 unfold TJ.pt
 have hp:=ob0 s pos
 refine h.ask (fun B2 own base2=>Ft0 (U7.read (own (i:=0) rfl)) pos) fun w1 h=>?_
 refine h.act 0 rfl (fun B2 own base2=>DE0 (ZB s pos) hp (by omega)) fun u e' τ w2 hp h=>?_
 obtain⟨rfl,rfl,rfl⟩:=hp
 exact k _ _ _ _ ⟨rfl,rfl,rfl⟩ h
theorem nh0(s:St)(t:Int):kY s t≤s.events.length:=by
 unfold kY
 have:=(yZ (p:=fun e:Ev=>decide (t≤e.time)) (l:=s.events)).2
 split<;>omega
theorem dE0{B:Base}{t:Int}{tb:Nat}(hc:O1 tb Q0 #[.int .i64 t] B)(x:Y7):Gives prog B (dA (.func (.func EJ) #[] #[ptr tb]) #[x.v]) (.bool (decide (t≤x.time))):=by
 refine Gives.intro fun B' w K base h k=>?_
 refine YH ?_
 show upK _ (Z0 _ #[x.v,ptr tb]) _ _
 refine FH.up ?_
 unfold FH.pt
 refine h.box fun b w1 h=>?_
 replace h:Rel B' w1 [O1 b Q3 x.cs.toArray]:=by
  have e1:(x.v:Value).cells=x.cs.toArray:=Enc.cells_val x
  rw[e1] at h
  exact h
 simp -zeta only[U0 tJ,Nat.zero_add,h.ld 0 rfl Y2 (o:=4) rfl,O1.ld (h.L6 (base hc)) Y2 (o:=0) rfl,FC]
 exact k _ _ h
theorem Yn0{α β:Type}(f:α→β)(p:β→Bool)(l:List α):jO p (l.map f)=jO (fun x=>p (f x)) l:=by
 unfold jO
 rw[List.findIdx?_map]
 rfl
theorem MG0(t:Int)(hb:s.first+s.events.length≤2305843009213693952) :
  Does prog B (U7 b s) (Z0 NL #[ptr b,.int .i64 t]) fun u e' τ=>u = .int .i64 (kY s t)∧e'=U7 b (Ye0 s (kY s t))∧τ=[]:=by
 refine Does.intro fun B' w K base h k=>?_
 refine WJ.up ?_
 unfold WJ.pt
 obtain⟨v0,L,he,ho,h⟩:=SY h
 have ho3:=ho.2.2.1
 have hrl:=CK he
 refine h.box fun tb w1 h=>?_
 replace h:Rel B' w1 [XL b s v0.1,Y3 Q3 v0.1 (l_ L),sM L,O1 tb Q0 #[.int .i64 t]]:=h
 simp -zeta only[J5,U0 XA,Nat.zero_add,h.ld 0 rfl q9 (o:=3) rfl,TI]
 have eidx:jO (fun x:Y7=>decide (t≤x.time)) (l_ L)=jO (fun e:Ev=>decide (t≤e.time)) s.events:=by
  rw[←he]
  unfold l_ evs
  rw[Yn0,Yn0]
  rfl
 refine h.ask (fun B2 own base2=>dK (Y3.read (own (i:=1) rfl)) (by omega) (fun x=>decide (t≤x.time)) fun B3 base3 x _=>dE0 (base3 (own (i:=3) rfl)) x) fun w2 h=>?_
 rw[eidx]
 refine P6 fun J hJ=>?_
 have hJ2:∀w',Rel B' w' [XL b s v0.1,Y3 Q3 v0.1 (l_ L),sM L,O1 tb Q0 #[.int .i64 t]]→J (.int .i64 (kY s t),()) w':=by
  intro w' h
  refine hJ _ _ ?_
  have h:=zN h he ho
  refine h.act 0 rfl (fun B2 own base2=>DE0 (kY s t) (nh0 s t) (by have:=nh0 s t;omega)) fun u e' τ w2 hp h=>?_
  obtain⟨rfl,rfl,rfl⟩:=hp
  exact k _ _ _ _ ⟨rfl,rfl,rfl⟩ (h.take 1)
 have hrd:=Y3.read (h.here (i:=1) rfl)
 simp -zeta only[G6,K3,J5,U0 XA,Nat.zero_add,h.ld 0 rfl q9 (o:=3) rfl,O4.len hrd u7]
 refine⟨fun hlt=>?_,fun hge=>?_⟩
 ·have:kY s t=s.events.length:=by unfold kY;rw[if_pos hlt]
  rw[hrl,←this]
  exact hJ2 _ h
 ·have:(kY s t:Int)=jO (fun e:Ev=>decide (t≤e.time)) s.events:=by
   unfold kY;rw[if_neg hge];omega
  rw[←this]
  exact hJ2 _ h
def ig0(u:Value)(es:List Ev)(τ:List Dat):Prop:=∃L':EvL,evs L'=es∧τ=Y3 Q3 u (l_ L') :: L'.map dN
theorem MD0(hs:wQ b s B)(fr most:Int):Makes prog B (Z0 qK #[ptr b,.int .i64 fr,.int .i64 most]) fun u τ=>ig0 u (PY s fr most) τ:=by
 refine Makes.intro fun B' w K base h k=>?_
 have hs':=hs.mono base
 obtain⟨v,L,he,ho,hc,hr,hrs⟩:=hs'
 obtain⟨o1,o2,o3,o4⟩:=ho
 have hrl:=CK he
 have hp:=ob0 s fr
 refine ZI.up ?_
 unfold ZI.pt
 refine h.ask (fun B2 own base2=>Ft0 ((hs.mono base).mono base2) fr) fun w1 h=>?_
 have h:=h.tick
 have hw1:IntKind.i64.wrap ((s.events.length:Int)-ZB s fr)=(s.events.length:Int)-ZB s fr:=E5 (by omega) (by omega)
 have hw2:IntKind.i64.wrap ((ZB s fr:Int)+max 0 (min most ((s.events.length:Int)-ZB s fr)))=((ZB s fr+(max 0 (min most ((s.events.length:Int)-ZB s fr))).toNat:Nat):Int):=by rw[E5 (by omega) (by omega)];omega
 obtain⟨v1,hv1,hr1⟩:=O4.cut hr u7 (P:=prog) (lo:=ZB s fr) (hi:=ZB s fr+(max 0 (min most ((s.events.length:Int)-ZB s fr))).toNat)
  (lov:=some (.int .i64 (ZB s fr))) (hiv:=some (.int .i64 ((ZB s fr+(max 0 (min most ((s.events.length:Int)-ZB s fr))).toNat:Nat):Int))) Bnd.some Bnd.some (by omega) (by omega)
 have hd:((l_ L).take (ZB s fr+(max 0 (min most ((s.events.length:Int)-ZB s fr))).toNat)).drop (ZB s fr)=l_ ((L.drop (ZB s fr)).take (max 0 (min most ((s.events.length:Int)-ZB s fr))).toNat):=by
  simp [l_,List.drop_take]
 rw[hd] at hr1
 simp -zeta only[J5,U0 XA,Nat.zero_add,O1.ld (h.L6 hc) q9 (o:=3) rfl,O4.len hr u7,hrl,TB,hw1,YK,II,Z5,hw2,hv1]
 have hLl:L.length=s.events.length:=by rw[←he];simp [evs]
 refine h.make (fun B2 own base2=>Yx0 (L:=(L.drop (ZB s fr)).take (max 0 (min most ((s.events.length:Int)-ZB s fr))).toNat) ⟨base2 hr1,base2 (Dat.mono _ (Base.le.refl _) (show (sM _) B' from fun p hp=>hrs p (List.mem_of_mem_drop (List.mem_of_mem_take hp))))⟩ (by simp;omega)
  fun p hp=>(o4 p.1 (by rw[←he];exact List.mem_map.2 ⟨p,List.mem_of_mem_drop (List.mem_of_mem_take hp),rfl⟩)).1) fun u τ w2 hp h=>⟨O1.is (h.L6 hc) q9 (o:=3) rfl,?_⟩
 obtain⟨L',he',rfl⟩:=hp
 refine k _ _ _ ⟨L',?_,rfl⟩ h
 rw[he']
 unfold PY
 rw[←he]
 simp [evs]
theorem JF0(hs:wQ b s B)(t:Int):Makes prog B (Z0 ML #[ptr b,.int .i64 t]) fun u τ=>ig0 u (zf0 s t) τ:=by
 refine Makes.intro fun B' w K base h k=>?_
 obtain⟨v,L,he,ho,hc,hr,hrs⟩:=hs.mono base
 obtain⟨o1,o2,o3,o4⟩:=ho
 have hrl:=CK he
 refine UJ.up ?_
 unfold UJ.pt
 simp -zeta only[J5,U0 XA,Nat.zero_add,O1.ld (h.L6 hc) q9 (o:=3) rfl,O4.len hr u7,hrl]
 refine F6 (fun x w'=>∃(i:Nat) (u:Value) (L':EvL),i≤s.events.length∧x=(u,.int .i64 i,())∧evs L'=(s.events.take i).filter (fun e=>decide (t≤e.time))∧Rel B' w' (Y3 Q3 u (l_ L') :: L'.map dN)) (fun x _=>s.events.length-(match x.2.1 with | .int _ n=>n.toNat | _=>0))
  ⟨0,_,[],Nat.zero_le _,rfl,rfl,h.VC Y7 Q3⟩ ?_
 clear h
 rintro x w1 ⟨i,u,L',hi,rfl,hev,h⟩ next hnext
 have hl':L'.length≤i:=by
  have h1:=congrArg List.length hev
  have h2:=List.length_filter_le (fun e:Ev=>decide (t≤e.time)) (s.events.take i)
  simp [evs] at h1 h2
  omega
 simp -zeta only[G6,K3]
 refine⟨fun hlt=>?_,fun hge=>?_⟩
 ·have hil:i<s.events.length:=by omega
  have hLl:L.length=s.events.length:=by rw[←he];simp [evs]
  refine P6 fun J hJ=>?_
  have hJ2:∀w' u (L':EvL),evs L'=(s.events.take (i+1)).filter (fun e=>decide (t≤e.time))→Rel B' w' (Y3 Q3 u (l_ L') :: L'.map dN)→J (u,()) w':=by
   intro w' u L' hev h
   refine hJ _ _ ?_
   show M0 _ _ _
   rw[Z5,E5 (by omega) (by omega)]
   exact hnext _ _ ⟨i+1,u,L',by omega,rfl,hev,h⟩ (by simp only;omega)
  clear hJ hnext
  obtain⟨g,o,hx,hcx⟩:=O4.idx hr u7 (i:=i) (by omega)
  have hel:(l_ L)[i]'(by omega)=s.events[i].raw (L[i]'(by omega)).2:=by simp [l_,←he,evs]
  rw[hel] at hcx
  simp -zeta only[hx,K6.r9 (h.L6 hcx) Y8 rfl]
  refine h.R8 (ds:=(s.events[i].raw (L[i]'(by omega)).2).cs.toArray) TC rfl Y8 rfl (fun v hv=>Enc.one (s.events[i].raw (L[i]'(by omega)).2) v hv) fun bb w3 h=>?_
  simp -zeta only[U0 tJ,Nat.zero_add,h.ld _ kI Y2 (o:=4) rfl,h.r9 _ kI Y8 rfl,FC,K3]
  have esucc:(s.events.take (i+1)).filter (fun e=>decide (t≤e.time))=evs L'++(if t≤s.events[i].time then [s.events[i]] else []):=by
   rw[List.take_succ_eq_append_getElem hil,List.filter_append,hev]
   congr 1
   by_cases hh:t≤s.events[i].time<;>simp [hh]
  refine⟨fun(hle:t≤s.events[i].time)=>?_,fun(hle:¬t≤s.events[i].time)=>?_⟩
  ·have hrow:O4 (L[i]'(by omega)).2.1 s.events[i].row B':=by
    have h1:O4 (L[i]'(by omega)).2.1 (L[i]'(by omega)).1.row B':=hrs (L[i]'(by omega)) (List.getElem_mem _)
    have h2:(L[i]'(by omega)).1=s.events[i]:=by simp [←he,evs]
    rw[h2] at h1
    exact h1
   refine h.make (fun B2 own base2=>Qk0 s.events[i] (L[i]'(by omega)).2 (base2 hrow) (o4 _ (List.getElem_mem hil)).1) fun y τ w4 hp h=>?_
   obtain⟨v',rfl,rfl⟩:=hp
   have h:Rel B' w4 ((Y3 Q3 u (l_ L') :: L'.map dN)++[dN (s.events[i],v')]):=h.mid
   refine h.WS (α:=Y7) 0 rfl (s.events[i].raw v') u7 (by decide) (by simp [l_];omega) (by simp [l_];omega) fun u' w5 h=>?_
   refine hJ2 _ u' (L'++[(s.events[i],v')]) ?_ ?_
   ·rw[esucc,if_pos hle]
    simp [evs]
   ·simpa [l_] using h
  ·refine hJ2 _ u L' ?_ h.drop
   rw[esucc,if_neg hle,List.append_nil]
 ·have:i=s.events.length:=by omega
  subst this
  rw[List.take_length] at hev
  exact k _ _ _ ⟨L',hev,rfl⟩ h
end
def evB(e:Ev):Bs:=((yB (bl e.source)++encI e.schema)++encI e.time)++yB (dG e.row)
def df0(s:St):Bs:=(((encI s.part++encI s.first)++encI s.horizon)++encI s.events.length)++s.events.flatMap evB
structure NR (s:St) (e:Ev):Prop where
 right:vQ s e=true
 row:DK e.row=true
 vals:∀v∈e.row,VK v
 schema:inI e.schema
 time:inI e.time
theorem NR.src{s:St}{e:Ev}(h:NR s e):(bl e.source).length≤200:=by
 have:=h.right
 unfold vQ at this
 simp only[Bool.and_eq_true,decide_eq_true_eq] at this
 rw[B_];exact this.2.1
theorem NR.part{s:St}{e:Ev}(h:NR s e):e.part=s.part:=by
 have:=h.right
 unfold vQ at this
 simp only[Bool.and_eq_true,decide_eq_true_eq] at this
 exact this.1
theorem NR.tm{s:St}{e:Ev}(h:NR s e):0≤e.time∧e.time≤1099511627776∧0≤e.schema:=by
 have:=h.right
 unfold vQ at this
 simp only[Bool.and_eq_true,decide_eq_true_eq] at this
 exact⟨this.2.2.2.1,this.2.2.2.2,this.2.2.1⟩
theorem NR.len{s:St}{e:Ev}(h:NR s e):e.row.length≤12∧∀v∈e.row,(bl v.s).length≤200:=by
 have:=h.row
 unfold DK at this
 rw[Bool.and_eq_true] at this
 refine⟨of_decide_eq_true this.1,fun v hv=>?_⟩
 have hv:=List.all_eq_true.1 this.2 v hv
 unfold Ng0 at hv
 by_cases h0:v.kind=0
 ·rw[if_pos h0] at hv
  rw[of_decide_eq_true hv];exact Nat.zero_le _
 rw[if_neg h0] at hv
 by_cases h1:v.kind=1
 ·rw[if_pos h1,Bool.and_eq_true] at hv
  rw[B_];exact of_decide_eq_true hv.2
 rw[if_neg h1,Bool.and_eq_true] at hv
 rw[of_decide_eq_true hv.2];exact Nat.zero_le _
theorem wY{l:List Val}(h1:l.length≤12)(h2:∀v∈l,(bl v.s).length≤200)(hg:∀v∈l,VK v):(dG l).length≤4000:=by
 have:=xE XR l 264 fun v hv=>Gi0 (hg v hv) (h2 v hv)
 have h3:=Q6 (n:=(l.length:Int)) ⟨by omega,by omega⟩
 unfold dG
 rw[List.length_append]
 have:264 * l.length≤264 * 12:=Nat.mul_le_mul_left _ h1
 omega
theorem Ss0{s:St}{e:Ev}(h:NR s e):(evB e).length≤5000:=by
 have h1:=wE (bl e.source) (by have:=h.src;omega)
 have h2:=Q6 h.schema
 have h3:=Q6 h.time
 have h4:=wY h.len.1 h.len.2 h.vals
 have h5:=wE (dG e.row) (by omega)
 have:=h.src
 unfold evB
 simp only[List.length_append]
 omega
structure tT (s:St):Prop where
 part:inI s.part
 first:0≤s.first∧s.first≤1152921504606846976
 horz:0≤s.horizon∧s.horizon≤1099511627777
 zero:s.horizon=0↔s.first=0
 count:s.events.length≤2000
 good:∀e∈s.events,NR s e
 pos:∀i (h:i<s.events.length),s.events[i].pos=s.first+i
noncomputable def evR(s:RS):(((Bs×Int)×Int)×Bs)×RS:=IQ (IQ (IQ D8 H5) H5) D8 s
theorem CF0:Rd2 (fun p:((Bs×Int)×Int)×Bs=>((yB p.1.1.1++encI p.1.1.2)++encI p.1.2)++yB p.2) (fun p=>((p.1.1.1.length≤9223372036854775807∧inI p.1.1.2)∧inI p.1.2)∧p.2.length≤9223372036854775807) evR :=
 ((RZ.seq mO).seq mO).seq RZ
noncomputable def IP:Nat→St→RS→Option St
 | 0,s,r=>if aO r=true then some s else none
 | k+1,s,r=>match uO (evR r).1.2 with
  | none=>none
  | some row=>if(pQ s ⟨s.part,s.next,ofL (evR r).1.1.1.1,(evR r).1.1.1.2,(evR r).1.1.2,row⟩).1=0 then IP k (pQ s ⟨s.part,s.next,ofL (evR r).1.1.1.1,(evR r).1.1.1.2,(evR r).1.1.2,row⟩).2 (evR r).2 else none
noncomputable def wZ(s:RS):(((Int×Int)×Int)×Int)×RS:=IQ (IQ (IQ H5 H5) H5) qE s
def Ud0(p:((Int×Int)×Int)×Int):Bool:=decide (p.1.1.2<0)||decide (1152921504606846976<p.1.1.2)||decide (p.1.2<0)||decide (1099511627777<p.1.2)||(decide (p.1.2=0) != decide (p.1.1.2=0))||decide (2000<p.2)
noncomputable def GY(b:Bs):Option St:=if Ud0 (wZ ⟨b,false⟩).1=true then none else
 IP (wZ ⟨b,false⟩).1.2.toNat ⟨(wZ ⟨b,false⟩).1.1.1.1,(wZ ⟨b,false⟩).1.1.1.2,(wZ ⟨b,false⟩).1.1.2,[]⟩ (wZ ⟨b,false⟩).2
theorem Jy0:Rd2 (fun p:((Int×Int)×Int)×Int=>((encI p.1.1.1++encI p.1.1.2)++encI p.1.2)++encI p.2) (fun p=>((inI p.1.1.1∧inI p.1.1.2)∧inI p.1.2)∧(0≤p.2∧inI p.2)) wZ :=
 ((mO.seq mO).seq mO).seq yt0
theorem Be0(s:St)(e:Ev):((pQ s e).1=0∧(pQ s e).2={ s with events:=s.events++[e] }∧vQ s e=true∧DK e.row=true∧e.pos=s.next∧s.events.length<2000)∨((pQ s e).1≠0∧(pQ s e).2=s):=by
 unfold pQ
 by_cases h1:vQ s e=true
 ·rw[if_pos h1]
  by_cases h2:DK e.row=true
  ·rw[if_pos h2]
   by_cases h3:e.pos=s.next
   ·rw[if_pos h3]
    by_cases h4:s.events.length<2000
    ·rw[if_pos h4];exact .inl ⟨rfl,rfl,h1,h2,h3,h4⟩
    ·rw[if_neg h4];exact .inr ⟨show (6:Int)≠0 by decide,rfl⟩
   ·rw[if_neg h3];exact .inr ⟨show (25:Int)≠0 by decide,rfl⟩
  ·rw[if_neg h2];exact .inr ⟨show (16:Int)≠0 by decide,rfl⟩
 ·rw[if_neg h1];exact .inr ⟨show (1:Int)≠0 by decide,rfl⟩
theorem Vr0{s:St}{e:Ev}(h1:vQ s e=true)(h2:DK e.row=true)(h3:e.pos=s.next)(h4:s.events.length<2000):pQ s e=(0,{ s with events:=s.events++[e] }):=by
 unfold pQ
 rw[if_pos h1,if_pos h2,if_pos h3,if_pos h4]
theorem MZ:∀(l:List Ev) (s:St),(∀e∈l,NR s e)→s.events.length+l.length≤2000→(∀i (h:i<l.length),l[i].pos=s.first+(s.events.length+i:Nat)) →
  IP l.length s ⟨l.flatMap evB,false⟩=some { s with events:=s.events++l }
 | [],s,_,_,_=>by
  show IP 0 s ⟨[],false⟩=_
  rw[IP,if_pos (by rfl),List.append_nil]
 | e :: l,s,hg,hl,hp=>by
  have g:=hg e List.mem_cons_self
  rw[List.length_cons] at hl
  have hrow:=wY g.len.1 g.len.2 g.vals
  have hf:=CF0.fore (((bl e.source,e.schema),e.time),dG e.row) (l.flatMap evB) ⟨⟨⟨by have:=g.src;show (bl e.source).length≤_;omega,g.schema⟩,g.time⟩,by show (dG e.row).length≤_;omega⟩
  have e1:((e :: l).flatMap evB)=evB e++l.flatMap evB:=rfl
  rw[List.length_cons,IP,e1,show evR ⟨evB e++l.flatMap evB,false⟩=_ from hf]
  simp only
  rw[Rc0 (by have:=g.len.1;omega) g.vals]
  simp only
  have ee:(⟨s.part,s.next,ofL (bl e.source),e.schema,e.time,e.row⟩:Ev)=e:=by
   have h0:=hp 0 (Nat.succ_pos _)
   rw[fV]
   obtain⟨p,q,sr,sc,t,rw_⟩:=e
   have hpart:p=s.part:=g.part
   simp only[Nat.add_zero,List.getElem_cons_zero] at h0
   subst hpart
   rw[h0];rfl
  rw[ee]
  have hnext:e.pos=s.next:=by
   have h0:=hp 0 (Nat.succ_pos _)
   simp only[Nat.add_zero,List.getElem_cons_zero] at h0
   exact h0
  rw[Vr0 g.right g.row hnext (by omega),if_pos rfl]
  have ih:=MZ l { s with events:=s.events++[e] } (fun x hx=>by
   have gx:=hg x (List.mem_cons_of_mem _ hx)
   exact⟨gx.right,gx.row,gx.vals,gx.schema,gx.time⟩) (by simp only[List.length_append,List.length_singleton];omega) (fun i hi=>by
   have:=hp (i+1) (by rw[List.length_cons];omega)
   simp only[List.getElem_cons_succ] at this
   rw[this]
   simp only[List.length_append,List.length_singleton]
   omega)
  rw[ih]
  simp
theorem kr0{s:St}(h:tT s):GY (df0 s)=some s:=by
 obtain⟨part,first,hor,evs⟩:=s
 have f1:inI first:=by have h1:0≤first∧first≤1152921504606846976:=h.first;constructor<;>omega
 have f2:inI hor:=by have h1:0≤hor∧hor≤1099511627777:=h.horz;constructor<;>omega
 have f3:inI (evs.length:Int):=by have h1:evs.length≤2000:=h.count;constructor<;>omega
 have hf:=Jy0.fore (((part,first),hor),(evs.length:Int)) (evs.flatMap evB) ⟨⟨⟨h.part,f1⟩,f2⟩,by show (0:Int)≤evs.length;omega,f3⟩
 unfold GY
 rw[show wZ ⟨df0 ⟨part,first,hor,evs⟩,false⟩=_ from hf]
 simp only
 have hb:Ud0 (((part,first),hor),(evs.length:Int))=false:=by
  unfold Ud0
  have h1:=h.first
  have h2:=h.horz
  have h3:=h.count
  have h4:decide (hor=0)=decide (first=0):=decide_eq_decide.2 h.zero
  simp only at h1 h2 h3 ⊢
  rw[h4,decide_eq_false (show ¬first<0 by omega),decide_eq_false (show ¬1152921504606846976<first by omega),decide_eq_false (show ¬hor<0 by omega),decide_eq_false (show ¬1099511627777<hor by omega),decide_eq_false (show ¬(2000:Int)<evs.length by omega)]
  simp
 rw[hb,if_neg (by decide),Int.toNat_natCast]
 have:=MZ evs ⟨part,first,hor,[]⟩ (fun e he=>by
  have g:=h.good e he
  exact⟨g.right,g.row,g.vals,g.schema,g.time⟩) (by have:=h.count;simpa using this) (fun i hi=>by
  have:=h.pos i hi
  rw[List.length_nil,Nat.zero_add]
  exact this)
 rw[this]
 simp
theorem sq0(h:Int):∀l:List Ev,h≤hor h l∧∀e∈l,e.time+1≤hor h l
 | []=>⟨Int.le_refl _,fun e he=>by cases he⟩
 | a :: l=>by
  obtain⟨h1,h2⟩:=sq0 (max h (a.time+1)) l
  show h≤hor (max h (a.time+1)) l∧∀e∈a :: l,e.time+1≤hor (max h (a.time+1)) l
  refine⟨by omega,fun e he=>?_⟩
  rcases List.mem_cons.1 he with rfl | he
  ·omega
  ·exact h2 e he
theorem Oy0{M:Int}:∀(l:List Ev) (h:Int),h≤M→(∀e∈l,e.time+1≤M)→hor h l≤M
 | [],h,h1,_=>h1
 | a :: l,h,h1,h2=>Oy0 l (max h (a.time+1)) (by have:=h2 a List.mem_cons_self;omega) fun e he=>h2 e (List.mem_cons_of_mem _ he)
theorem tT.add{s:St}(h:tT s)(e:Ev)(hv:∀v∈e.row,VK v)(hs:inI e.schema)(ht:inI e.time):tT (pQ s e).2:=by
 rcases Be0 s e with⟨_,e2,e3,e4,e5,e6⟩ | ⟨_,e2⟩
 ·rw[e2]
  refine⟨h.part,h.first,h.horz,h.zero,by simp only[List.length_append,List.length_singleton];omega,fun x hx=>?_,fun i hi=>?_⟩
  ·rcases List.mem_append.1 hx with hx | hx
   ·have g:=h.good x hx
    exact⟨g.right,g.row,g.vals,g.schema,g.time⟩
   ·rw[List.mem_singleton.1 hx];exact⟨e3,e4,hv,hs,ht⟩
  ·simp only[List.length_append,List.length_singleton] at hi
   by_cases c:i<s.events.length
   ·simp only[List.getElem_append_left c];exact h.pos i c
   ·have e7:i=s.events.length:=by omega
    subst e7
    simp only[List.getElem_append_right (Nat.le_refl _),Nat.sub_self,List.getElem_cons_zero]
    exact e5
 ·rw[e2];exact h
theorem tT.cut{s:St}(h:tT s){n:Nat}(hn:n≤s.events.length)(hb:s.first+s.events.length≤1152921504606846976):tT (Ye0 s n):=by
 have h1:=h.first
 have h2:=h.horz
 obtain⟨g1,g2⟩:=sq0 s.horizon (s.events.take n)
 have htm:∀e∈s.events.take n,0≤e.time∧e.time+1≤1099511627777:=fun e he=>by
  have:=(h.good e (List.mem_of_mem_take he)).tm
  omega
 refine⟨h.part,⟨by show 0≤s.first+n;omega,by show s.first+n≤_;omega⟩,⟨by show 0≤hor s.horizon (s.events.take n);omega,Oy0 _ _ h2.2 fun e he=>(htm e he).2⟩,?_,by show (s.events.drop n).length≤_;rw[List.length_drop];have:=h.count;omega,fun e he=>?_,fun i hi=>?_⟩
 ·show hor s.horizon (s.events.take n)=0↔s.first+n=0
  by_cases c:n=0
  ·subst c
   rw[List.take_zero]
   show s.horizon=0↔s.first+0=0
   rw[Int.add_zero];exact h.zero
  ·have hm:s.events[0]'(by omega)∈s.events.take n:=by
    rw[List.mem_take_iff_getElem];exact⟨0,by omega,rfl⟩
   have:=g2 _ hm
   have:=(htm _ hm).1
   exact⟨fun hh=>by omega,fun hh=>by omega⟩
 ·have g:=h.good e (List.mem_of_mem_drop he)
  exact⟨g.right,g.row,g.vals,g.schema,g.time⟩
 ·have hi2:i<(s.events.drop n).length:=hi
  have e:(Ye0 s n).events[i]=(s.events.drop n)[i]'hi2:=rfl
  refine(congrArg Ev.pos e).trans ?_
  rw[List.getElem_drop,h.pos]
  show s.first+((n+i:Nat):Int)=s.first+n+i
  omega
theorem dv0{s:St}(h:tT s):(df0 s).length≤20000000:=by
 have:=xE evB s.events 5000 fun e hx=>Ss0 (h.good e hx)
 have h1:=Q6 h.part
 have h2:=Q6 (n:=s.first) (by have:=h.first;constructor<;>omega)
 have h3:=Q6 (n:=s.horizon) (by have:=h.horz;constructor<;>omega)
 have h4:=Q6 (n:=(s.events.length:Int)) (by have:=h.count;constructor<;>omega)
 have:=h.count
 have:5000 * s.events.length≤5000 * 2000:=Nat.mul_le_mul_left _ h.count
 unfold df0
 simp only[List.length_append]
 omega
end Go.Proofs.YtngbebnhegcokaaGreatDoor
