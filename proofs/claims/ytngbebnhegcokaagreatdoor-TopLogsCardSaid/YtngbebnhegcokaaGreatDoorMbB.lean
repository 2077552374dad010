/-
  Part 2 of the proof that TopLogs holds, for the parts that follow; made small by program out of longer texts. No condition.
-/
import Derived.Test.YtngbebnhegcokaaGreatDoorMbA
set_option linter.all false
namespace Go.Proofs.YtngbebnhegcokaaGreatDoor
open Go.Proofs.Tryz (prog)
open Go.Lib
abbrev Bs:=List UInt8
abbrev inI(n:Int):Prop := -9223372036854775808≤n∧n≤9223372036854775807
theorem aV{u:Nat}(h:u<10):decDigits u=[UInt8.ofNat (48+u)]:=by rw[decDigits,dif_pos h]
theorem Cg0{u:Nat}(h:¬u<10):decDigits u=decDigits (u / 10)++[UInt8.ofNat (48+u % 10)]:=by rw[decDigits,dif_neg h]
theorem lS{d:Nat}(h:d<10):(UInt8.ofNat (48+d)).toNat=48+d:=by
 rw[UInt8.toNat_ofNat_of_lt' (by show 48+d<256;omega)]
theorem YX:∀(u:Nat),∀b∈decDigits u,48≤b.toNat∧b.toNat≤57:=by
 intro u
 induction u using Nat.strongRecOn with
 | _ u ih =>
  intro b hb
  by_cases h:u<10
  ·rw[aV h,List.mem_singleton] at hb
   subst hb
   rw[lS h];omega
  ·rw[Cg0 h] at hb
   rcases List.mem_append.1 hb with hb | hb
   ·exact ih (u / 10) (by omega) b hb
   ·rw[List.mem_singleton] at hb
    subst hb
    rw[lS (by omega)];omega
theorem KC0(u:Nat):decDigits u≠[]:=by
 by_cases h:u<10
 ·rw[aV h];simp
 ·rw[Cg0 h];simp
def KM0(l:Bs):Nat:=l.foldl (fun a c=>a * 10+(c.toNat-48)) 0
theorem Es0(u:Nat):KM0 (decDigits u)=u:=by
 induction u using Nat.strongRecOn with
 | _ u ih =>
  by_cases h:u<10
  ·rw[aV h]
   simp only[KM0,List.foldl_cons,List.foldl_nil]
   rw[lS h];omega
  ·rw[Cg0 h]
   have:=ih (u / 10) (by omega)
   unfold KM0 at this ⊢
   rw[List.foldl_append,this]
   simp only[List.foldl_cons,List.foldl_nil]
   rw[lS (by omega)];omega
theorem yw0{u v:Nat}(h:decDigits u=decDigits v):u=v:=by rw[←Es0 u,h,Es0]
theorem aj0(k:Nat):∀u,u<10 ^ (k+1)→nDigits u≤k+1:=by
 induction k with
 | zero=>intro u h;rw[nDigits_small (by simpa using h)];exact Nat.le_refl _
 | succ k ih =>
  intro u h
  by_cases h1:u<10
  ·rw[nDigits_small h1];omega
  ·rw[nDigits_big h1]
   have:=ih (u / 10) (by rw[Nat.pow_succ] at h;omega)
   omega
theorem Nb0:∀(l r:Bs) (acc v:Nat),parseUint10 acc l = .ok v→parseUint10 acc (l++r)=parseUint10 v r
 | [],r,acc,v,h=>by
  simp only[parseUint10] at h
  injection h with h
  rw[h];rfl
 | c :: l,r,acc,v,h=>by
  simp only[parseUint10] at h
  rw[List.cons_append,parseUint10]
  split at h
  ·rename_i h1
   rw[if_pos h1]
   split at h
   ·cases h
   ·rename_i h2
    rw[if_neg h2]
    split at h
    ·cases h
    ·rename_i h3
     rw[if_neg h3]
     exact Nb0 l r _ v h
  ·cases h
theorem JA0(u:Nat)(hu:u<18446744073709551616):parseUint10 0 (decDigits u) = .ok u:=by
 induction u using Nat.strongRecOn with
 | _ u ih =>
  have one:∀v d:Nat,d<10→v * 10+d<18446744073709551616→parseUint10 v [UInt8.ofNat (48+d)] = .ok (v * 10+d):=by
   intro v d hd hv
   rw[parseUint10,if_pos (by rw[lS hd];omega),if_neg (by omega),lS hd,if_neg (by omega)]
   rw[parseUint10]
   congr 1
   omega
  by_cases h:u<10
  ·rw[aV h]
   have:=one 0 u h (by omega)
   simpa using this
  ·rw[Cg0 h,Nb0 _ _ _ _ (ih (u / 10) (by omega) (by omega)),one _ _ (by omega) (by omega)]
   congr 1
   omega
theorem jT(n:Int):(0≤n∧itoa n=decDigits n.toNat)∨(n<0∧itoa n=45 :: decDigits n.natAbs):=by
 unfold itoa
 by_cases h:n<0
 ·exact .inr ⟨h,if_pos h⟩
 ·exact .inl ⟨by omega,if_neg h⟩
theorem Jz0{n:Int}{b:UInt8}(h:b∈itoa n):b=45∨(48≤b.toNat∧b.toNat≤57):=by
 rcases jT n with⟨_,e⟩ | ⟨_,e⟩<;>rw[e] at h
 ·exact .inr (YX _ b h)
 ·rcases List.mem_cons.1 h with h | h
  ·exact .inl h
  ·exact .inr (YX _ b h)
theorem wX{n:Int}{e:UInt8}(h:e=59∨e=58∨e=91):e ∉ itoa n:=by
 intro hm
 rcases Jz0 hm with rfl | ⟨h1,h2⟩
 ·rcases h with h | h | h<;>exact absurd h (by decide)
 ·rcases h with rfl | rfl | rfl
  ·exact absurd h2 (by decide)
  ·exact absurd h2 (by decide)
  ·exact absurd h2 (by decide)
theorem Nq0{n m:Int}(h:itoa n=itoa m):n=m:=by
 have no:∀u (l:Bs),decDigits u≠45 :: l:=fun u l e=>by
  have:=YX u 45 (by rw[e];exact List.mem_cons_self)
  exact absurd this.1 (by decide)
 rcases jT n with⟨h1,e1⟩ | ⟨h1,e1⟩<;>rcases jT m with⟨h2,e2⟩ | ⟨h2,e2⟩<;>rw[e1,e2] at h
 ·have:=yw0 h;omega
 ·exact absurd h (no _ _)
 ·exact absurd h.symm (no _ _)
 ·injection h with _ h
  have:=yw0 h
  omega
theorem kT{n:Int}(h:inI n):(itoa n).length≤20:=by
 have h1:=h.1
 have h2:=h.2
 have e19:(10:Nat) ^ (18+1)=10000000000000000000:=by decide
 rcases jT n with⟨h3,e⟩ | ⟨h3,e⟩<;>rw[e]
 ·rw[decDigits_length]
  have:=aj0 18 n.toNat (by rw[e19];omega)
  omega
 ·rw[List.length_cons,decDigits_length]
  have:=aj0 18 n.natAbs (by rw[e19];omega)
  omega
theorem Yk0{n:Int}(h:inI n):atoiAll (itoa n) = .ok n:=by
 have h1:=h.1
 have h2:=h.2
 have pm:∀u:Nat,u<18446744073709551616→parseMag (decDigits u) = .ok u:=fun u hu=>by
  unfold parseMag
  rw[if_neg (KC0 u),JA0 u hu]
 rcases jT n with⟨h3,e⟩ | ⟨h3,e⟩<;>rw[e]
 ·cases hd:decDigits n.toNat with
  | nil=>exact absurd hd (KC0 _)
  | cons c r =>
   have hc:=YX n.toNat c (by rw[hd];exact List.mem_cons_self)
   rw[atoiAll_plain c r (by omega) (by omega),←hd,pm _ (by omega)]
   simp only[signless]
   rw[if_neg (by omega)]
   congr 1
   omega
 ·rw[atoiAll_minus,pm _ (by omega)]
  simp only[signed]
  rw[if_neg (by omega)]
  congr 1
  omega
theorem JQ{e:UInt8}:∀{a a' r r':Bs},e ∉ a→e ∉ a'→a++e :: r=a'++e :: r'→a=a'∧r=r'
 | [],[],r,r',_,_,h=>by
  injection h with _ h
  exact⟨rfl,h⟩
 | [],x :: a',r,r',_,h2,h=>by
  injection h with h _
  exact absurd (by rw[h];exact List.mem_cons_self) h2
 | x :: a,[],r,r',h1,_,h=>by
  injection h with h _
  exact absurd (by rw[h];exact List.mem_cons_self) h1
 | x :: a,y :: a',r,r',h1,h2,h=>by
  injection h with hx h
  subst hx
  obtain⟨e1,e2⟩:=JQ (fun hh=>h1 (List.mem_cons_of_mem _ hh)) (fun hh=>h2 (List.mem_cons_of_mem _ hh)) h
  exact⟨by rw[e1],e2⟩
def encI(n:Int):Bs:=itoa n++[59]
def bg0(n:Int):Bs:=if n<0 then [] else encI n
def bB(s:Bs):Bs:=itoa s.length++58 :: (s++[44])
def Yf0{α:Type}(one:α→Bs)(l:List α):Bs:=itoa l.length++91 :: (l.flatMap one++[93])
structure RS where
 rest:Bs
 bad:Bool
def zO:RS:=⟨[],true⟩
open Classical in
noncomputable def yA0(e:UInt8)(lo:Int)(s:Bs):Option (Int×Bs) :=
 if h:∃p:Int×Bs,s=itoa p.1++e :: p.2∧lo≤p.1∧inI p.1 then some h.choose else none
abbrev vR(e:UInt8):Prop:=e=59∨e=58∨e=91
theorem de0{e:UInt8}(he:vR e){lo:Int}{s:Bs}{n:Int}{r:Bs}:yA0 e lo s=some (n,r)↔s=itoa n++e :: r∧lo≤n∧inI n:=by
 unfold yA0
 constructor
 ·intro h
  split at h
  ·rename_i hh
   have:=hh.choose_spec
   injection h with h
   rw[h] at this
   exact this
  ·cases h
 ·intro h
  have hh:∃p:Int×Bs,s=itoa p.1++e :: p.2∧lo≤p.1∧inI p.1:=⟨(n,r),h⟩
  rw[dif_pos hh]
  have h2:=hh.choose_spec
  generalize hh.choose=p at h2
  obtain⟨n2,r2⟩:=p
  have h3:itoa n2++e :: r2=itoa n++e :: r:=h2.1.symm.trans h.1
  obtain⟨e1,e2⟩:=JQ (wX he) (wX he) h3
  rw[Nq0 e1,e2]
theorem Rl0{e:UInt8}{lo:Int}{s:Bs}:yA0 e lo s=none↔∀n r,s=itoa n++e :: r→lo≤n→¬inI n:=by
 unfold yA0
 constructor
 ·intro h n r h1 h2 h3
  split at h
  ·cases h
  ·rename_i hh
   exact hh ⟨(n,r),h1,h2,h3⟩
 ·intro h
  rw[dif_neg]
  rintro⟨⟨n,r⟩,h1,h2,h3⟩
  exact h n r h1 h2 h3
noncomputable def UN(e:UInt8)(lo:Int)(s:RS):Int×RS:=match yA0 e lo s.rest with
 | some p=>(p.1,⟨p.2,s.bad⟩)
 | none=>(0,zO)
def lN(e:UInt8)(s:RS):RS:=match s.rest with
 | []=>zO
 | x :: r=>if x=e then⟨r,s.bad⟩ else zO
noncomputable def GA(s:RS):Int×RS:=UN 59 (-9223372036854775808) s
noncomputable def KR(s:RS):Int×RS:=UN 59 0 s
noncomputable def SA(s:RS):Bs×RS :=
 let p:=UN 58 0 s
 if p.2.rest.length<p.1 then([],zO)
 else
  let c:=lN 44 ⟨p.2.rest.drop p.1.toNat,p.2.bad⟩
  (if c.bad=true then [] else p.2.rest.take p.1.toNat,c)
theorem dj0{e:UInt8}(he:vR e){lo n:Int}(h1:lo≤n)(h2:inI n)(r:Bs)(b:Bool):UN e lo ⟨itoa n++e :: r,b⟩=(n,⟨r,b⟩):=by
 unfold UN
 rw[(de0 he (s:=itoa n++e :: r)).2 ⟨rfl,h1,h2⟩]
theorem uI{n:Int}(h:inI n)(r:Bs)(b:Bool):GA ⟨encI n++r,b⟩=(n,⟨r,b⟩):=by
 unfold GA encI
 rw[List.append_assoc]
 exact dj0 (.inl rfl) h.1 h r b
theorem AX{n:Int}(h0:0≤n)(h:inI n)(r:Bs)(b:Bool):KR ⟨encI n++r,b⟩=(n,⟨r,b⟩):=by
 unfold KR encI
 rw[List.append_assoc]
 exact dj0 (.inl rfl) h0 h r b
theorem RN{t:Bs}(h:t.length≤9223372036854775807)(r:Bs):SA ⟨bB t++r,false⟩=(t,⟨r,false⟩):=by
 unfold SA bB
 rw[List.append_assoc,List.cons_append,dj0 (.inr (.inl rfl)) (by omega) ⟨by omega,by omega⟩]
 simp only[Int.toNat_natCast]
 rw[if_neg (by simp;omega),List.append_assoc,List.drop_left,List.take_left]
 simp [lN]
structure Ok1 {α:Type} (enc:α→Bs) (good:α→Prop) (one:RS→α×RS):Prop where
 key:∀l:Bs,(∃x r,l=enc x++r∧good x∧one ⟨l,false⟩=(x,⟨r,false⟩))∨(one ⟨l,false⟩).2=zO
 bad:(one zO).2=zO
theorem Ok1.back{α:Type}{enc:α→Bs}{good:α→Prop}{one:RS→α×RS}(h:Ok1 enc good one){s:RS}(h1:s.bad=false)(h2:(one s).2.bad=false):s.rest=enc (one s).1++(one s).2.rest∧good (one s).1:=by
 obtain⟨l,b⟩:=s
 have h1:b=false:=h1
 subst h1
 rcases h.key l with⟨x,r,e1,e2,e3⟩ | e
 ·rw[e3];exact⟨e1,e2⟩
 ·rw[e] at h2;cases h2
theorem Ok1.fail{α:Type}{enc:α→Bs}{good:α→Prop}{one:RS→α×RS}(h:Ok1 enc good one){s:RS}(h1:s.bad=false)(h2:(one s).2.bad=true):(one s).2=zO:=by
 obtain⟨l,b⟩:=s
 have h1:b=false:=h1
 subst h1
 rcases h.key l with⟨x,r,e1,e2,e3⟩ | e
 ·rw[e3] at h2;cases h2
 ·exact e
theorem xP{e:UInt8}(he:vR e)(lo:Int)(s:RS):(∃n r,s.rest=itoa n++e :: r∧lo≤n∧inI n∧UN e lo s=(n,⟨r,s.bad⟩))∨((∀n r,s.rest=itoa n++e :: r→lo≤n→¬inI n)∧UN e lo s=(0,zO)):=by
 unfold UN
 cases h:yA0 e lo s.rest with
 | none=>exact .inr ⟨Rl0.1 h,rfl⟩
 | some p =>
  obtain⟨n,r⟩:=p
  obtain⟨h1,h2,h3⟩:=(de0 he).1 h
  exact .inl ⟨n,r,h1,h2,h3,rfl⟩
theorem Nl0{e:UInt8}(he:vR e)(lo:Int):UN e lo zO=(0,zO):=by
 rcases xP he lo zO with⟨n,r,e1,_⟩ | ⟨_,e4⟩
 ·exact absurd e1.symm (by simp [zO])
 ·exact e4
theorem lx0{e:UInt8}(he:vR e)(lo:Int):Ok1 (fun n=>itoa n++[e]) (fun n=>lo≤n∧inI n) (UN e lo):=by
 refine⟨fun l=>?_,by rw[Nl0 he]⟩
 rcases xP he lo ⟨l,false⟩ with⟨n,r,e1,e2,e3,e4⟩ | ⟨_,e4⟩
 ·refine .inl ⟨n,r,?_,⟨e2,e3⟩,e4⟩
  rw[List.append_assoc]
  exact e1
 ·exact .inr (by rw[e4])
theorem gI0:Ok1 encI (fun n => -9223372036854775808≤n∧inI n) GA:=lx0 (.inl rfl) _
theorem tI0:Ok1 encI (fun n=>0≤n∧inI n) KR:=lx0 (.inl rfl) _
theorem BR(e:UInt8)(s:RS):(∃r,s.rest=e :: r∧lN e s=⟨r,s.bad⟩)∨((∀r,s.rest≠e :: r)∧lN e s=zO):=by
 unfold lN
 cases h:s.rest with
 | nil=>exact .inr ⟨fun r=>by simp,rfl⟩
 | cons x r =>
  by_cases hx:x=e
  ·subst hx
   exact .inl ⟨r,rfl,by simp⟩
  ·refine .inr ⟨fun r' hh=>?_,by simp [hx]⟩
   injection hh with hh _
   exact hx hh
theorem cG0:Ok1 bB (fun t=>t.length≤9223372036854775807) SA:=by
 refine⟨fun l=>?_,?_⟩
 ·unfold SA
  rcases xP (.inr (.inl rfl):vR 58) 0 ⟨l,false⟩ with⟨n,r,e1,e2,e3,e4⟩ | ⟨_,e4⟩<;>rw[e4]
  ·by_cases hc:(r.length:Int)<n
   ·right
    simp only[if_pos hc]
   ·simp only[if_neg hc]
    rcases BR 44 ⟨r.drop n.toNat,false⟩ with⟨r2,c1,c2⟩ | ⟨_,c2⟩<;>rw[c2]
    ·left
     have c1:r.drop n.toNat=44 :: r2:=c1
     have hl:(r.take n.toNat).length=n.toNat:=by rw[List.length_take];omega
     refine⟨r.take n.toNat,r2,?_,by rw[hl];omega,rfl⟩
     have e1:l=itoa n++58 :: r:=e1
     rw[e1]
     unfold bB
     rw[hl,Int.toNat_of_nonneg e2,List.append_assoc,List.cons_append,List.append_assoc]
     congr 2
     rw[List.singleton_append,←c1,List.take_append_drop]
    ·right
     rfl
  ·right
   simp [zO,lN]
 ·unfold SA
  rw[Nl0 (.inr (.inl rfl))]
  simp [zO,lN]
end Go.Proofs.YtngbebnhegcokaaGreatDoor
namespace Go.Proofs
open Go.Shelf
def Tryz.Sn0:Go.Shelf.Ren:=⟨fun | 171=>125 | 243=>178 | 246=>223 | 283=>257 | 284=>258 | 285=>259 | 286=>260 | 129=>234 | 317=>272 | 318=>273 | 319=>274 | 320=>275 | 337=>280 | 338=>281 | n=>n,fun | 3=>3 | 9=>9 | 2=>2 | 4=>4 | 171=>313 | 0=>0 | 53=>292 | 37=>113 | 5=>5 | 173=>315 | 212=>328 | 51=>290 | 20=>20 | 213=>329 | 46=>54 | 232=>339 | 233=>340 | n=>n,fun | 17=>4 | 18=>5 | 19=>6 | n=>n⟩
theorem Tryz.gE0:Go.Proofs.LaysM.n171 Tryz.prog Tryz.Sn0:={
 mixed:=by kernel_rfl
 f129:=Tryz.func234.trans (congrArg some (by kernel_rfl))
 f171:=Tryz.func125.trans (congrArg some (by kernel_rfl))
 f243:=Tryz.func178.trans (congrArg some (by kernel_rfl))
 f246:=Tryz.func223.trans (congrArg some (by kernel_rfl))
 f283:=Tryz.func257.trans (congrArg some (by kernel_rfl))
 f284:=Tryz.func258.trans (congrArg some (by kernel_rfl))
 f285:=Tryz.func259.trans (congrArg some (by kernel_rfl))
 f286:=Tryz.func260.trans (congrArg some (by kernel_rfl))
 f317:=Tryz.func272.trans (congrArg some (by kernel_rfl))
 f318:=Tryz.func273.trans (congrArg some (by kernel_rfl))
 f319:=Tryz.func274.trans (congrArg some (by kernel_rfl))
 f320:=Tryz.func275.trans (congrArg some (by kernel_rfl))
 f337:=Tryz.func280.trans (congrArg some (by kernel_rfl))
 f338:=Tryz.func281.trans (congrArg some (by kernel_rfl))
 t0:=Tryz.underlying0
 a0:=Tryz.isAgg0
 z0:=Tryz.sizeOf0
 v0:=Tryz.zeroValue0
 t2:=Tryz.underlying2
 a2:=Tryz.isAgg2
 z2:=Tryz.sizeOf2
 v2:=Tryz.zeroValue2
 t3:=Tryz.underlying3
 a3:=Tryz.isAgg3
 z3:=Tryz.sizeOf3
 v3:=Tryz.zeroValue3
 t4:=Tryz.underlying4
 a4:=Tryz.isAgg4
 z4:=Tryz.sizeOf4
 v4:=Tryz.zeroValue4
 t5:=Tryz.underlying5
 a5:=Tryz.isAgg5
 z5:=Tryz.sizeOf5
 v5:=Tryz.zeroValue5
 t9:=Tryz.underlying9
 a9:=Tryz.isAgg9
 z9:=Tryz.sizeOf9
 v9:=Tryz.zeroValue9
 t20:=Tryz.underlying20
 a20:=Tryz.isAgg20
 z20:=Tryz.sizeOf20
 v20:=Tryz.zeroValue20
 t37:=Tryz.underlying113
 a37:=Tryz.isAgg113
 z37:=Tryz.sizeOf113
 v37:=Tryz.zeroValue113
 t46:=Tryz.underlying54
 a46:=Tryz.isAgg54
 z46:=Tryz.sizeOf54
 v46:=Tryz.zeroValue54
 t51:=Tryz.underlying290
 a51:=Tryz.isAgg290
 z51:=Tryz.sizeOf290
 v51:=Tryz.zeroValue290
 t53:=Tryz.underlying292
 a53:=Tryz.isAgg292
 z53:=Tryz.sizeOf292
 v53:=Tryz.zeroValue292
 t171:=Tryz.underlying313
 a171:=Tryz.isAgg313
 z171:=Tryz.sizeOf313
 v171:=Tryz.zeroValue313
 t173:=Tryz.underlying315
 a173:=Tryz.isAgg315
 z173:=Tryz.sizeOf315
 v173:=Tryz.zeroValue315
 t212:=Tryz.underlying328
 a212:=Tryz.isAgg328
 z212:=Tryz.sizeOf328
 v212:=Tryz.zeroValue328
 t213:=Tryz.underlying329
 a213:=Tryz.isAgg329
 z213:=Tryz.sizeOf329
 t232:=Tryz.underlying339
 a232:=Tryz.isAgg339
 z232:=Tryz.sizeOf339
 v232:=Tryz.zeroValue339
 t233:=Tryz.underlying340
 a233:=Tryz.isAgg340
 z233:=Tryz.sizeOf340
 v233:=Tryz.zeroValue340
 g17:=by kernel_rfl
 g18:=by kernel_rfl
 g19:=by kernel_rfl
 i0:=by kernel_rfl
 i2:=by kernel_rfl
 i3:=by kernel_rfl
 i4:=by kernel_rfl
 i5:=by kernel_rfl
 i9:=by kernel_rfl
 i20:=by kernel_rfl
 i37:=by kernel_rfl
 i46:=by kernel_rfl
 i51:=by kernel_rfl
 i53:=by kernel_rfl
 i171:=by kernel_rfl
 i173:=by kernel_rfl
 i212:=by kernel_rfl
 i232:=by kernel_rfl
 i233:=by kernel_rfl
 m17:=by kernel_rfl
 m18:=by kernel_rfl
 m19:=by kernel_rfl }
def Tryz.Qn0:Go.Shelf.Ren:=⟨fun | 172=>176 | 244=>220 | 245=>221 | 247=>251 | 279=>252 | 280=>253 | 281=>254 | 282=>255 | 287=>269 | 316=>270 | 171=>125 | 205=>271 | 321=>278 | 322=>279 | 243=>178 | 246=>223 | 283=>257 | 284=>258 | 285=>259 | 286=>260 | 129=>234 | 317=>272 | 318=>273 | 319=>274 | 320=>275 | 337=>280 | 338=>281 | n=>n,fun | 9=>9 | 3=>3 | 75=>117 | 76=>118 | 4=>4 | 5=>5 | 167=>306 | 37=>113 | 0=>0 | 85=>307 | 2=>2 | 168=>309 | 53=>292 | 175=>322 | 46=>54 | 210=>325 | 127=>194 | 145=>338 | 143=>336 | 21=>21 | 171=>313 | 173=>315 | 212=>328 | 51=>290 | 20=>20 | 213=>329 | 232=>339 | 233=>340 | 80=>51 | n=>n,fun | 15=>2 | 16=>3 | 17=>4 | 18=>5 | 19=>6 | n=>n⟩
theorem Tryz.Li0:Go.Proofs.LaysC.n172 Tryz.prog Tryz.Qn0:={
 mixed:=by kernel_rfl
 f129:=Tryz.func234.trans (congrArg some (by kernel_rfl))
 f171:=Tryz.func125.trans (congrArg some (by kernel_rfl))
 f172:=Tryz.func176.trans (congrArg some (by kernel_rfl))
 f205:=Tryz.func271.trans (congrArg some (by kernel_rfl))
 f243:=Tryz.func178.trans (congrArg some (by kernel_rfl))
 f244:=Tryz.func220.trans (congrArg some (by kernel_rfl))
 f245:=Tryz.func221.trans (congrArg some (by kernel_rfl))
 f246:=Tryz.func223.trans (congrArg some (by kernel_rfl))
 f247:=Tryz.func251.trans (congrArg some (by kernel_rfl))
 f279:=Tryz.func252.trans (congrArg some (by kernel_rfl))
 f280:=Tryz.func253.trans (congrArg some (by kernel_rfl))
 f281:=Tryz.func254.trans (congrArg some (by kernel_rfl))
 f282:=Tryz.func255.trans (congrArg some (by kernel_rfl))
 f283:=Tryz.func257.trans (congrArg some (by kernel_rfl))
 f284:=Tryz.func258.trans (congrArg some (by kernel_rfl))
 f285:=Tryz.func259.trans (congrArg some (by kernel_rfl))
 f286:=Tryz.func260.trans (congrArg some (by kernel_rfl))
 f287:=Tryz.func269.trans (congrArg some (by kernel_rfl))
 f316:=Tryz.func270.trans (congrArg some (by kernel_rfl))
 f317:=Tryz.func272.trans (congrArg some (by kernel_rfl))
 f318:=Tryz.func273.trans (congrArg some (by kernel_rfl))
 f319:=Tryz.func274.trans (congrArg some (by kernel_rfl))
 f320:=Tryz.func275.trans (congrArg some (by kernel_rfl))
 f321:=Tryz.func278.trans (congrArg some (by kernel_rfl))
 f322:=Tryz.func279.trans (congrArg some (by kernel_rfl))
 f337:=Tryz.func280.trans (congrArg some (by kernel_rfl))
 f338:=Tryz.func281.trans (congrArg some (by kernel_rfl))
 t0:=Tryz.underlying0
 a0:=Tryz.isAgg0
 z0:=Tryz.sizeOf0
 v0:=Tryz.zeroValue0
 t2:=Tryz.underlying2
 a2:=Tryz.isAgg2
 z2:=Tryz.sizeOf2
 v2:=Tryz.zeroValue2
 t3:=Tryz.underlying3
 a3:=Tryz.isAgg3
 z3:=Tryz.sizeOf3
 v3:=Tryz.zeroValue3
 t4:=Tryz.underlying4
 a4:=Tryz.isAgg4
 z4:=Tryz.sizeOf4
 v4:=Tryz.zeroValue4
 t5:=Tryz.underlying5
 a5:=Tryz.isAgg5
 z5:=Tryz.sizeOf5
 v5:=Tryz.zeroValue5
 t9:=Tryz.underlying9
 a9:=Tryz.isAgg9
 z9:=Tryz.sizeOf9
 v9:=Tryz.zeroValue9
 t20:=Tryz.underlying20
 a20:=Tryz.isAgg20
 z20:=Tryz.sizeOf20
 v20:=Tryz.zeroValue20
 t21:=Tryz.underlying21
 a21:=Tryz.isAgg21
 z21:=Tryz.sizeOf21
 v21:=Tryz.zeroValue21
 t37:=Tryz.underlying113
 a37:=Tryz.isAgg113
 z37:=Tryz.sizeOf113
 v37:=Tryz.zeroValue113
 t46:=Tryz.underlying54
 a46:=Tryz.isAgg54
 z46:=Tryz.sizeOf54
 v46:=Tryz.zeroValue54
 t51:=Tryz.underlying290
 a51:=Tryz.isAgg290
 z51:=Tryz.sizeOf290
 v51:=Tryz.zeroValue290
 t53:=Tryz.underlying292
 a53:=Tryz.isAgg292
 z53:=Tryz.sizeOf292
 v53:=Tryz.zeroValue292
 t75:=Tryz.underlying117
 a75:=Tryz.isAgg117
 z75:=Tryz.sizeOf117
 v75:=Tryz.zeroValue117
 t76:=Tryz.underlying118
 a76:=Tryz.isAgg118
 z76:=Tryz.sizeOf118
 v76:=Tryz.zeroValue118
 t85:=Tryz.underlying307
 a85:=Tryz.isAgg307
 z85:=Tryz.sizeOf307
 v85:=Tryz.zeroValue307
 t127:=Tryz.underlying194
 a127:=Tryz.isAgg194
 z127:=Tryz.sizeOf194
 v127:=Tryz.zeroValue194
 t143:=Tryz.underlying336
 a143:=Tryz.isAgg336
 z143:=Tryz.sizeOf336
 v143:=Tryz.zeroValue336
 t145:=Tryz.underlying338
 a145:=Tryz.isAgg338
 z145:=Tryz.sizeOf338
 v145:=Tryz.zeroValue338
 t167:=Tryz.underlying306
 a167:=Tryz.isAgg306
 z167:=Tryz.sizeOf306
 v167:=Tryz.zeroValue306
 t168:=Tryz.underlying309
 a168:=Tryz.isAgg309
 z168:=Tryz.sizeOf309
 v168:=Tryz.zeroValue309
 t171:=Tryz.underlying313
 a171:=Tryz.isAgg313
 z171:=Tryz.sizeOf313
 v171:=Tryz.zeroValue313
 t173:=Tryz.underlying315
 a173:=Tryz.isAgg315
 z173:=Tryz.sizeOf315
 v173:=Tryz.zeroValue315
 t175:=Tryz.underlying322
 a175:=Tryz.isAgg322
 z175:=Tryz.sizeOf322
 v175:=Tryz.zeroValue322
 t210:=Tryz.underlying325
 a210:=Tryz.isAgg325
 z210:=Tryz.sizeOf325
 v210:=Tryz.zeroValue325
 t212:=Tryz.underlying328
 a212:=Tryz.isAgg328
 z212:=Tryz.sizeOf328
 v212:=Tryz.zeroValue328
 t213:=Tryz.underlying329
 a213:=Tryz.isAgg329
 z213:=Tryz.sizeOf329
 t232:=Tryz.underlying339
 a232:=Tryz.isAgg339
 z232:=Tryz.sizeOf339
 v232:=Tryz.zeroValue339
 t233:=Tryz.underlying340
 a233:=Tryz.isAgg340
 z233:=Tryz.sizeOf340
 v233:=Tryz.zeroValue340
 g15:=by kernel_rfl
 g16:=by kernel_rfl
 g17:=by kernel_rfl
 g18:=by kernel_rfl
 g19:=by kernel_rfl
 t80:=Tryz.underlying51
 a80:=Tryz.isAgg51
 z80:=Tryz.sizeOf51
 v80:=Tryz.zeroValue51
 i0:=by kernel_rfl
 i2:=by kernel_rfl
 i3:=by kernel_rfl
 i4:=by kernel_rfl
 i5:=by kernel_rfl
 i9:=by kernel_rfl
 i20:=by kernel_rfl
 i21:=by kernel_rfl
 i37:=by kernel_rfl
 i46:=by kernel_rfl
 i51:=by kernel_rfl
 i53:=by kernel_rfl
 i75:=by kernel_rfl
 i76:=by kernel_rfl
 i80:=by kernel_rfl
 i85:=by kernel_rfl
 i127:=by kernel_rfl
 i143:=by kernel_rfl
 i145:=by kernel_rfl
 i167:=by kernel_rfl
 i168:=by kernel_rfl
 i171:=by kernel_rfl
 i173:=by kernel_rfl
 i175:=by kernel_rfl
 i210:=by kernel_rfl
 i212:=by kernel_rfl
 i232:=by kernel_rfl
 i233:=by kernel_rfl
 m15:=by kernel_rfl
 m16:=by kernel_rfl
 m17:=by kernel_rfl
 m18:=by kernel_rfl
 m19:=by kernel_rfl
 c0:=by kernel_rfl
 c2:=by kernel_rfl
 c3:=by kernel_rfl
 c4:=by kernel_rfl
 c5:=by kernel_rfl
 c9:=by kernel_rfl
 c20:=by kernel_rfl
 c21:=by kernel_rfl
 c37:=by kernel_rfl
 c46:=by kernel_rfl
 c51:=by kernel_rfl
 c53:=by kernel_rfl
 c75:=by kernel_rfl
 c76:=by kernel_rfl
 c80:=by kernel_rfl
 c85:=by kernel_rfl
 c127:=by kernel_rfl
 c143:=by kernel_rfl
 c145:=by kernel_rfl
 c167:=by kernel_rfl
 c168:=by kernel_rfl
 c171:=by kernel_rfl
 c173:=by kernel_rfl
 c175:=by kernel_rfl
 c210:=by kernel_rfl
 c212:=by kernel_rfl
 c213:=by kernel_rfl
 c232:=by kernel_rfl
 c233:=by kernel_rfl }
def Tryz.xX:Go.Shelf.Ren:=⟨fun | 169=>67 | n=>n,fun | 70=>112 | 9=>9 | 0=>0 | 72=>115 | 37=>113 | 127=>194 | 3=>3 | 5=>5 | n=>n,fun | n=>n⟩
theorem Tryz.Bu0:Go.Proofs.Lays.n169 Tryz.prog Tryz.xX:={
 mixed:=by kernel_rfl
 f169:=Tryz.func67.trans (congrArg some (by kernel_rfl))
 t0:=Tryz.underlying0
 a0:=Tryz.isAgg0
 z0:=Tryz.sizeOf0
 v0:=Tryz.zeroValue0
 t3:=Tryz.underlying3
 a3:=Tryz.isAgg3
 z3:=Tryz.sizeOf3
 v3:=Tryz.zeroValue3
 t9:=Tryz.underlying9
 a9:=Tryz.isAgg9
 z9:=Tryz.sizeOf9
 v9:=Tryz.zeroValue9
 t37:=Tryz.underlying113
 a37:=Tryz.isAgg113
 z37:=Tryz.sizeOf113
 v37:=Tryz.zeroValue113
 t70:=Tryz.underlying112
 a70:=Tryz.isAgg112
 z70:=Tryz.sizeOf112
 v70:=Tryz.zeroValue112
 t72:=Tryz.underlying115
 a72:=Tryz.isAgg115
 z72:=Tryz.sizeOf115
 v72:=Tryz.zeroValue115
 t127:=Tryz.underlying194
 a127:=Tryz.isAgg194
 z127:=Tryz.sizeOf194
 v127:=Tryz.zeroValue194 }
def Tryz.Dk0:Go.Shelf.Ren:=⟨fun | 137=>175 | 217=>219 | 266=>250 | n=>n,fun | 9=>9 | 5=>5 | 3=>3 | n=>n,fun | n=>n⟩
theorem Tryz.eA0:Go.Proofs.Lays.n137 Tryz.prog Tryz.Dk0:={
 mixed:=by kernel_rfl
 f137:=Tryz.func175.trans (congrArg some (by kernel_rfl))
 f217:=Tryz.func219.trans (congrArg some (by kernel_rfl))
 f266:=Tryz.func250.trans (congrArg some (by kernel_rfl))
 t3:=Tryz.underlying3
 a3:=Tryz.isAgg3
 z3:=Tryz.sizeOf3
 v3:=Tryz.zeroValue3
 t5:=Tryz.underlying5
 a5:=Tryz.isAgg5
 z5:=Tryz.sizeOf5
 v5:=Tryz.zeroValue5
 t9:=Tryz.underlying9
 a9:=Tryz.isAgg9
 z9:=Tryz.sizeOf9
 v9:=Tryz.zeroValue9 }
def Tryz.Sq0:Go.Shelf.Ren:=⟨fun | 103=>177 | 210=>222 | 206=>256 | n=>n,fun | 9=>9 | 4=>4 | 24=>233 | 3=>3 | n=>n,fun | n=>n⟩
theorem Tryz.mI0:Go.Proofs.Lays.n103 Tryz.prog Tryz.Sq0:={
 mixed:=by kernel_rfl
 f103:=Tryz.func177.trans (congrArg some (by kernel_rfl))
 f206:=Tryz.func256.trans (congrArg some (by kernel_rfl))
 f210:=Tryz.func222.trans (congrArg some (by kernel_rfl))
 t3:=Tryz.underlying3
 a3:=Tryz.isAgg3
 z3:=Tryz.sizeOf3
 v3:=Tryz.zeroValue3
 t4:=Tryz.underlying4
 a4:=Tryz.isAgg4
 z4:=Tryz.sizeOf4
 v4:=Tryz.zeroValue4
 t9:=Tryz.underlying9
 a9:=Tryz.isAgg9
 z9:=Tryz.sizeOf9
 v9:=Tryz.zeroValue9
 t24:=Tryz.underlying233
 a24:=Tryz.isAgg233
 z24:=Tryz.sizeOf233
 v24:=Tryz.zeroValue233 }
end Go.Proofs

namespace Go.Proofs.YtngbebnhegcokaaGreatDoor
open Go.Proofs.Tryz (prog)
set_option linter.unusedVariables false
set_option maxRecDepth 100000
theorem upF{P:Program}{f:FuncId}{fn:Func}(dead:List Nat)(pl:ga0)(av:List Value){w:World}{K:PtK}{X:Prop}(hf:P.funcs[f]? = some fn)(h:X)(c1:fn.body=some (WS fn):=by kernel_rfl)(c2:fn.body.isNone=false:=by kernel_rfl)
  (c3:(fn.name == "runtime.NumGoroutine")=false:=by kernel_rfl) (c4:X=FN P fn (WS fn) dead pl av w K:=by kernel_rfl):upK P (Z0 f av.toArray) w K :=
 VH hf c2 c3 (jM hf c1 (by rw[←c4];exact h))
section
variable {w:World} {K:PtK}
def OB.pt(c0 entries1 l2:Value)(w:World)(K:PtK):Prop :=
 upK prog (yC E5 c0) w fun c3 w1 =>
 upK prog (Z0 SF #[]) w1 fun t18 w2 =>
 Y0 prog (X0 E5 c3) w2 fun t19 =>
 upK prog (Z0 OE #[t19]) w2 fun t20 w3 =>
 upK prog (Z0 OT #[]) w3 fun t21 w4 =>
 upK prog (Z0 PL #[entries1,(.int .i64 30)]) w4 fun t23 w5 =>
 M0 prog (sUn .not t23) fun t24 =>
 ifB t24
 (ifB t18
  (M0 prog (Y3 .neq aC (.tmp 40) (.const (.pointer none)) t21 (.pointer none)) fun t41 =>
  K t41 w5)
  (K (.bool false) w5))
 (upK prog (Z0 vK #[l2,(.int .i64 70)]) w5 fun t27 w6 =>
  M0 prog (sUn .not t27) fun t28 =>
  ifB t28
  (ifB t18
  (M0 prog (Y3 .neq aC (.tmp 40) (.const (.pointer none)) t21 (.pointer none)) fun t41_1 =>
   K t41_1 w6)
  (K (.bool false) w6))
  (M0 prog (Y3 .eql tC (.tmp 31) (.const (.pointer none)) t20 (.pointer none)) fun t32 =>
  ifB t32
  (ifB t18
   (M0 prog (Y3 .neq aC (.tmp 40) (.const (.pointer none)) t21 (.pointer none)) fun t41_2 =>
   K t41_2 w6)
   (K (.bool false) w6))
  (M0 prog (Y3 .eql aC (.tmp 35) (.const (.pointer none)) t21 (.pointer none)) fun t36 =>
   ifB t36
   (ifB t18
   (M0 prog (Y3 .neq aC (.tmp 40) (.const (.pointer none)) t21 (.pointer none)) fun t41_3 =>
    K t41_3 w6)
   (K (.bool false) w6))
   (LOOP (X:=Value×Value×Unit) (fun lv7 w7 next7 =>
    Y0 prog (J5 .len #[AA] Q0 #[false] #[l2]) w7 fun t45 =>
    M0 prog (Y3 .lss Q0 (.tmp 43) (.tmp 45) lv7.2.1 t45) fun t46 =>
    ifB t46
    (TE (X:=Value×Unit) (fun jv1 w8 =>
     M0 prog (Y3 .add Q0 (.tmp 47) (.const (.int .i64 1)) lv7.2.1 (.int .i64 1)) fun t48 =>
     next7 (jv1.1,t48,()) w8)
    (fun J1 =>
     M0 prog (Y4 AA l2 lv7.2.1) fun t52 =>
     Y0 prog (X0 H6 t52) w7 fun t53 =>
     upK prog (Z0 KI #[t21,t53,entries1]) w7 fun t55 w9 =>
     upK prog (Z0 nE #[t21]) w9 fun t57 w10 =>
     Y0 prog (J5 .len #[K4] Q0 #[false] #[t57]) w10 fun t59 =>
     Y0 prog (J5 .len #[K4] Q0 #[false] #[lv7.1]) w10 fun t61 =>
     M0 prog (Y3 .lss Q0 (.tmp 59) (.tmp 61) t59 t61) fun t62 =>
     ifB t62
     (K (.bool false) w10)
     (Y0 prog (J5 .len #[K4] Q0 #[false] #[lv7.1]) w10 fun t65 =>
     M0 prog (d9 K4 t57 none (some t65) none) fun t66 =>
     upK prog (Z0 mE #[t66,lv7.1]) w10 fun t68 w11 =>
     M0 prog (sUn .not t68) fun t69 =>
     ifB t69
     (K (.bool false) w11)
     (Y0 prog (J5 .len #[K4] Q0 #[false] #[lv7.1]) w11 fun t71 =>
      LOOP (X:=Value×Unit) (fun lv12 w12 next12 =>
      Y0 prog (J5 .len #[K4] Q0 #[false] #[t57]) w12 fun t74 =>
      M0 prog (Y3 .lss Q0 (.tmp 72) (.tmp 74) lv12.1 t74) fun t75 =>
      ifB t75
      (TE (X:=Unit) (fun jv2 w13 =>
       M0 prog (Y3 .add Q0 (.tmp 76) (.const (.int .i64 1)) lv12.1 (.int .i64 1)) fun t77 =>
       next12 (t77,()) w13)
       (fun J2 =>
       M0 prog (X4 t20) fun t79 =>
       M0 prog (O0 J4 t79 0) fun t80 =>
       Y0 prog (X0 I8 t80) w12 fun t81 =>
       upK prog (Z0 W9 #[t81]) w12 fun t82 w14 =>
       M0 prog (X4 t20) fun t84 =>
       M0 prog (O0 J4 t84 2) fun t85 =>
       Y0 prog (X0 Z4 t85) w14 fun t86 =>
       Y0 prog (J5 .len #[Z4] Q0 #[false] #[t86]) w14 fun t87 =>
       M0 prog (Y4 K4 t57 lv12.1) fun t91 =>
       Y0 prog (X0 U2 t91) w14 fun t92 =>
       upK prog (Z0 qC #[t92]) w14 fun t93 w15 =>
       upK prog (Z0 YA #[t20,t93]) w15 fun t94 w16 =>
       M0 prog (sUn .not t94) fun t95 =>
       ifB t95
       (K (.bool false) w16)
       (M0 prog (X4 t20) fun t98 =>
        M0 prog (O0 J4 t98 2) fun t99 =>
        Y0 prog (X0 Z4 t99) w16 fun t100 =>
        Y0 prog (J5 .len #[Z4] Q0 #[false] #[t100]) w16 fun t101 =>
        M0 prog (Y3 .gtr Q0 (.tmp 101) (.tmp 102) t101 t87) fun t103 =>
        ifB t103
        (M0 prog (X4 t20) fun t106 =>
        M0 prog (O0 J4 t106 2) fun t107 =>
        Y0 prog (X0 Z4 t107) w16 fun t108 =>
        M0 prog (Y4 Z4 t108 t87) fun t110 =>
        M0 prog (O0 Y1 t110 6) fun t111 =>
        Y0 prog (X0 Q0 t111) w16 fun t112 =>
        M0 prog (Y3 .leq Q0 (.tmp 112) (.tmp 113) t112 t82) fun t114 =>
        ifB t114
        (K (.bool false) w16)
        (M0 prog (X4 t20) fun t119 =>
         M0 prog (O0 J4 t119 0) fun t120 =>
         Y0 prog (X0 I8 t120) w16 fun t121 =>
         upK prog (Z0 W9 #[t121]) w16 fun t122 w17 =>
         M0 prog (Y3 .lss Q0 (.tmp 122) (.tmp 123) t122 t82) fun t124 =>
         ifB t124
         (K (.bool false) w17)
         (J2 (()) w17)))
        (M0 prog (X4 t20) fun t119_1 =>
        M0 prog (O0 J4 t119_1 0) fun t120_1 =>
        Y0 prog (X0 I8 t120_1) w16 fun t121_1 =>
        upK prog (Z0 W9 #[t121_1]) w16 fun t122_1 w18 =>
        M0 prog (Y3 .lss Q0 (.tmp 122) (.tmp 123) t122_1 t82) fun t124_1 =>
        ifB t124_1
        (K (.bool false) w18)
        (J2 (()) w18)))))
      (J1 (t57,()) w12))
      (t71,()) w11))))
    (Y0 prog (X0 E5 c3) w7 fun t127 =>
    upK prog (Z0 OE #[t127]) w7 fun t128 w19 =>
    M0 prog (Y3 .eql tC (.tmp 129) (.const (.pointer none)) t128 (.pointer none)) fun t130 =>
    ifB t130
    (K (.bool false) w19)
    (LOOP (X:=Value×Unit) (fun lv20 w20 next20 =>
     Y0 prog (J5 .len #[K4] Q0 #[false] #[lv7.1]) w20 fun t133 =>
     M0 prog (Y3 .lss Q0 (.tmp 131) (.tmp 133) lv20.1 t133) fun t134 =>
     ifB t134
     (M0 prog (Y4 K4 lv7.1 lv20.1) fun t140 =>
      Y0 prog (X0 U2 t140) w20 fun t141 =>
      upK prog (Z0 qC #[t141]) w20 fun t142 w21 =>
      upK prog (Z0 YA #[t128,t142]) w21 fun t143 w22 =>
      M0 prog (sUn .not t143) fun t144 =>
      ifB t144
      (K (.bool false) w22)
      (M0 prog (Y3 .add Q0 (.tmp 135) (.const (.int .i64 1)) lv20.1 (.int .i64 1)) fun t136 =>
      next20 (t136,()) w22))
     (ifB t18
      (M0 prog (X4 t20) fun t148 =>
      M0 prog (O0 J4 t148 2) fun t149 =>
      Y0 prog (X0 Z4 t149) (tick w20) fun t150 =>
      upK prog (Z0 wK #[t150]) (tick w20) fun t151 w23 =>
      ifB t151
      (M0 prog (X4 t20) fun t155 =>
       M0 prog (O0 J4 t155 0) fun t156 =>
       Y0 prog (X0 I8 t156) w23 fun t157 =>
       M0 prog (X4 t128) fun t160 =>
       M0 prog (O0 J4 t160 0) fun t161 =>
       Y0 prog (X0 I8 t161) w23 fun t162 =>
       upK prog (Z0 YF #[t157]) w23 fun t158 w24 =>
       Is prog (X0 I8 t161) t162 w24∧upK prog (Z0 YF #[t162]) w24 fun t163 w25 =>
       M0 prog (Y3 .eql U2 (.tmp 158) (.tmp 163) t158 t163) fun t164 =>
       ifB t164
       (M0 prog (X4 t20) fun t168 =>
       M0 prog (O0 J4 t168 1) fun t169 =>
       Y0 prog (X0 L9 t169) w25 fun t170 =>
       M0 prog (X4 t128) fun t173 =>
       M0 prog (O0 J4 t173 1) fun t174 =>
       Y0 prog (X0 L9 t174) w25 fun t175 =>
       upK prog (Z0 zG #[t170]) w25 fun t171 w26 =>
       Is prog (X0 L9 t174) t175 w26∧upK prog (Z0 zG #[t175]) w26 fun t176 w27 =>
       M0 prog (Y3 .eql U2 (.tmp 171) (.tmp 176) t171 t176) fun t177 =>
       ifB t177
       (M0 prog (X4 t20) fun t181 =>
        M0 prog (O0 J4 t181 0) fun t182 =>
        Y0 prog (X0 I8 t182) w27 fun t183 =>
        M0 prog (X4 t20) fun t186 =>
        M0 prog (O0 J4 t186 2) fun t187 =>
        Y0 prog (X0 Z4 t187) w27 fun t188 =>
        Y0 prog (J5 .len #[Z4] Q0 #[false] #[t188]) w27 fun t189 =>
        upK prog (Z0 BK #[t183]) w27 fun t184 w28 =>
        Is prog (J5 .len #[Z4] Q0 #[false] #[t188]) t189 w28∧Is prog (X0 Z4 t187) t188 w28∧Is prog (X0 Z4 t149) t150 w28∧M0 prog (Y3 .eql Q0 (.tmp 184) (.tmp 189) t184 t189) fun t190 =>
        K t190 w28)
       (K (.bool false) w27))
       (K (.bool false) w25))
      (K (.bool false) w23))
      (K (.bool false) (tick w20))))
     ((.int .i64 0),()) w19)))
   ((.slice none 0 0),(.int .i64 0),()) w6))))
theorem OB.EQ:OB.pt=fun c0 entries1 l2 w K=>FN prog Tryz.f3 (WS Tryz.f3) [6] (.node none .leaf (.node none .leaf (.node none .leaf (.node none .leaf (.node none .leaf (.node none .leaf (.node none (.node none .leaf (.node none (.node none (.node none .leaf (.node (some [10]) (.node none (.node none .leaf (.node none .leaf (.node none .leaf (.node none .leaf (.node none (.node none .leaf (.node none (.node none (.node none .leaf (.node (some []) .leaf .leaf)) .leaf) .leaf)) .leaf))))) .leaf) .leaf)) .leaf) .leaf)) .leaf))))))) [c0,entries1,l2] w K:=by kernel_rfl
theorem OB.call{c0 entries1 l2:Value}{w:World}{K:Value→World→Prop}(h:OB.pt c0 entries1 l2 w K):Calls prog aD #[c0,entries1,l2] w (EP K) :=
 jM (args:=[c0,entries1,l2]) Tryz.func3 (by kernel_rfl) (by rw[OB.EQ] at h;exact h)
def tH.pt(w:World)(K:PtK):Prop :=
 upK prog (Z0 OT #[]) w fun t8 w1 =>
 M0 prog (G6 E5 #[(2,(.int .i64 5)),(3,(.int .i64 50)),(4,(.int .i64 1))]) fun t9 =>
 upK prog (Z0 OE #[t9]) w1 fun t10 w2 =>
 M0 prog (Y3 .eql aC (.tmp 11) (.const (.pointer none)) t8 (.pointer none)) fun t12 =>
 ifB t12
 (K (.bool false) w2)
 (M0 prog (Y3 .eql tC (.tmp 14) (.const (.pointer none)) t10 (.pointer none)) fun t15 =>
  ifB t15
  (K (.bool false) w2)
  (M0 prog (G6 R3 #[(1,(.int .i64 3))]) fun t17 =>
  upK prog (P6 G5 1 #[(0,t17)]) w2 fun t18 w3 =>
  M0 prog (G6 Y1 #[(1,(.int .i64 1)),(4,(.string ⟨#[115]⟩)),(5,(.int .i64 1)),(6,(.int .i64 7)),(7,t18)]) fun t19 =>
  upK prog (I7 Y1) w3 fun e3 w4 =>
  upK prog (F4 Y1 e3 t19) w4 fun tu w5 =>
  upK prog (Z0 UD #[t8,(.int .i64 0),(.int .i64 99)]) w5 fun t21 w6 =>
  Y0 prog (X0 Y1 e3) w6 fun t23 =>
  upK prog (Z0 TA #[t23]) w6 fun t24 w7 =>
  upK prog (Z0 lD #[t8,(.int .i64 0),t24]) w7 fun t25 w8 =>
  Y0 prog (X0 Y1 e3) w8 fun t27 =>
  upK prog (Z0 TA #[t27]) w8 fun t28 w9 =>
  upK prog (Z0 lD #[t8,(.int .i64 0),t28]) w9 fun t29 w10 =>
  upK prog (Z0 UD #[t8,(.int .i64 0),(.int .i64 99)]) w10 fun t31 w11 =>
  upK prog (Z0 nE #[t8]) w11 fun t33 w12 =>
  Y0 prog (J5 .len #[K4] Q0 #[false] #[t33]) w12 fun t35 =>
  M0 prog (Y3 .neq Q0 (.tmp 35) (.const (.int .i64 2)) t35 (.int .i64 2)) fun t36 =>
  ifB t36
  (K (.bool false) w12)
  (M0 prog (Y4 K4 t33 (.int .i64 0)) fun t39 =>
   Y0 prog (X0 U2 t39) w12 fun t40 =>
   upK prog (Z0 qC #[t40]) w12 fun t41 w13 =>
   upK prog (Z0 YA #[t10,t41]) w13 fun t42 w14 =>
   M0 prog (X4 t10) fun t45 =>
   M0 prog (O0 J4 t45 0) fun t46 =>
   Y0 prog (X0 I8 t46) (tick w14) fun t47 =>
   M0 prog (Y4 K4 t33 (.int .i64 1)) fun t49 =>
   Y0 prog (X0 U2 t49) (tick w14) fun t50 =>
   upK prog (Z0 qC #[t50]) (tick w14) fun t51 w15 =>
   Is prog (X0 I8 t46) t47 w15∧upK prog (Z0 XF #[t47,t51]) w15 fun t52 w16 =>
   M0 prog (R5 t52 0) fun t53 =>
   M0 prog (R5 t52 1) fun t54 =>
   ifB t42
   (M0 prog (X4 t10) fun t58 =>
   M0 prog (O0 J4 t58 2) fun t59 =>
   Y0 prog (X0 Z4 t59) (tick w16) fun t60 =>
   Y0 prog (J5 .len #[Z4] Q0 #[false] #[t60]) (tick w16) fun t61 =>
   M0 prog (Y3 .eql Q0 (.tmp 61) (.const (.int .i64 1)) t61 (.int .i64 1)) fun t62 =>
   ifB t62
   (M0 prog (X4 t10) fun t66 =>
    M0 prog (O0 J4 t66 1) fun t67 =>
    Y0 prog (X0 L9 t67) (tick w16) fun t68 =>
    upK prog (Z0 qH #[t68]) (tick w16) fun t69 w17 =>
    M0 prog (Y3 .eql Q0 (.tmp 69) (.const (.int .i64 1)) t69 (.int .i64 1)) fun t70 =>
    ifB t70
    (M0 prog (Y3 .eql Q0 (.tmp 73) (.const (.int .i64 0)) t53 (.int .i64 0)) fun t74 =>
    ifB t74
    (M0 prog (Y3 .eql Z6 (.tmp 77) (.const (.int .i64 5)) t54 (.int .i64 5)) fun t78 =>
     ifB t78
     (M0 prog (X4 t10) fun t82 =>
     M0 prog (O0 J4 t82 0) fun t83 =>
     Y0 prog (X0 I8 t83) w17 fun t84 =>
     upK prog (Z0 W9 #[t84]) w17 fun t85 w18 =>
     Is prog (J5 .len #[Z4] Q0 #[false] #[t60]) t61 w18∧Is prog (X0 Z4 t59) t60 w18∧M0 prog (Y3 .eql Q0 (.tmp 85) (.const (.int .i64 1)) t85 (.int .i64 1)) fun t86 =>
     ifB t86
     (Y0 prog (X0 Y1 e3) w18 fun t90 =>
      Y0 prog (X0 Y1 e3) w18 fun t92 =>
      upK prog (Z0 TA #[t90]) w18 fun t91 w19 =>
      Is prog (X0 Y1 e3) t92 w19∧Is prog (X0 L9 t67) t68 w19∧Is prog (J5 .len #[Z4] Q0 #[false] #[t60]) t61 w19∧Is prog (X0 Z4 t59) t60 w19∧upK prog (Z0 TA #[t92]) w19 fun t93 w20 =>
      Is prog (X0 L9 t67) t68 w20∧Is prog (J5 .len #[Z4] Q0 #[false] #[t60]) t61 w20∧Is prog (X0 Z4 t59) t60 w20∧upK prog (P6 K4 2 #[(0,t91),(1,t93)]) w20 fun t94 w21 =>
      Is prog (X0 L9 t67) t68 w21∧Is prog (J5 .len #[Z4] Q0 #[false] #[t60]) t61 w21∧Is prog (X0 Z4 t59) t60 w21∧upK prog (Z0 mE #[t33,t94]) w21 fun t95 w22 =>
      Is prog (X0 L9 t67) t68 w22∧Is prog (J5 .len #[Z4] Q0 #[false] #[t60]) t61 w22∧Is prog (X0 Z4 t59) t60 w22∧K t95 w22)
     (K (.bool false) w18))
     (K (.bool false) w17))
    (K (.bool false) w17))
    (K (.bool false) w17))
   (K (.bool false) (tick w16)))
   (K (.bool false) (tick w16)))))
theorem tH.up(h:tH.pt  w K):upK prog (Z0 SF #[]) w K :=
 upF [0] .leaf [] Tryz.func5 h
def UJ.pt(c0:Value)(w:World)(K:PtK):Prop :=
 upK prog (yC E5 c0) w fun c1 w1 =>
 Y0 prog (X0 E5 c1) (tick w1) fun t4 =>
 upK prog (Z0 KJ #[]) (tick w1) fun t5 w2 =>
 Is prog (X0 E5 c1) t4 w2∧upK prog (Z0 zV #[t4,t5]) w2 fun t6 w3 =>
 upK prog (Z0 BV #[(.int .i64 0)]) w3 fun t7 w4 =>
 M0 prog (G6 J4 #[(0,t6),(1,t7)]) fun t8 =>
 upK prog (yC J4 t8) w4 fun t9 w5 =>
 M0 prog (X4 t9) fun t11 =>
 M0 prog (O0 J4 t11 0) fun t12 =>
 Y0 prog (X0 I8 t12) w5 fun t13 =>
 M0 prog (Y3 .eql I8 (.tmp 13) (.const (.pointer none)) t13 (.pointer none)) fun t14 =>
 ifB t14
 (K (.pointer none) w5)
 (M0 prog (X4 t9) fun t17 =>
  M0 prog (O0 J4 t17 1) fun t18 =>
  Y0 prog (X0 L9 t18) w5 fun t19 =>
  M0 prog (Y3 .eql L9 (.tmp 19) (.const (.pointer none)) t19 (.pointer none)) fun t20 =>
  ifB t20
  (K (.pointer none) w5)
  (K t9 w5))
theorem UJ.up{c0:Value}(h:UJ.pt c0 w K):upK prog (Z0 OE #[c0]) w K :=
 upF [2] .leaf [c0] Tryz.func6 h
def bY.pt(w:World)(K:PtK):Prop :=
 upK prog (Z0 Qc0 #[]) w fun t3 w1 =>
 M0 prog (G6 Q3 #[(1,t3)]) fun t4 =>
 upK prog (yC Q3 t4) w1 fun t5 w2 =>
 LOOP (X:=Value×Unit) (fun lv3 w3 next3 =>
  M0 prog (Y3 .lss Q0 (.tmp 6) (.const (.int .i64 3)) lv3.1 (.int .i64 3)) fun t7 =>
  ifB t7
  (M0 prog (X4 t5) fun t12 =>
  M0 prog (O0 Q3 t12 0) fun t13 =>
  upK prog (Z0 oZ #[]) (tick w3) fun t11 w4 =>
  M0 prog (Y4 E_ t13 lv3.1) fun t14 =>
  M0 prog (O0 I6 t14 0) fun t15 =>
  upK prog (F4 b_ t15 t11) w4 fun tu w5 =>
  M0 prog (X4 t5) fun t18 =>
  M0 prog (O0 Q3 t18 0) fun t19 =>
  M0 prog (Y4 E_ t19 lv3.1) fun t20 =>
  upK prog (Z0 PE #[t20,lv3.1]) w5 fun t22 w6 =>
  M0 prog (Y3 .add Q0 (.tmp 6) (.const (.int .i64 1)) lv3.1 (.int .i64 1)) fun t23 =>
  next3 (t23,()) w6)
  (K t5 w3))
 ((.int .i64 0),()) w2
theorem bY.up(h:bY.pt  w K):upK prog (Z0 OT #[]) w K :=
 upF [0] .leaf [] Tryz.func7 h
def RJ.pt(l0 n1:Value)(w:World)(K:PtK):Prop :=
 TE (X:=Unit) (fun jv1 w1 =>
  Y0 prog (J5 .len #[Z4] Q0 #[false] #[l0]) w1 fun t56 =>
  M0 prog (Y3 .leq Q0 (.tmp 56) (.tmp 57) t56 n1) fun t58 =>
  K t58 w1)
 (fun J1 =>
  LOOP (X:=Value×Unit) (fun lv2 w2 next2 =>
  Y0 prog (J5 .len #[Z4] Q0 #[false] #[l0]) w2 fun t9 =>
  M0 prog (Y3 .lss Q0 (.tmp 7) (.tmp 9) lv2.1 t9) fun t10 =>
  ifB t10
  (M0 prog (Y3 .leq Q0 (.tmp 12) (.tmp 13) lv2.1 n1) fun t14 =>
   ifB t14
   (TE (X:=Unit) (fun jv2 w3 =>
    M0 prog (Y3 .add Q0 (.tmp 16) (.const (.int .i64 1)) lv2.1 (.int .i64 1)) fun t17 =>
    next2 (t17,()) w3)
   (fun J2 =>
    M0 prog (Y4 Z4 l0 lv2.1) fun t20 =>
    M0 prog (O0 Y1 t20 7) fun t21 =>
    Y0 prog (X0 G5 t21) w2 fun t22 =>
    Y0 prog (J5 .len #[G5] Q0 #[false] #[t22]) w2 fun t23 =>
    M0 prog (Y3 .gtr Q0 (.tmp 23) (.const (.int .i64 3)) t23 (.int .i64 3)) fun t24 =>
    ifB t24
    (K (.bool false) w2)
    (M0 prog (Y4 Z4 l0 lv2.1) fun t28 =>
    M0 prog (O0 Y1 t28 4) fun t29 =>
    Y0 prog (X0 U2 t29) w2 fun t30 =>
    Y0 prog (J5 .len #[U2] Q0 #[false] #[t30]) w2 fun t31 =>
    M0 prog (Y3 .gtr Q0 (.tmp 31) (.const (.int .i64 20)) t31 (.int .i64 20)) fun t32 =>
    ifB t32
    (K (.bool false) w2)
    (LOOP (X:=Value×Unit) (fun lv4 w4 next4 =>
     M0 prog (Y4 Z4 l0 lv2.1) fun t37 =>
     M0 prog (O0 Y1 t37 7) fun t38 =>
     Y0 prog (X0 G5 t38) w4 fun t39 =>
     Y0 prog (J5 .len #[G5] Q0 #[false] #[t39]) w4 fun t40 =>
     M0 prog (Y3 .lss Q0 (.tmp 34) (.tmp 40) lv4.1 t40) fun t41 =>
     ifB t41
     (M0 prog (Y4 Z4 l0 lv2.1) fun t46 =>
      M0 prog (O0 Y1 t46 7) fun t47 =>
      Y0 prog (X0 G5 t47) w4 fun t48 =>
      M0 prog (Y4 G5 t48 lv4.1) fun t50 =>
      M0 prog (O0 R3 t50 2) fun t51 =>
      Y0 prog (X0 U2 t51) w4 fun t52 =>
      Y0 prog (J5 .len #[U2] Q0 #[false] #[t52]) w4 fun t53 =>
      M0 prog (Y3 .gtr Q0 (.tmp 53) (.const (.int .i64 20)) t53 (.int .i64 20)) fun t54 =>
      ifB t54
      (K (.bool false) w4)
      (M0 prog (Y3 .add Q0 (.tmp 42) (.const (.int .i64 1)) lv4.1 (.int .i64 1)) fun t43 =>
      next4 (t43,()) w4))
     (J2 (()) w4))
     ((.int .i64 0),()) w2))))
   (J1 (()) w2))
  (J1 (()) w2))
  ((.int .i64 0),()) w)
theorem RJ.up{l0 n1:Value}(h:RJ.pt l0 n1 w K):upK prog (Z0 PL #[l0,n1]) w K :=
 upF [4] (.node none .leaf (.node (some []) (.node none .leaf (.node none (.node none (.node none .leaf (.node (some []) .leaf .leaf)) .leaf) .leaf)) .leaf)) [l0,n1] Tryz.func8 h
def ZI.pt(l0 n1:Value)(w:World)(K:PtK):Prop :=
 TE (X:=Unit) (fun jv1 w1 =>
  Y0 prog (J5 .len #[AA] Q0 #[false] #[l0]) w1 fun t25 =>
  M0 prog (Y3 .leq Q0 (.tmp 25) (.tmp 26) t25 n1) fun t27 =>
  K t27 w1)
 (fun J1 =>
  LOOP (X:=Value×Unit) (fun lv2 w2 next2 =>
  Y0 prog (J5 .len #[AA] Q0 #[false] #[l0]) w2 fun t8 =>
  M0 prog (Y3 .lss Q0 (.tmp 6) (.tmp 8) lv2.1 t8) fun t9 =>
  ifB t9
  (M0 prog (Y3 .leq Q0 (.tmp 11) (.tmp 12) lv2.1 n1) fun t13 =>
   ifB t13
   (M0 prog (Y4 AA l0 lv2.1) fun t19 =>
   M0 prog (O0 H6 t19 4) fun t20 =>
   Y0 prog (X0 J6 t20) w2 fun t21 =>
   Y0 prog (J5 .len #[J6] Q0 #[false] #[t21]) w2 fun t22 =>
   M0 prog (Y3 .gtr Q0 (.tmp 22) (.const (.int .i64 20)) t22 (.int .i64 20)) fun t23 =>
   ifB t23
   (K (.bool false) w2)
   (M0 prog (Y3 .add Q0 (.tmp 15) (.const (.int .i64 1)) lv2.1 (.int .i64 1)) fun t16 =>
    next2 (t16,()) w2))
   (J1 (()) w2))
  (J1 (()) w2))
  ((.int .i64 0),()) w)
theorem ZI.up{l0 n1:Value}(h:ZI.pt l0 n1 w K):upK prog (Z0 vK #[l0,n1]) w K :=
 upF [4] (.node none .leaf (.node (some []) .leaf .leaf)) [l0,n1] Tryz.func9 h
def nL.pt(g0 o1 l2:Value)(w:World)(K:PtK):Prop :=
 upK prog (yC H6 o1) w fun o4 w1 =>
 M0 prog (O0 H6 o4 2) fun t7 =>
 Y0 prog (X0 Q0 t7) (tick w1) fun t8 =>
 upK prog (Z0 VF #[g0]) (tick w1) fun t10 w2 =>
 Is prog (X0 Q0 t7) t8 w2∧upK prog (Z0 bD #[t8,t10]) w2 fun t11 w3 =>
 M0 prog (O0 H6 o4 0) fun t12 =>
 Y0 prog (X0 Q0 t12) w3 fun t13 =>
 upK prog (Z0 bD #[t13,(.int .i64 14)]) w3 fun t14 w4 =>
 M0 prog (Y3 .eql Q0 (.tmp 14) (.const (.int .i64 0)) t14 (.int .i64 0)) fun t23 =>
 ifB t23
 (M0 prog (O0 H6 o4 1) fun t25 =>
  Y0 prog (X0 Q0 t25) w4 fun t26 =>
  upK prog (Z0 NI #[g0,t26]) w4 fun t27 w5 =>
  K (.tuple #[]) w5)
 (M0 prog (Y3 .eql Q0 (.tmp 14) (.const (.int .i64 1)) t14 (.int .i64 1)) fun t29 =>
  ifB t29
  (Y0 prog (J5 .len #[Z4] Q0 #[false] #[l2]) w4 fun t31 =>
  M0 prog (Y3 .gtr Q0 (.tmp 31) (.const (.int .i64 0)) t31 (.int .i64 0)) fun t32 =>
  ifB t32
  (M0 prog (O0 H6 o4 1) fun t34 =>
   Y0 prog (X0 Q0 t34) (tick w4) fun t35 =>
   M0 prog (O0 H6 o4 2) fun t37 =>
   Y0 prog (X0 Q0 t37) (tick w4) fun t38 =>
   Y0 prog (J5 .len #[Z4] Q0 #[false] #[l2]) (tick w4) fun t40 =>
   upK prog (Z0 bD #[t38,t40]) (tick w4) fun t41 w6 =>
   Is prog (X0 Q0 t34) t35 w6∧M0 prog (Y4 Z4 l2 t41) fun t42 =>
   Y0 prog (X0 Y1 t42) w6 fun t43 =>
   upK prog (Z0 TA #[t43]) w6 fun t44 w7 =>
   Is prog (X0 Q0 t34) t35 w7∧upK prog (Z0 lD #[g0,t35,t44]) w7 fun t45 w8 =>
   K (.tuple #[]) w8)
  (K (.tuple #[]) w4))
  (TE (X:=Value×Unit) (fun jv1 w9 =>
   ifB jv1.1
   (upK prog (Z0 UF #[g0,t11]) w9 fun t52 w10 =>
   K (.tuple #[]) w10)
   (M0 prog (Y3 .eql Q0 (.tmp 14) (.const (.int .i64 5)) t14 (.int .i64 5)) fun t54 =>
   ifB t54
   (upK prog (Z0 ZM #[g0,t11]) w9 fun t57 w11 =>
    K (.tuple #[]) w11)
   (M0 prog (Y3 .eql Q0 (.tmp 14) (.const (.int .i64 6)) t14 (.int .i64 6)) fun t59 =>
    ifB t59
    (upK prog (Z0 xK #[g0,t11]) w9 fun t62 w12 =>
    K (.tuple #[]) w12)
    (M0 prog (Y3 .eql Q0 (.tmp 14) (.const (.int .i64 7)) t14 (.int .i64 7)) fun t64 =>
    ifB t64
    (M0 prog (O0 H6 o4 2) fun t66 =>
     Y0 prog (X0 Q0 t66) w9 fun t67 =>
     upK prog (Z0 RL #[g0,t67]) w9 fun t68 w13 =>
     K (.tuple #[]) w13)
    (M0 prog (Y3 .eql Q0 (.tmp 14) (.const (.int .i64 8)) t14 (.int .i64 8)) fun t70 =>
     ifB t70
     (upK prog (Z0 aN #[g0]) w9 fun t72 w14 =>
     K (.tuple #[]) w14)
     (M0 prog (Y3 .eql Q0 (.tmp 14) (.const (.int .i64 9)) t14 (.int .i64 9)) fun t74 =>
     ifB t74
     (M0 prog (O0 H6 o4 1) fun t76 =>
      Y0 prog (X0 Q0 t76) w9 fun t77 =>
      M0 prog (O0 H6 o4 4) fun t78 =>
      Y0 prog (X0 J6 t78) w9 fun t79 =>
      upK prog (Z0 QL #[g0,t77,t79]) w9 fun t80 w15 =>
      K (.tuple #[]) w15)
     (M0 prog (Y3 .eql Q0 (.tmp 14) (.const (.int .i64 10)) t14 (.int .i64 10)) fun t82 =>
      ifB t82
      (M0 prog (O0 H6 o4 1) fun t84 =>
      Y0 prog (X0 Q0 t84) w9 fun t85 =>
      upK prog (Z0 SL #[g0,t85]) w9 fun t86 w16 =>
      K (.tuple #[]) w16)
      (M0 prog (Y3 .eql Q0 (.tmp 14) (.const (.int .i64 11)) t14 (.int .i64 11)) fun t88 =>
      ifB t88
      (M0 prog (O0 H6 o4 1) fun t90 =>
       Y0 prog (X0 Q0 t90) w9 fun t91 =>
       M0 prog (O0 H6 o4 2) fun t92 =>
       Y0 prog (X0 Q0 t92) w9 fun t93 =>
       upK prog (Z0 bN #[g0,t91,t93]) w9 fun t94 w17 =>
       K (.tuple #[]) w17)
      (M0 prog (Y3 .eql Q0 (.tmp 14) (.const (.int .i64 12)) t14 (.int .i64 12)) fun t96 =>
       ifB t96
       (M0 prog (O0 H6 o4 1) fun t98 =>
       Y0 prog (X0 Q0 t98) w9 fun t99 =>
       M0 prog (O0 H6 o4 2) fun t100 =>
       Y0 prog (X0 Q0 t100) w9 fun t101 =>
       M0 prog (O0 H6 o4 4) fun t102 =>
       Y0 prog (X0 J6 t102) w9 fun t103 =>
       upK prog (Z0 YN #[g0,t99,t101,t103]) w9 fun t104 w18 =>
       K (.tuple #[]) w18)
       (M0 prog (O0 H6 o4 1) fun t16 =>
       Y0 prog (X0 Q0 t16) (tick w9) fun t17 =>
       M0 prog (O0 H6 o4 2) fun t18 =>
       Y0 prog (X0 Q0 t18) (tick w9) fun t19 =>
       upK prog (Z0 bD #[t19,(.int .i64 100)]) (tick w9) fun t20 w19 =>
       Is prog (X0 Q0 t16) t17 w19∧upK prog (Z0 UD #[g0,t17,t20]) w19 fun t21 w20 =>
       K (.tuple #[]) w20))))))))))
  (fun J1 =>
   M0 prog (Y3 .eql Q0 (.tmp 14) (.const (.int .i64 2)) t14 (.int .i64 2)) fun t47 =>
   ifB t47
   (J1 (t47,()) w4)
   (M0 prog (Y3 .eql Q0 (.tmp 14) (.const (.int .i64 3)) t14 (.int .i64 3)) fun t48 =>
   ifB t48
   (J1 (t48,()) w4)
   (M0 prog (Y3 .eql Q0 (.tmp 14) (.const (.int .i64 4)) t14 (.int .i64 4)) fun t49 =>
    J1 (t49,()) w4)))))
theorem nL.up{g0 o1 l2:Value}(h:nL.pt g0 o1 l2 w K):upK prog (Z0 KI #[g0,o1,l2]) w K :=
 upF [] (.node none .leaf (.node none .leaf (.node none .leaf (.node none (.node none .leaf (.node none .leaf (.node none .leaf (.node none .leaf (.node (some [46]) .leaf .leaf))))) .leaf)))) [g0,o1,l2] Tryz.func10 h
def dG.pt(g0:Value)(w:World)(K:PtK):Prop :=
 M0 prog (X4 g0) fun t4 =>
 M0 prog (O0 Q3 t4 2) fun t5 =>
 Y0 prog (X0 K4 t5) w fun t6 =>
 upK prog (Z0 xD #[t6]) w fun t7 w1 =>
 K t7 w1
theorem dG.up{g0:Value}(h:dG.pt g0 w K):upK prog (Z0 nE #[g0]) w K :=
 upF [2] .leaf [g0] Tryz.func11 h
def bG.pt(a0 b1:Value)(w:World)(K:PtK):Prop :=
 Y0 prog (J5 .len #[K4] Q0 #[false] #[a0]) w fun t7 =>
 Y0 prog (J5 .len #[K4] Q0 #[false] #[b1]) w fun t9 =>
 M0 prog (Y3 .neq Q0 (.tmp 7) (.tmp 9) t7 t9) fun t10 =>
 ifB t10
 (K (.bool false) w)
 (LOOP (X:=Value×Unit) (fun lv1 w1 next1 =>
  Y0 prog (J5 .len #[K4] Q0 #[false] #[a0]) w1 fun t13 =>
  M0 prog (Y3 .lss Q0 (.tmp 11) (.tmp 13) lv1.1 t13) fun t14 =>
  ifB t14
  (M0 prog (Y4 K4 a0 lv1.1) fun t19 =>
   Y0 prog (X0 U2 t19) (tick w1) fun t20 =>
   M0 prog (Y4 K4 b1 lv1.1) fun t23 =>
   Y0 prog (X0 U2 t23) (tick w1) fun t24 =>
   M0 prog (Y3 .neq U2 (.tmp 20) (.tmp 24) t20 t24) fun t25 =>
   ifB t25
   (K (.bool false) (tick w1))
   (M0 prog (Y3 .add Q0 (.tmp 15) (.const (.int .i64 1)) lv1.1 (.int .i64 1)) fun t16 =>
   next1 (t16,()) (tick w1)))
  (K (.bool true) w1))
  ((.int .i64 0),()) w)
theorem bG.up{a0 b1:Value}(h:bG.pt a0 b1 w K):upK prog (Z0 mE #[a0,b1]) w K :=
 upF [4] .leaf [a0,b1] Tryz.func12 h
def KG.pt(x0:Value)(w:World)(K:PtK):Prop :=
 M0 prog (X4 x0) fun t4 =>
 M0 prog (O0 X3 t4 3) fun t5 =>
 Y0 prog (X0 Q0 t5) (tick w) fun t6 =>
 M0 prog (X4 x0) fun t8 =>
 M0 prog (O0 X3 t8 0) fun t9 =>
 M0 prog (O0 E5 t9 2) fun t10 =>
 Y0 prog (X0 Q0 t10) (tick w) fun t11 =>
 M0 prog (Y3 .sub Q0 (.tmp 6) (.tmp 11) t6 t11) fun t12 =>
 M0 prog (Y3 .sub Q0 (.tmp 12) (.const (.int .i64 1)) t12 (.int .i64 1)) fun t13 =>
 M0 prog (J5 .max #[Q0,Q0] Q0 #[true,false] #[(.int .i64 (-1)),t13]) fun t14 =>
 K t14 (tick w)
theorem KG.up{x0:Value}(h:KG.pt x0 w K):upK prog (Z0 W9 #[x0]) w K :=
 upF [2] .leaf [x0] Tryz.func13 h
def iD.pt(x0 e1:Value)(w:World)(K:PtK):Prop :=
 upK prog (yC Y1 e1) w fun e3 w1 =>
 M0 prog (X4 x0) fun t9 =>
 M0 prog (O0 J4 t9 0) fun t10 =>
 Y0 prog (X0 I8 t10) (tick w1) fun t11 =>
 Y0 prog (X0 Y1 e3) (tick w1) fun t12 =>
 upK prog (Z0 XF #[t11,t12]) (tick w1) fun t13 w2 =>
 M0 prog (R5 t13 0) fun t14 =>
 M0 prog (R5 t13 1) fun t15 =>
 M0 prog (O0 Y1 e3 0) fun t16 =>
 Y0 prog (X0 Q0 t16) w2 fun t17 =>
 M0 prog (Y3 .neq Q0 (.tmp 17) (.const (.int .i64 0)) t17 (.int .i64 0)) fun t18 =>
 ifB t18
 (K (.bool true) w2)
 (M0 prog (Y3 .neq Z6 (.tmp 20) (.const (.int .i64 0)) t15 (.int .i64 0)) fun t21 =>
  ifB t21
  (K (.bool true) w2)
  (M0 prog (X4 x0) fun t25 =>
  M0 prog (O0 J4 t25 2) fun t26 =>
  Y0 prog (X0 Z4 t26) (tick w2) fun t27 =>
  Y0 prog (X0 Y1 e3) (tick w2) fun t28 =>
  upK prog (P6 Z4 1 #[(0,t28)]) (tick w2) fun t29 w3 =>
  Is prog (X0 Z4 t26) t27 w3∧upK prog (J5 .append #[Z4,Z4] Z4 #[false,false] #[t27,t29]) w3 fun t30 w4 =>
  M0 prog (X4 x0) fun t31 =>
  M0 prog (O0 J4 t31 2) fun t32 =>
  upK prog (F4 Z4 t32 t30) w4 fun tu w5 =>
  M0 prog (X4 x0) fun t34 =>
  M0 prog (O0 J4 t34 1) fun t35 =>
  Y0 prog (X0 L9 t35) (tick w5) fun t36 =>
  M0 prog (O0 Y1 e3 4) fun t38 =>
  Y0 prog (X0 U2 t38) (tick w5) fun t39 =>
  M0 prog (O0 Y1 e3 5) fun t40 =>
  Y0 prog (X0 Q0 t40) (tick w5) fun t41 =>
  M0 prog (O0 Y1 e3 6) fun t42 =>
  Y0 prog (X0 Q0 t42) (tick w5) fun t43 =>
  M0 prog (O0 Y1 e3 7) fun t44 =>
  Y0 prog (X0 G5 t44) (tick w5) fun t45 =>
  M0 prog (G6 X5 #[(1,t14),(2,t39),(3,t41),(4,t43),(5,t45)]) fun t46 =>
  upK prog (Z0 WI #[t36,t46]) (tick w5) fun t47 w6 =>
  M0 prog (Y3 .eql Z6 (.tmp 47) (.const (.int .i64 0)) t47 (.int .i64 0)) fun t48 =>
  K t48 w6))
theorem iD.up{x0 e1:Value}(h:iD.pt x0 e1 w K):upK prog (Z0 YA #[x0,e1]) w K :=
 upF [4] .leaf [x0,e1] Tryz.func14 h
def bJ.pt(s0:Value)(w:World)(K:PtK):Prop :=
 upK prog (I7 Y1) w fun t2 w1 =>
 upK prog (Z0 iB #[s0]) w1 fun t9 w2 =>
 M0 prog (G6 Y1 #[(0,(.int .i64 4))]) fun t10 =>
 upK prog (I7 Y1) w2 fun none4 w3 =>
 upK prog (F4 Y1 none4 t10) w3 fun tu w4 =>
 M0 prog (Y3 .eql VQ (.tmp 11) (.const (.pointer none)) t9 (.pointer none)) fun t12 =>
 ifB t12
 (Y0 prog (X0 Y1 none4) w4 fun t13 =>
  upK prog (F4 Y1 t2 t13) w4 fun tu_1 w5 =>
  S9 prog (do loadVar Y1 (←asAddr t2)) w5 fun t2_1 =>
  K t2_1 w5)
 (upK prog (Z0 Y6 #[t9]) w4 fun t15 w6 =>
  M0 prog (G6 Y1 #[(0,t15)]) fun t16 =>
  upK prog (I7 Y1) w6 fun e5 w7 =>
  upK prog (F4 Y1 e5 t16) w7 fun tu_2 w8 =>
  upK prog (Z0 Y6 #[t9]) w8 fun t18 w9 =>
  M0 prog (O0 Y1 e5 1) fun t19 =>
  upK prog (F4 Q0 t19 t18) w9 fun tu_3 w10 =>
  upK prog (Z0 Y6 #[t9]) w10 fun t21 w11 =>
  M0 prog (O0 Y1 e5 2) fun t22 =>
  upK prog (F4 Q0 t22 t21) w11 fun tu_4 w12 =>
  upK prog (Z0 Y6 #[t9]) w12 fun t24 w13 =>
  M0 prog (O0 Y1 e5 3) fun t25 =>
  upK prog (F4 Q0 t25 t24) w13 fun tu_5 w14 =>
  upK prog (Z0 yA #[t9]) w14 fun t27 w15 =>
  M0 prog (O0 Y1 e5 4) fun t28 =>
  upK prog (F4 U2 t28 t27) w15 fun tu_6 w16 =>
  upK prog (Z0 Y6 #[t9]) w16 fun t30 w17 =>
  M0 prog (O0 Y1 e5 5) fun t31 =>
  upK prog (F4 Q0 t31 t30) w17 fun tu_7 w18 =>
  upK prog (Z0 Y6 #[t9]) w18 fun t33 w19 =>
  M0 prog (O0 Y1 e5 6) fun t34 =>
  upK prog (F4 Q0 t34 t33) w19 fun tu_8 w20 =>
  upK prog (Z0 yA #[t9]) w20 fun t37 w21 =>
  upK prog (Z0 SQ #[t37]) w21 fun t38 w22 =>
  M0 prog (R5 t38 0) fun t39 =>
  M0 prog (R5 t38 1) fun t40 =>
  M0 prog (O0 Y1 e5 7) fun t42 =>
  upK prog (F4 G5 t42 t39) w22 fun tu_9 w23 =>
  M0 prog (sUn .not t40) fun t44 =>
  ifB t44
  (Y0 prog (X0 Y1 none4) w23 fun t50 =>
  upK prog (F4 Y1 t2 t50) w23 fun tu_10 w24 =>
  S9 prog (do loadVar Y1 (←asAddr t2)) w24 fun t2_2 =>
  K t2_2 w24)
  (upK prog (Z0 jB #[t9]) w23 fun t47 w25 =>
  M0 prog (sUn .not t47) fun t48 =>
  ifB t48
  (Y0 prog (X0 Y1 none4) w25 fun t50_1 =>
   upK prog (F4 Y1 t2 t50_1) w25 fun tu_11 w26 =>
   S9 prog (do loadVar Y1 (←asAddr t2)) w26 fun t2_3 =>
   K t2_3 w26)
  (Y0 prog (X0 Y1 e5) w25 fun t51 =>
   upK prog (F4 Y1 t2 t51) w25 fun tu_12 w27 =>
   S9 prog (do loadVar Y1 (←asAddr t2)) w27 fun t2_4 =>
   K t2_4 w27)))
theorem bJ.up{s0:Value}(h:bJ.pt s0 w K):upK prog (Z0 qC #[s0]) w K :=
 upF [] .leaf [s0] Tryz.func15 h
def aJ.pt(l0:Value)(w:World)(K:PtK):Prop :=
 LOOP (X:=Value×Unit) (fun lv1 w1 next1 =>
  Y0 prog (J5 .len #[Z4] Q0 #[false] #[l0]) w1 fun t8 =>
  M0 prog (Y3 .lss Q0 (.tmp 6) (.tmp 8) lv1.1 t8) fun t9 =>
  ifB t9
  (TE (X:=Unit) (fun jv1 w2 =>
   M0 prog (Y3 .add Q0 (.tmp 10) (.const (.int .i64 1)) lv1.1 (.int .i64 1)) fun t11 =>
   next1 (t11,()) w2)
  (fun J1 =>
   LOOP (X:=Value×Value×Unit) (fun lv3 w3 next3 =>
   M0 prog (Y3 .lss Q0 (.tmp 12) (.tmp 13) lv3.2.1 lv1.1) fun t14 =>
   ifB t14
   (TE (X:=Value×Unit) (fun jv2 w4 =>
    M0 prog (Y3 .add Q0 (.tmp 15) (.const (.int .i64 1)) lv3.2.1 (.int .i64 1)) fun t16 =>
    next3 (jv2.1,t16,()) w4)
    (fun J2 =>
    M0 prog (Y4 Z4 l0 lv3.2.1) fun t19 =>
    M0 prog (O0 Y1 t19 1) fun t20 =>
    Y0 prog (X0 Q0 t20) (tick w3) fun t21 =>
    M0 prog (Y4 Z4 l0 lv1.1) fun t24 =>
    M0 prog (O0 Y1 t24 1) fun t25 =>
    Y0 prog (X0 Q0 t25) (tick w3) fun t26 =>
    M0 prog (Y3 .eql Q0 (.tmp 21) (.tmp 26) t21 t26) fun t27 =>
    ifB t27
    (M0 prog (Y4 Z4 l0 lv3.2.1) fun t31 =>
     M0 prog (O0 Y1 t31 2) fun t32 =>
     Y0 prog (X0 Q0 t32) (tick w3) fun t33 =>
     M0 prog (Y4 Z4 l0 lv1.1) fun t36 =>
     M0 prog (O0 Y1 t36 2) fun t37 =>
     Y0 prog (X0 Q0 t37) (tick w3) fun t38 =>
     M0 prog (Y3 .eql Q0 (.tmp 33) (.tmp 38) t33 t38) fun t39 =>
     ifB t39
     (M0 prog (Y3 .add Q0 (.tmp 41) (.const (.int .i64 1)) lv3.1 (.int .i64 1)) fun t42 =>
     J2 (t42,()) (tick w3))
     (J2 (lv3.1,()) (tick w3)))
    (J2 (lv3.1,()) (tick w3))))
   (M0 prog (Y4 Z4 l0 lv1.1) fun t45 =>
    M0 prog (O0 Y1 t45 3) fun t46 =>
    Y0 prog (X0 Q0 t46) w3 fun t47 =>
    M0 prog (Y3 .neq Q0 (.tmp 47) (.tmp 48) t47 lv3.1) fun t49 =>
    ifB t49
    (K (.bool false) w3)
    (J1 (()) w3)))
   ((.int .i64 0),(.int .i64 0),()) w1))
  (K (.bool true) w1))
 ((.int .i64 0),()) w
theorem aJ.up{l0:Value}(h:aJ.pt l0 w K):upK prog (Z0 wK #[l0]) w K :=
 upF [2] (.node none .leaf (.node none (.node none .leaf (.node none (.node none (.node none .leaf (.node (some []) (.node none (.node none .leaf (.node none (.node none .leaf (.node none (.node none (.node none .leaf (.node (some [4]) .leaf .leaf)) .leaf) .leaf)) .leaf)) .leaf) .leaf)) .leaf) .leaf)) .leaf)) [l0] Tryz.func16 h
def MH.pt(x0:Value)(w:World)(K:PtK):Prop :=
 M0 prog (X4 x0) fun t7 =>
 M0 prog (O0 X3 t7 2) fun t8 =>
 Y0 prog (X0 Q0 t8) (tick w) fun t9 =>
 M0 prog (X4 x0) fun t12 =>
 M0 prog (O0 X3 t12 3) fun t13 =>
 Y0 prog (X0 Q0 t13) (tick w) fun t14 =>
 M0 prog (X4 x0) fun t18 =>
 M0 prog (O0 X3 t18 4) fun t19 =>
 Y0 prog (X0 Q0 t19) (tick w) fun t20 =>
 M0 prog (X4 x0) fun t24 =>
 M0 prog (O0 X3 t24 5) fun t25 =>
 Y0 prog (X0 Q0 t25) (tick w) fun t26 =>
 M0 prog (X4 x0) fun t30 =>
 M0 prog (O0 X3 t30 6) fun t31 =>
 Y0 prog (X0 I4 t31) (tick w) fun t32 =>
 M0 prog (X4 x0) fun t37 =>
 M0 prog (O0 X3 t37 7) fun t38 =>
 Y0 prog (X0 D7 t38) (tick w) fun t39 =>
 upK prog (Z0 A8 #[t9]) (tick w) fun t10 w1 =>
 Is prog (X0 D7 t38) t39 w1∧Is prog (X0 I4 t31) t32 w1∧Is prog (X0 Q0 t25) t26 w1∧Is prog (X0 Q0 t19) t20 w1∧Is prog (X0 Q0 t13) t14 w1∧upK prog (Z0 A8 #[t14]) w1 fun t15 w2 =>
 Is prog (X0 D7 t38) t39 w2∧Is prog (X0 I4 t31) t32 w2∧Is prog (X0 Q0 t25) t26 w2∧Is prog (X0 Q0 t19) t20 w2∧M0 prog (Y3 .add U2 (.tmp 10) (.tmp 15) t10 t15) fun t16 =>
 upK prog (Z0 A8 #[t20]) w2 fun t21 w3 =>
 Is prog (X0 D7 t38) t39 w3∧Is prog (X0 I4 t31) t32 w3∧Is prog (X0 Q0 t25) t26 w3∧M0 prog (Y3 .add U2 (.tmp 16) (.tmp 21) t16 t21) fun t22 =>
 upK prog (Z0 A8 #[t26]) w3 fun t27 w4 =>
 Is prog (X0 D7 t38) t39 w4∧Is prog (X0 I4 t31) t32 w4∧M0 prog (Y3 .add U2 (.tmp 22) (.tmp 27) t22 t27) fun t28 =>
 upK prog (Z0 jP #[t32]) w4 fun t33 w5 =>
 Is prog (X0 D7 t38) t39 w5∧upK prog (Z0 pF #[t33]) w5 fun t34 w6 =>
 Is prog (X0 D7 t38) t39 w6∧M0 prog (Y3 .add U2 (.tmp 28) (.tmp 34) t28 t34) fun t35 =>
 Y0 prog (J5 .len #[D7] Q0 #[false] #[t39]) w6 fun t40 =>
 upK prog (Z0 dN #[t40]) w6 fun t41 w7 =>
 Is prog (X0 Q0 t13) t14 w7∧Is prog (X0 Q0 t8) t9 w7∧M0 prog (Y3 .add U2 (.tmp 35) (.tmp 41) t35 t41) fun t42 =>
 M0 prog (X4 x0) fun t44 =>
 M0 prog (O0 X3 t44 7) fun t45 =>
 Y0 prog (X0 D7 t45) w7 fun t46 =>
 upK prog (Z0 fD #[t46]) w7 fun t47 w8 =>
 upK prog (Z0 UL #[t47]) w8 fun t48 w9 =>
 Y0 prog (J5 .len #[J6] Q0 #[false] #[t48]) w9 fun t49 =>
 LOOP (X:=Value×Value×Unit) (fun lv10 w10 next10 =>
  M0 prog (Y3 .lss Q0 (.tmp 50) (.tmp 49) lv10.2.1 t49) fun t51 =>
  ifB t51
  (M0 prog (Y4 J6 t48 lv10.2.1) fun t52 =>
  Y0 prog (X0 Q0 t52) w10 fun t53 =>
  M0 prog (X4 x0) fun t58 =>
  M0 prog (O0 X3 t58 7) fun t59 =>
  Y0 prog (X0 D7 t59) (tick w10) fun t60 =>
  Y0 prog (lK D7 t60 t53 false) (tick w10) fun t62 =>
  upK prog (Z0 A8 #[t53]) (tick w10) fun t56 w11 =>
  Is prog (lK D7 t60 t53 false) t62 w11∧Is prog (X0 D7 t59) t60 w11∧upK prog (Z0 A8 #[t62]) w11 fun t63 w12 =>
  M0 prog (Y3 .add U2 (.tmp 56) (.tmp 63) t56 t63) fun t64 =>
  M0 prog (Y3 .add U2 (.tmp 54) (.tmp 64) lv10.1 t64) fun t65 =>
  M0 prog (Y3 .add Q0 (.tmp 50) (.const (.int .i64 1)) lv10.2.1 (.int .i64 1)) fun t66 =>
  next10 (t65,t66,()) w12)
  (K lv10.1 w10))
 (t42,(.int .i64 0),()) w9
theorem MH.up{x0:Value}(h:MH.pt x0 w K):upK prog (Z0 YF #[x0]) w K :=
 upF [2] .leaf [x0] Tryz.func17 h
def rJ.pt(s0:Value)(w:World)(K:PtK):Prop :=
 upK prog (I7 M5) w fun b3 w1 =>
 M0 prog (X4 s0) fun t7 =>
 M0 prog (O0 O8 t7 0) fun t8 =>
 Y0 prog (X0 Q0 t8) (tick w1) fun t9 =>
 M0 prog (X4 s0) fun t12 =>
 M0 prog (O0 O8 t12 1) fun t13 =>
 Y0 prog (X0 Q0 t13) (tick w1) fun t14 =>
 M0 prog (X4 s0) fun t18 =>
 M0 prog (O0 O8 t18 2) fun t19 =>
 Y0 prog (X0 Q0 t19) (tick w1) fun t20 =>
 M0 prog (X4 s0) fun t24 =>
 M0 prog (O0 O8 t24 3) fun t25 =>
 Y0 prog (X0 R7 t25) (tick w1) fun t26 =>
 Y0 prog (J5 .len #[R7] Q0 #[false] #[t26]) (tick w1) fun t27 =>
 upK prog (Z0 A8 #[t9]) (tick w1) fun t10 w2 =>
 Is prog (J5 .len #[R7] Q0 #[false] #[t26]) t27 w2∧Is prog (X0 R7 t25) t26 w2∧Is prog (X0 Q0 t19) t20 w2∧Is prog (X0 Q0 t13) t14 w2∧upK prog (Z0 A8 #[t14]) w2 fun t15 w3 =>
 Is prog (J5 .len #[R7] Q0 #[false] #[t26]) t27 w3∧Is prog (X0 R7 t25) t26 w3∧Is prog (X0 Q0 t19) t20 w3∧M0 prog (Y3 .add U2 (.tmp 10) (.tmp 15) t10 t15) fun t16 =>
 upK prog (Z0 A8 #[t20]) w3 fun t21 w4 =>
 Is prog (J5 .len #[R7] Q0 #[false] #[t26]) t27 w4∧Is prog (X0 R7 t25) t26 w4∧M0 prog (Y3 .add U2 (.tmp 16) (.tmp 21) t16 t21) fun t22 =>
 upK prog (Z0 dN #[t27]) w4 fun t28 w5 =>
 M0 prog (Y3 .add U2 (.tmp 22) (.tmp 28) t22 t28) fun t29 =>
 upK prog (Z0 u7 #[b3,t29]) w5 fun t30 w6 =>
 M0 prog (X4 s0) fun t32 =>
 M0 prog (O0 O8 t32 3) fun t33 =>
 Y0 prog (X0 R7 t33) w6 fun t34 =>
 Y0 prog (J5 .len #[R7] Q0 #[false] #[t34]) w6 fun t35 =>
 LOOP (X:=Value×Unit) (fun lv7 w7 next7 =>
  M0 prog (Y3 .lss Q0 (.tmp 36) (.tmp 35) lv7.1 t35) fun t37 =>
  ifB t37
  (M0 prog (Y4 R7 t34 lv7.1) fun t38 =>
  Y0 prog (X0 X5 t38) w7 fun t39 =>
  upK prog (I7 X5) w7 fun e5 w8 =>
  upK prog (F4 X5 e5 t39) w8 fun tu w9 =>
  M0 prog (O0 X5 e5 2) fun t40 =>
  Y0 prog (X0 U2 t40) (tick w9) fun t41 =>
  M0 prog (O0 X5 e5 3) fun t43 =>
  Y0 prog (X0 Q0 t43) (tick w9) fun t44 =>
  M0 prog (O0 X5 e5 4) fun t47 =>
  Y0 prog (X0 Q0 t47) (tick w9) fun t48 =>
  M0 prog (O0 X5 e5 5) fun t51 =>
  Y0 prog (X0 G5 t51) (tick w9) fun t52 =>
  upK prog (Z0 pF #[t41]) (tick w9) fun t42 w10 =>
  Is prog (X0 G5 t51) t52 w10∧Is prog (X0 Q0 t47) t48 w10∧Is prog (X0 Q0 t43) t44 w10∧upK prog (Z0 A8 #[t44]) w10 fun t45 w11 =>
  Is prog (X0 G5 t51) t52 w11∧Is prog (X0 Q0 t47) t48 w11∧M0 prog (Y3 .add U2 (.tmp 42) (.tmp 45) t42 t45) fun t46 =>
  upK prog (Z0 A8 #[t48]) w11 fun t49 w12 =>
  Is prog (X0 G5 t51) t52 w12∧M0 prog (Y3 .add U2 (.tmp 46) (.tmp 49) t46 t49) fun t50 =>
  upK prog (Z0 dL #[t52]) w12 fun t53 w13 =>
  upK prog (Z0 pF #[t53]) w13 fun t54 w14 =>
  M0 prog (Y3 .add U2 (.tmp 50) (.tmp 54) t50 t54) fun t55 =>
  upK prog (Z0 u7 #[b3,t55]) w14 fun t56 w15 =>
  M0 prog (Y3 .add Q0 (.tmp 36) (.const (.int .i64 1)) lv7.1 (.int .i64 1)) fun t57 =>
  next7 (t57,()) w15)
  (upK prog (Z0 H9 #[b3]) w7 fun t58 w16 =>
  K t58 w16))
 ((.int .i64 0),()) w6
theorem rJ.up{s0:Value}(h:rJ.pt s0 w K):upK prog (Z0 zG #[s0]) w K :=
 upF [2] .leaf [s0] Tryz.func18 h
def mJ.pt(x0:Value)(w:World)(K:PtK):Prop :=
 M0 prog (X4 x0) fun t4 =>
 M0 prog (O0 X3 t4 4) fun t5 =>
 Y0 prog (X0 Q0 t5) w fun t6 =>
 K t6 w
theorem mJ.up{x0:Value}(h:mJ.pt x0 w K):upK prog (Z0 BK #[x0]) w K :=
 upF [2] .leaf [x0] Tryz.func19 h
def sH.pt(w:World)(K:PtK):Prop :=
 M0 prog (G6 cB #[(0,(.string ⟨#[97]⟩))]) fun t1 =>
 upK prog (P6 NB 1 #[(0,t1)]) w fun t2 w1 =>
 M0 prog (G6 Y7 #[(0,(.string ⟨#[115]⟩)),(1,(.int .i64 1)),(2,t2)]) fun t3 =>
 upK prog (P6 O9 1 #[(0,t3)]) w1 fun t4 w2 =>
 K t4 w2
theorem sH.up(h:sH.pt  w K):upK prog (Z0 KJ #[]) w K :=
 upF [0] .leaf [] Tryz.func23 h
def kK.pt(s0:Value)(w:World)(K:PtK):Prop :=
 M0 prog (X4 s0) fun t4 =>
 M0 prog (O0 O8 t4 1) fun t5 =>
 Y0 prog (X0 Q0 t5) (tick w) fun t6 =>
 M0 prog (X4 s0) fun t8 =>
 M0 prog (O0 O8 t8 3) fun t9 =>
 Y0 prog (X0 R7 t9) (tick w) fun t10 =>
 Y0 prog (J5 .len #[R7] Q0 #[false] #[t10]) (tick w) fun t11 =>
 M0 prog (Y3 .add Q0 (.tmp 6) (.tmp 11) t6 t11) fun t12 =>
 K t12 (tick w)
theorem kK.up{s0:Value}(h:kK.pt s0 w K):upK prog (Z0 qH #[s0]) w K :=
 upF [2] .leaf [s0] Tryz.func25 h
def iJ.pt(g0 id1 most2:Value)(w:World)(K:PtK):Prop :=
 upK prog (Z0 NI #[g0,id1]) w fun t10 w1 =>
 TE (X:=Value×Unit) (fun jv1 w2 =>
  K jv1.1 w2)
 (fun J1 =>
  LOOP (X:=Value×Unit) (fun lv3 w3 next3 =>
  M0 prog (Y3 .lss Q0 (.tmp 11) (.tmp 12) lv3.1 most2) fun t13 =>
  ifB t13
  (upK prog (Z0 VF #[g0]) w3 fun t16 w4 =>
   M0 prog (Y3 .gtr Q0 (.tmp 16) (.const (.int .i64 0)) t16 (.int .i64 0)) fun t17 =>
   ifB t17
   (upK prog (Z0 UF #[g0,(.int .i64 0)]) w4 fun t20 w5 =>
   M0 prog (Y3 .add Q0 (.tmp 21) (.const (.int .i64 1)) lv3.1 (.int .i64 1)) fun t22 =>
   next3 (t22,()) w5)
   (J1 (lv3.1,()) w4))
  (J1 (lv3.1,()) w3))
  ((.int .i64 0),()) w1)
theorem iJ.up{g0 id1 most2:Value}(h:iJ.pt g0 id1 most2 w K):upK prog (Z0 UD #[g0,id1,most2]) w K :=
 upF [6] (.node none .leaf (.node none .leaf (.node none .leaf (.node (some [7]) .leaf .leaf)))) [g0,id1,most2] Tryz.func31 h
def BH.pt(g0 id1 data2:Value)(w:World)(K:PtK):Prop :=
 upK prog (Z0 aI #[g0,id1]) w fun t14 w1 =>
 M0 prog (Y3 .neq Z6 (.tmp 15) (.const (.int .i64 0)) t14 (.int .i64 0)) fun t16 =>
 ifB t16
 (K (.tuple #[(.int .i64 0),t14]) w1)
 (M0 prog (X4 g0) fun t21 =>
  M0 prog (O0 Q3 t21 0) fun t22 =>
  M0 prog (Y4 E_ t22 id1) fun t23 =>
  M0 prog (O0 I6 t23 3) fun t24 =>
  Y0 prog (X0 R6 t24) w1 fun t25 =>
  upK prog (Z0 lG #[t25,data2]) w1 fun t27 w2 =>
  M0 prog (R5 t27 0) fun t28 =>
  M0 prog (R5 t27 1) fun t29 =>
  M0 prog (R5 t27 2) fun t30 =>
  upK prog (I7 Y2) w2 fun o11 w3 =>
  upK prog (F4 Y2 o11 t30) w3 fun tu w4 =>
  TE (X:=Value×Unit) (fun jv1 w5 =>
  M0 prog (Y3 .neq Z6 (.tmp 37) (.const (.int .i64 0)) jv1.1 (.int .i64 0)) fun t38 =>
  ifB t38
  (K (.tuple #[(.int .i64 0),jv1.1]) w5)
  (K (.tuple #[t28,(.int .i64 0)]) w5))
  (fun J1 =>
  M0 prog (Y3 .eql Z6 (.tmp 31) (.const (.int .i64 0)) t29 (.int .i64 0)) fun t32 =>
  ifB t32
  (Y0 prog (X0 Y2 o11) w4 fun t35 =>
   upK prog (Z0 bL #[g0,id1,t35]) w4 fun t36 w6 =>
   J1 (t36,()) w6)
  (J1 (t29,()) w4)))
theorem BH.up{g0 id1 data2:Value}(h:BH.pt g0 id1 data2 w K):upK prog (Z0 lD #[g0,id1,data2]) w K :=
 upF [6,7] (.node none .leaf (.node none .leaf (.node none .leaf (.node (some [10]) .leaf .leaf)))) [g0,id1,data2] Tryz.func32 h
def rH.pt(e0:Value)(w:World)(K:PtK):Prop :=
 upK prog (yC Y1 e0) w fun e1 w1 =>
 M0 prog (O0 Y1 e1 0) fun t3 =>
 Y0 prog (X0 Q0 t3) (tick w1) fun t4 =>
 M0 prog (O0 Y1 e1 1) fun t6 =>
 Y0 prog (X0 Q0 t6) (tick w1) fun t7 =>
 M0 prog (O0 Y1 e1 2) fun t10 =>
 Y0 prog (X0 Q0 t10) (tick w1) fun t11 =>
 M0 prog (O0 Y1 e1 3) fun t14 =>
 Y0 prog (X0 Q0 t14) (tick w1) fun t15 =>
 M0 prog (O0 Y1 e1 4) fun t18 =>
 Y0 prog (X0 U2 t18) (tick w1) fun t19 =>
 M0 prog (O0 Y1 e1 5) fun t22 =>
 Y0 prog (X0 Q0 t22) (tick w1) fun t23 =>
 M0 prog (O0 Y1 e1 6) fun t26 =>
 Y0 prog (X0 Q0 t26) (tick w1) fun t27 =>
 M0 prog (O0 Y1 e1 7) fun t30 =>
 Y0 prog (X0 G5 t30) (tick w1) fun t31 =>
 upK prog (Z0 A8 #[t4]) (tick w1) fun t5 w2 =>
 Is prog (X0 G5 t30) t31 w2∧Is prog (X0 Q0 t26) t27 w2∧Is prog (X0 Q0 t22) t23 w2∧Is prog (X0 U2 t18) t19 w2∧Is prog (X0 Q0 t14) t15 w2∧Is prog (X0 Q0 t10) t11 w2∧Is prog (X0 Q0 t6) t7 w2∧upK prog (Z0 A8 #[t7]) w2 fun t8 w3 =>
 Is prog (X0 G5 t30) t31 w3∧Is prog (X0 Q0 t26) t27 w3∧Is prog (X0 Q0 t22) t23 w3∧Is prog (X0 U2 t18) t19 w3∧Is prog (X0 Q0 t14) t15 w3∧Is prog (X0 Q0 t10) t11 w3∧M0 prog (Y3 .add U2 (.tmp 5) (.tmp 8) t5 t8) fun t9 =>
 upK prog (Z0 A8 #[t11]) w3 fun t12 w4 =>
 Is prog (X0 G5 t30) t31 w4∧Is prog (X0 Q0 t26) t27 w4∧Is prog (X0 Q0 t22) t23 w4∧Is prog (X0 U2 t18) t19 w4∧Is prog (X0 Q0 t14) t15 w4∧M0 prog (Y3 .add U2 (.tmp 9) (.tmp 12) t9 t12) fun t13 =>
 upK prog (Z0 A8 #[t15]) w4 fun t16 w5 =>
 Is prog (X0 G5 t30) t31 w5∧Is prog (X0 Q0 t26) t27 w5∧Is prog (X0 Q0 t22) t23 w5∧Is prog (X0 U2 t18) t19 w5∧M0 prog (Y3 .add U2 (.tmp 13) (.tmp 16) t13 t16) fun t17 =>
 upK prog (Z0 pF #[t19]) w5 fun t20 w6 =>
 Is prog (X0 G5 t30) t31 w6∧Is prog (X0 Q0 t26) t27 w6∧Is prog (X0 Q0 t22) t23 w6∧M0 prog (Y3 .add U2 (.tmp 17) (.tmp 20) t17 t20) fun t21 =>
 upK prog (Z0 A8 #[t23]) w6 fun t24 w7 =>
 Is prog (X0 G5 t30) t31 w7∧Is prog (X0 Q0 t26) t27 w7∧M0 prog (Y3 .add U2 (.tmp 21) (.tmp 24) t21 t24) fun t25 =>
 upK prog (Z0 A8 #[t27]) w7 fun t28 w8 =>
 Is prog (X0 G5 t30) t31 w8∧Is prog (X0 Q0 t3) t4 w8∧M0 prog (Y3 .add U2 (.tmp 25) (.tmp 28) t25 t28) fun t29 =>
 upK prog (Z0 dL #[t31]) w8 fun t32 w9 =>
 Is prog (X0 Q0 t6) t7 w9∧Is prog (X0 Q0 t3) t4 w9∧upK prog (Z0 pF #[t32]) w9 fun t33 w10 =>
 Is prog (X0 Q0 t10) t11 w10∧Is prog (X0 Q0 t6) t7 w10∧Is prog (X0 Q0 t3) t4 w10∧M0 prog (Y3 .add U2 (.tmp 29) (.tmp 33) t29 t33) fun t34 =>
 K t34 w10
theorem rH.up{e0:Value}(h:rH.pt e0 w K):upK prog (Z0 TA #[e0]) w K :=
 upF [2] .leaf [e0] Tryz.func33 h
end
section
variable {w:World} {K:PtK}
def LH.pt(x0 e1:Value)(w:World)(K:PtK):Prop :=
 upK prog (yC Y1 e1) w fun e3 w1 =>
 M0 prog (O0 Y1 e3 0) fun t9 =>
 Y0 prog (X0 Q0 t9) w1 fun t10 =>
 M0 prog (Y3 .eql Q0 (.tmp 10) (.const (.int .i64 0)) t10 (.int .i64 0)) fun t12 =>
 ifB t12
 (Y0 prog (X0 Y1 e3) w1 fun t14 =>
  upK prog (Z0 SI #[x0,t14]) w1 fun t15 w2 =>
  M0 prog (R5 t15 0) fun t16 =>
  M0 prog (R5 t15 1) fun t17 =>
  K (.tuple #[t16,t17]) w2)
 (M0 prog (Y3 .eql Q0 (.tmp 10) (.const (.int .i64 1)) t10 (.int .i64 1)) fun t19 =>
  ifB t19
  (M0 prog (X4 x0) fun t22 =>
  M0 prog (O0 X3 t22 6) fun t23 =>
  Y0 prog (X0 I4 t23) (tick w1) fun t24 =>
  M0 prog (O0 Y1 e3 1) fun t25 =>
  Y0 prog (X0 Q0 t25) (tick w1) fun t26 =>
  upK prog (Z0 kP #[t24,t26]) (tick w1) fun t27 w3 =>
  M0 prog (R5 t27 0) fun t28 =>
  M0 prog (R5 t27 1) fun t29 =>
  M0 prog (R5 t27 2) fun t30 =>
  TE (X:=Unit) (fun jv1 w4 =>
   K (.tuple #[t29,t30]) w4)
  (fun J1 =>
   M0 prog (Y3 .eql Z6 (.tmp 31) (.const (.int .i64 0)) t30 (.int .i64 0)) fun t32 =>
   ifB t32
   (M0 prog (X4 x0) fun t35 =>
   M0 prog (O0 X3 t35 6) fun t36 =>
   upK prog (F4 I4 t36 t28) w3 fun tu w5 =>
   J1 (()) w5)
   (J1 (()) w3)))
  (TE (X:=Value×Unit) (fun jv2 w6 =>
   ifB jv2.1
   (M0 prog (O0 Y1 e3 6) fun t42 =>
   Y0 prog (X0 Q0 t42) w6 fun t43 =>
   upK prog (Z0 zM #[t43]) w6 fun t44 w7 =>
   M0 prog (sUn .not t44) fun t45 =>
   ifB t45
   (K (.tuple #[(.int .i64 0),(.int .i64 3)]) w7)
   (M0 prog (O0 Y1 e3 0) fun t46 =>
    Y0 prog (X0 Q0 t46) w7 fun t47 =>
    M0 prog (Y3 .eql Q0 (.tmp 47) (.const (.int .i64 3)) t47 (.int .i64 3)) fun t48 =>
    ifB t48
    (M0 prog (X4 x0) fun t51 =>
    M0 prog (O0 X3 t51 2) fun t52 =>
    Y0 prog (X0 Q0 t52) (tick w7) fun t53 =>
    M0 prog (O0 Y1 e3 6) fun t54 =>
    Y0 prog (X0 Q0 t54) (tick w7) fun t55 =>
    M0 prog (J5 .max #[Q0,Q0] Q0 #[false,false] #[t53,t55]) fun t56 =>
    M0 prog (X4 x0) fun t57 =>
    M0 prog (O0 X3 t57 2) fun t58 =>
    upK prog (F4 Q0 t58 t56) (tick w7) fun tu_1 w8 =>
    K (.tuple #[(.int .i64 0),(.int .i64 0)]) w8)
    (M0 prog (O0 Y1 e3 6) fun t59 =>
    Y0 prog (X0 Q0 t59) (tick w7) fun t60 =>
    M0 prog (X4 x0) fun t62 =>
    M0 prog (O0 X3 t62 2) fun t63 =>
    Y0 prog (X0 Q0 t63) (tick w7) fun t64 =>
    M0 prog (X4 x0) fun t66 =>
    M0 prog (O0 X3 t66 0) fun t67 =>
    M0 prog (O0 E5 t67 3) fun t68 =>
    Y0 prog (X0 Q0 t68) (tick w7) fun t69 =>
    M0 prog (Y3 .add Q0 (.tmp 64) (.tmp 69) t64 t69) fun t70 =>
    M0 prog (Y3 .gtr Q0 (.tmp 60) (.tmp 70) t60 t70) fun t71 =>
    ifB t71
    (K (.tuple #[(.int .i64 0),(.int .i64 21)]) (tick w7))
    (M0 prog (O0 Y1 e3 6) fun t73 =>
     Y0 prog (X0 Q0 t73) (tick w7) fun t74 =>
     upK prog (Z0 ZF #[x0,t74]) (tick w7) fun t75 w9 =>
     K (.tuple #[(.int .i64 0),(.int .i64 0)]) w9))))
   (K (.tuple #[(.int .i64 0),(.int .i64 1)]) w6))
  (fun J2 =>
   M0 prog (Y3 .eql Q0 (.tmp 10) (.const (.int .i64 2)) t10 (.int .i64 2)) fun t40 =>
   ifB t40
   (J2 (t40,()) w1)
   (M0 prog (Y3 .eql Q0 (.tmp 10) (.const (.int .i64 3)) t10 (.int .i64 3)) fun t41 =>
   J2 (t41,()) w1))))
theorem LH.up{x0 e1:Value}(h:LH.pt x0 e1 w K):upK prog (Z0 XF #[x0,e1]) w K :=
 upF [4,5] (.node none .leaf (.node none (.node none .leaf (.node none (.node none .leaf (.node none .leaf (.node none .leaf (.node none (.node none .leaf (.node (some []) .leaf .leaf)) (.node (some [39]) .leaf .leaf))))) .leaf)) .leaf)) [x0,e1] Tryz.func34 h
def XV.pt(c0 known1:Value)(w:World)(K:PtK):Prop :=
 upK prog (yC E5 c0) w fun c2 w1 =>
 Y0 prog (X0 E5 c2) w1 fun t6 =>
 upK prog (Z0 vS #[t6]) w1 fun t7 w2 =>
 M0 prog (sUn .not t7) fun t8 =>
 ifB t8
 (K (.pointer none) w2)
 (Y0 prog (X0 E5 c2) w2 fun t9 =>
  upK prog (Aj0 D7 none) w2 fun t10 w3 =>
  M0 prog (G6 X3 #[(0,t9),(3,(.int .i64 (-1))),(7,t10)]) fun t11 =>
  upK prog (yC X3 t11) w3 fun t12 w4 =>
  upK prog (Z0 zK #[t12,known1]) w4 fun t15 w5 =>
  K t12 w5)
theorem XV.up{c0 known1:Value}(h:XV.pt c0 known1 w K):upK prog (Z0 zV #[c0,known1]) w K :=
 upF [4] .leaf [c0,known1] Tryz.func35 h
def nW.pt(part0:Value)(w:World)(K:PtK):Prop :=
 M0 prog (G6 O8 #[(0,part0)]) fun t4 =>
 upK prog (yC O8 t4) w fun t5 w1 =>
 K t5 w1
theorem nW.up{part0:Value}(h:nW.pt part0 w K):upK prog (Z0 BV #[part0]) w K :=
 upF [2] .leaf [part0] Tryz.func36 h
def Sg0.pt(w:World)(K:PtK):Prop :=
 M0 prog (G6 y9 #[]) fun t1 =>
 upK prog (yC y9 t1) w fun t2 w1 =>
 K t2 w1
theorem Sg0.up(h:Sg0.pt  w K):upK prog (Z0 Qc0 #[]) w K :=
 upF [0] .leaf [] Tryz.func37 h
def Ba0.pt(w:World)(K:PtK):Prop :=
 upK prog (Aj0 u6 none) w fun t1 w1 =>
 upK prog (Aj0 K7 none) w1 fun t2 w2 =>
 M0 prog (G6 F5 #[(0,t1),(2,t2)]) fun t3 =>
 upK prog (yC F5 t3) w2 fun t4 w3 =>
 K t4 w3
theorem Ba0.up(h:Ba0.pt  w K):upK prog (Z0 oZ #[]) w K :=
 upF [0] .leaf [] Tryz.func38 h
def dK.pt(m0 id1:Value)(w:World)(K:PtK):Prop :=
 upK prog (yC P5 m0) w fun m2 w1 =>
 upK prog (I7 F7) w1 fun j5 w2 =>
 upK prog (I7 M8) w2 fun c6 w3 =>
 M0 prog (iG (.func mD) #[] #[m2]) fun t8 =>
 M0 prog (iG (.func nD) #[] #[m2,j5]) fun t9 =>
 M0 prog (iG (.func oD) #[] #[m2,c6]) fun t10 =>
 upK prog (P6 n_ 3 #[(0,t8),(1,t9),(2,t10)]) w3 fun t11 w4 =>
 upK prog (Z0 NP #[t11]) w4 fun t12 w5 =>
 TE (X:=Unit) (fun jv1 w6 =>
  K t12 w6)
 (fun J1 =>
  M0 prog (Y3 .eql Z6 (.tmp 13) (.const (.int .i64 0)) t12 (.int .i64 0)) fun t14 =>
  ifB t14
  (Y0 prog (X0 P5 m2) (tick w5) fun t15 =>
  Y0 prog (X0 P5 m2) (tick w5) fun t16 =>
  Y0 prog (X0 P5 m2) (tick w5) fun t17 =>
  Y0 prog (X0 F7 j5) (tick w5) fun t18 =>
  Y0 prog (X0 M8 c6) (tick w5) fun t19 =>
  Y0 prog (X0 M8 c6) (tick w5) fun t21 =>
  Y0 prog (X0 F7 j5) (tick w5) fun t23 =>
  upK prog (Z0 yV #[t21]) (tick w5) fun t22 w7 =>
  Is prog (X0 F7 j5) t23 w7∧Is prog (X0 M8 c6) t19 w7∧Is prog (X0 F7 j5) t18 w7∧Is prog (X0 P5 m2) t17 w7∧Is prog (X0 P5 m2) t16 w7∧Is prog (X0 P5 m2) t15 w7∧upK prog (Z0 PQ #[t23]) w7 fun t24 w8 =>
  Is prog (X0 M8 c6) t19 w8∧Is prog (X0 F7 j5) t18 w8∧Is prog (X0 P5 m2) t17 w8∧Is prog (X0 P5 m2) t16 w8∧Is prog (X0 P5 m2) t15 w8∧upK prog (Z0 pU #[id1,t22,t24]) w8 fun t25 w9 =>
  Is prog (X0 M8 c6) t19 w9∧Is prog (X0 F7 j5) t18 w9∧Is prog (X0 P5 m2) t17 w9∧Is prog (X0 P5 m2) t16 w9∧Is prog (X0 P5 m2) t15 w9∧M0 prog (X4 t15) fun t26 =>
  M0 prog (O0 I6 t26 1) fun t27 =>
  upK prog (F4 F7 t27 t18) w9 fun tu w10 =>
  Is prog (X0 M8 c6) t19 w10∧Is prog (X0 P5 m2) t17 w10∧Is prog (X0 P5 m2) t16 w10∧M0 prog (X4 t16) fun t28 =>
  M0 prog (O0 I6 t28 2) fun t29 =>
  upK prog (F4 M8 t29 t19) w10 fun tu_1 w11 =>
  Is prog (X0 P5 m2) t17 w11∧M0 prog (X4 t17) fun t30 =>
  M0 prog (O0 I6 t30 3) fun t31 =>
  upK prog (F4 R6 t31 t25) w11 fun tu_2 w12 =>
  J1 (()) w12)
  (J1 (()) w5))
theorem dK.up{m0 id1:Value}(h:dK.pt m0 id1 w K):upK prog (Z0 PE #[m0,id1]) w K :=
 upF [4] (.node none .leaf (.node none .leaf (.node none .leaf (.node none .leaf (.node (some []) .leaf .leaf))))) [m0,id1] Tryz.func39 h
def TJ.pt(n0 m1:Value)(w:World)(K:PtK):Prop :=
 M0 prog (Y3 .lss Q0 (.tmp 5) (.const (.int .i64 1)) m1 (.int .i64 1)) fun t6 =>
 ifB t6
 (K (.int .i64 0) w)
 (M0 prog (Y3 .rem Q0 (.tmp 7) (.tmp 8) n0 m1) fun t9 =>
  TE (X:=Value×Unit) (fun jv1 w1 =>
  K jv1.1 w1)
  (fun J1 =>
  M0 prog (Y3 .lss Q0 (.tmp 10) (.const (.int .i64 0)) t9 (.int .i64 0)) fun t11 =>
  ifB t11
  (M0 prog (Y3 .add Q0 (.tmp 12) (.tmp 13) t9 m1) fun t14 =>
   J1 (t14,()) w)
  (J1 (t9,()) w)))
theorem TJ.up{n0 m1:Value}(h:TJ.pt n0 m1 w K):upK prog (Z0 bD #[n0,m1]) w K :=
 upF [4] (.node none .leaf (.node none .leaf (.node none .leaf (.node (some [0]) .leaf .leaf)))) [n0,m1] Tryz.func40 h
def zH.pt(g0:Value)(w:World)(K:PtK):Prop :=
 M0 prog (X4 g0) fun t4 =>
 M0 prog (O0 Q3 t4 1) fun t5 =>
 Y0 prog (X0 CG t5) w fun t6 =>
 upK prog (Z0 QQ #[t6]) w fun t7 w1 =>
 K t7 w1
theorem zH.up{g0:Value}(h:zH.pt g0 w K):upK prog (Z0 VF #[g0]) w K :=
 upF [2] .leaf [g0] Tryz.func41 h
def yL.pt(g0 id1:Value)(w:World)(K:PtK):Prop :=
 upK prog (Z0 OI #[g0,id1,(.func (.func 100) #[] #[])]) w fun t7 w1 =>
 K t7 w1
theorem yL.up{g0 id1:Value}(h:yL.pt g0 id1 w K):upK prog (Z0 NI #[g0,id1]) w K :=
 upF [4] .leaf [g0,id1] Tryz.func42 h
def yH.pt(g0 i1:Value)(w:World)(K:PtK):Prop :=
 M0 prog (X4 g0) fun t9 =>
 M0 prog (O0 Q3 t9 1) fun t10 =>
 Y0 prog (X0 CG t10) w fun t11 =>
 upK prog (Z0 aO #[t11,i1]) w fun t13 w1 =>
 M0 prog (R5 t13 0) fun t14 =>
 M0 prog (R5 t13 1) fun t15 =>
 upK prog (I7 U4) w1 fun p5 w2 =>
 upK prog (F4 U4 p5 t14) w2 fun tu w3 =>
 M0 prog (Y3 .neq Z6 (.tmp 16) (.const (.int .i64 0)) t15 (.int .i64 0)) fun t17 =>
 ifB t17
 (K t15 w3)
 (M0 prog (O0 U4 p5 1) fun t20 =>
  Y0 prog (X0 Q0 t20) w3 fun t21 =>
  M0 prog (iG (.func ZH) #[] #[p5]) fun t22 =>
  upK prog (Z0 OI #[g0,t21,t22]) w3 fun t23 w4 =>
  K t23 w4)
theorem yH.up{g0 i1:Value}(h:yH.pt g0 i1 w K):upK prog (Z0 UF #[g0,i1]) w K :=
 upF [4] .leaf [g0,i1] Tryz.func43 h
def vL.pt(g0 i1:Value)(w:World)(K:PtK):Prop :=
 M0 prog (X4 g0) fun t6 =>
 M0 prog (O0 Q3 t6 1) fun t7 =>
 Y0 prog (X0 CG t7) w fun t8 =>
 upK prog (Z0 yS #[t8,i1]) w fun t10 w1 =>
 K t10 w1
theorem vL.up{g0 i1:Value}(h:vL.pt g0 i1 w K):upK prog (Z0 ZM #[g0,i1]) w K :=
 upF [4] .leaf [g0,i1] Tryz.func44 h
def fJ.pt(g0 i1:Value)(w:World)(K:PtK):Prop :=
 M0 prog (X4 g0) fun t6 =>
 M0 prog (O0 Q3 t6 1) fun t7 =>
 Y0 prog (X0 CG t7) w fun t8 =>
 upK prog (Z0 iP #[t8,i1]) w fun t10 w1 =>
 K t10 w1
theorem fJ.up{g0 i1:Value}(h:fJ.pt g0 i1 w K):upK prog (Z0 xK #[g0,i1]) w K :=
 upF [4] .leaf [g0,i1] Tryz.func45 h
def bK.pt(g0 mask1:Value)(w:World)(K:PtK):Prop :=
 M0 prog (X4 g0) fun t5 =>
 M0 prog (O0 Q3 t5 1) fun t6 =>
 Y0 prog (X0 CG t6) w fun t7 =>
 upK prog (Z0 RQ #[t7,mask1]) w fun t9 w1 =>
 K (.tuple #[]) w1
theorem bK.up{g0 mask1:Value}(h:bK.pt g0 mask1 w K):upK prog (Z0 RL #[g0,mask1]) w K :=
 upF [] .leaf [g0,mask1] Tryz.func46 h
def wL.pt(g0:Value)(w:World)(K:PtK):Prop :=
 M0 prog (X4 g0) fun t3 =>
 M0 prog (O0 Q3 t3 1) fun t4 =>
 Y0 prog (X0 CG t4) w fun t5 =>
 upK prog (Z0 zS #[t5]) w fun t6 w1 =>
 K (.tuple #[]) w1
theorem wL.up{g0:Value}(h:wL.pt g0 w K):upK prog (Z0 aN #[g0]) w K :=
 upF [] .leaf [g0] Tryz.func47 h
def aK.pt(g0 id1 keep2:Value)(w:World)(K:PtK):Prop :=
 upK prog (yC J6 keep2) w fun keep5 w1 =>
 M0 prog (iG (.func TF) #[] #[keep5]) fun t9 =>
 upK prog (Z0 SB #[g0,id1,t9]) w1 fun t10 w2 =>
 K t10 w2
theorem aK.up{g0 id1 keep2:Value}(h:aK.pt g0 id1 keep2 w K):upK prog (Z0 QL #[g0,id1,keep2]) w K :=
 upF [6] .leaf [g0,id1,keep2] Tryz.func48 h
def cK.pt(g0 id1:Value)(w:World)(K:PtK):Prop :=
 upK prog (yC Q0 id1) w fun id3 w1 =>
 Y0 prog (X0 Q0 id3) w1 fun t6 =>
 M0 prog (iG (.func WF) #[] #[id3]) fun t7 =>
 upK prog (Z0 SB #[g0,t6,t7]) w1 fun t8 w2 =>
 K t8 w2
theorem cK.up{g0 id1:Value}(h:cK.pt g0 id1 w K):upK prog (Z0 SL #[g0,id1]) w K :=
 upF [4] .leaf [g0,id1] Tryz.func49 h
def xL.pt(g0 id1 n2:Value)(w:World)(K:PtK):Prop :=
 upK prog (yC Q0 n2) w fun n5 w1 =>
 M0 prog (iG (.func wG) #[] #[n5]) fun t9 =>
 upK prog (Z0 SB #[g0,id1,t9]) w1 fun t10 w2 =>
 K t10 w2
theorem xL.up{g0 id1 n2:Value}(h:xL.pt g0 id1 n2 w K):upK prog (Z0 bN #[g0,id1,n2]) w K :=
 upF [6] .leaf [g0,id1,n2] Tryz.func50 h
def NM.pt(g0 id1 n2 keep3:Value)(w:World)(K:PtK):Prop :=
 upK prog (yC Q0 n2) w fun n6 w1 =>
 upK prog (yC J6 keep3) w1 fun keep7 w2 =>
 M0 prog (iG (.func nH) #[] #[n6,keep7]) fun t11 =>
 upK prog (Z0 SB #[g0,id1,t11]) w2 fun t12 w3 =>
 K t12 w3
theorem NM.up{g0 id1 n2 keep3:Value}(h:NM.pt g0 id1 n2 keep3 w K):upK prog (Z0 YN #[g0,id1,n2,keep3]) w K :=
 upF [8] .leaf [g0,id1,n2,keep3] Tryz.func51 h
def iC.pt(s0:Value)(w:World)(K:PtK):Prop :=
 M0 prog (Y3 .eql K4 (.tmp 3) (.const (.slice none 0 0)) s0 (.slice none 0 0)) fun t4 =>
 ifB t4
 (K (.slice none 0 0) w)
 (upK prog (P6 K4 0 #[]) w fun t5 w1 =>
  upK prog (J5 .append #[K4,K4] K4 #[false,false] #[t5,s0]) w1 fun t7 w2 =>
  K t7 w2)
theorem iC.up{s0:Value}(h:iC.pt s0 w K):upK prog (Z0 xD #[s0]) w K :=
 upF [2] .leaf [s0] Tryz.func52 h
def DL.pt(s0 e1:Value)(w:World)(K:PtK):Prop :=
 upK prog (yC X5 e1) w fun e3 w1 =>
 Y0 prog (X0 X5 e3) w1 fun t7 =>
 upK prog (Z0 EK #[s0,t7]) w1 fun t8 w2 =>
 M0 prog (sUn .not t8) fun t9 =>
 ifB t9
 (K (.int .i64 1) w2)
 (M0 prog (O0 X5 e3 5) fun t11 =>
  Y0 prog (X0 G5 t11) w2 fun t12 =>
  upK prog (Z0 vF #[t12]) w2 fun t13 w3 =>
  M0 prog (sUn .not t13) fun t14 =>
  ifB t14
  (K (.int .i64 16) w3)
  (M0 prog (O0 X5 e3 1) fun t16 =>
  Y0 prog (X0 Q0 t16) (tick w3) fun t17 =>
  upK prog (Z0 qH #[s0]) (tick w3) fun t19 w4 =>
  Is prog (X0 Q0 t16) t17 w4∧M0 prog (Y3 .neq Q0 (.tmp 17) (.tmp 19) t17 t19) fun t20 =>
  ifB t20
  (K (.int .i64 25) w4)
  (M0 prog (X4 s0) fun t23 =>
   M0 prog (O0 O8 t23 3) fun t24 =>
   Y0 prog (X0 R7 t24) w4 fun t25 =>
   Y0 prog (J5 .len #[R7] Q0 #[false] #[t25]) w4 fun t26 =>
   M0 prog (Y3 .geq Q0 (.tmp 26) (.const (.int .i64 2000)) t26 (.int .i64 2000)) fun t27 =>
   ifB t27
   (K (.int .i64 6) w4)
   (M0 prog (X4 s0) fun t30 =>
   M0 prog (O0 O8 t30 3) fun t31 =>
   Y0 prog (X0 R7 t31) (tick w4) fun t32 =>
   Y0 prog (X0 X5 e3) (tick w4) fun t33 =>
   upK prog (Z0 KS #[t33]) (tick w4) fun t34 w5 =>
   Is prog (X0 R7 t31) t32 w5∧upK prog (P6 R7 1 #[(0,t34)]) w5 fun t35 w6 =>
   Is prog (X0 R7 t31) t32 w6∧upK prog (J5 .append #[R7,R7] R7 #[false,false] #[t32,t35]) w6 fun t36 w7 =>
   M0 prog (X4 s0) fun t37 =>
   M0 prog (O0 O8 t37 3) fun t38 =>
   upK prog (F4 R7 t38 t36) w7 fun tu w8 =>
   K (.int .i64 0) w8))))
theorem DL.up{s0 e1:Value}(h:DL.pt s0 e1 w K):upK prog (Z0 WI #[s0,e1]) w K :=
 upF [4] .leaf [s0,e1] Tryz.func53 h
def zY.pt(s0:Value)(w:World)(K:PtK):Prop :=
 M0 prog (G6 K8 #[(0,s0)]) fun t4 =>
 upK prog (yC K8 t4) w fun t5 w1 =>
 K t5 w1
theorem zY.up{s0:Value}(h:zY.pt s0 w K):upK prog (Z0 iB #[s0]) w K :=
 upF [2] .leaf [s0] Tryz.func54 h
def WM.pt(r0:Value)(w:World)(K:PtK):Prop :=
 upK prog (Z0 YD #[r0,(.int .u8 59),(.int .i64 (-9223372036854775808))]) w fun t4 w1 =>
 K t4 w1
theorem WM.up{r0:Value}(h:WM.pt r0 w K):upK prog (Z0 Y6 #[r0]) w K :=
 upF [2] .leaf [r0] Tryz.func55 h
def IL.pt(r0:Value)(w:World)(K:PtK):Prop :=
 upK prog (Z0 YD #[r0,(.int .u8 58),(.int .i64 0)]) w fun t6 w1 =>
 M0 prog (X4 r0) fun t9 =>
 M0 prog (O0 K8 t9 0) fun t10 =>
 Y0 prog (X0 U2 t10) w1 fun t11 =>
 Y0 prog (J5 .len #[U2] Q0 #[false] #[t11]) w1 fun t12 =>
 M0 prog (Y3 .gtr Q0 (.tmp 7) (.tmp 12) t6 t12) fun t13 =>
 ifB t13
 (upK prog (Z0 zA #[r0]) w1 fun t15 w2 =>
  K (.string ⟨#[]⟩) w2)
 (M0 prog (X4 r0) fun t17 =>
  M0 prog (O0 K8 t17 0) fun t18 =>
  Y0 prog (X0 U2 t18) w1 fun t19 =>
  M0 prog (d9 U2 t19 none (some t6) none) fun t21 =>
  M0 prog (X4 r0) fun t24 =>
  M0 prog (O0 K8 t24 0) fun t25 =>
  Y0 prog (X0 U2 t25) w1 fun t26 =>
  M0 prog (d9 U2 t26 (some t6) none none) fun t28 =>
  M0 prog (X4 r0) fun t29 =>
  M0 prog (O0 K8 t29 0) fun t30 =>
  upK prog (F4 U2 t30 t28) w1 fun tu w3 =>
  upK prog (Z0 VL #[r0,(.string ⟨#[44]⟩)]) w3 fun t32 w4 =>
  M0 prog (X4 r0) fun t34 =>
  M0 prog (O0 K8 t34 1) fun t35 =>
  Y0 prog (X0 EC t35) w4 fun t36 =>
  ifB t36
  (K (.string ⟨#[]⟩) w4)
  (K t21 w4))
theorem IL.up{r0:Value}(h:IL.pt r0 w K):upK prog (Z0 yA #[r0]) w K :=
 upF [2] .leaf [r0] Tryz.func56 h
def oQ.pt(s0:Value)(w:World)(K:PtK):Prop :=
 upK prog (Z0 iB #[s0]) w fun t8 w1 =>
 upK prog (Z0 qE #[t8]) w1 fun t10 w2 =>
 LOOP (X:=Value×Value×Unit) (fun lv3 w3 next3 =>
  M0 prog (Y3 .gtr Q0 (.tmp 11) (.const (.int .i64 0)) lv3.2.1 (.int .i64 0)) fun t12 =>
  ifB t12
  (upK prog (Z0 yD #[t8]) w3 fun t16 w4 =>
  M0 prog (Y3 .eql Q0 (.tmp 16) (.const (.int .i64 0)) t16 (.int .i64 0)) fun t17 =>
  ifB t17
  (K (.tuple #[(.slice none 0 0),(.bool false)]) w4)
  (upK prog (Z0 DV #[t8]) w4 fun t20 w5 =>
   upK prog (P6 G5 1 #[(0,t20)]) w5 fun t21 w6 =>
   upK prog (J5 .append #[G5,G5] G5 #[false,false] #[lv3.1,t21]) w6 fun t22 w7 =>
   M0 prog (Y3 .sub Q0 (.tmp 13) (.const (.int .i64 1)) lv3.2.1 (.int .i64 1)) fun t14 =>
   next3 (t22,t14,()) w7))
  (upK prog (Z0 jB #[t8]) w3 fun t24 w8 =>
  M0 prog (sUn .not t24) fun t25 =>
  ifB t25
  (K (.tuple #[(.slice none 0 0),(.bool false)]) w8)
  (K (.tuple #[lv3.1,(.bool true)]) w8)))
 ((.slice none 0 0),t10,()) w2
theorem oQ.up{s0:Value}(h:oQ.pt s0 w K):upK prog (Z0 SQ #[s0]) w K :=
 upF [2,3] .leaf [s0] Tryz.func57 h
def FL.pt(r0:Value)(w:World)(K:PtK):Prop :=
 M0 prog (X4 r0) fun t4 =>
 M0 prog (O0 K8 t4 1) fun t5 =>
 Y0 prog (X0 EC t5) w fun t6 =>
 M0 prog (sUn .not t6) fun t7 =>
 ifB t7
 (M0 prog (X4 r0) fun t10 =>
  M0 prog (O0 K8 t10 0) fun t11 =>
  Y0 prog (X0 U2 t11) w fun t12 =>
  M0 prog (Y3 .eql U2 (.tmp 12) (.const (.string ⟨#[]⟩)) t12 (.string ⟨#[]⟩)) fun t13 =>
  K t13 w)
 (K (.bool false) w)
theorem FL.up{r0:Value}(h:FL.pt r0 w K):upK prog (Z0 jB #[r0]) w K :=
 upF [2] .leaf [r0] Tryz.func58 h
def Kc0.pt(n0:Value)(w:World)(K:PtK):Prop :=
 upK prog (Z0 XD #[n0]) w fun t4 w1 =>
 M0 prog (Y3 .add U2 (.tmp 4) (.const (.string ⟨#[59]⟩)) t4 (.string ⟨#[59]⟩)) fun t5 =>
 K t5 w1
theorem Kc0.up{n0:Value}(h:Kc0.pt n0 w K):upK prog (Z0 A8 #[n0]) w K :=
 upF [2] .leaf [n0] Tryz.func59 h
def AY.pt(s0:Value)(w:World)(K:PtK):Prop :=
 Y0 prog (J5 .len #[U2] Q0 #[false] #[s0]) w fun t4 =>
 upK prog (Z0 XD #[t4]) w fun t5 w1 =>
 M0 prog (Y3 .add U2 (.tmp 5) (.const (.string ⟨#[58]⟩)) t5 (.string ⟨#[58]⟩)) fun t6 =>
 M0 prog (Y3 .add U2 (.tmp 6) (.tmp 7) t6 s0) fun t8 =>
 M0 prog (Y3 .add U2 (.tmp 8) (.const (.string ⟨#[44]⟩)) t8 (.string ⟨#[44]⟩)) fun t9 =>
 K t9 w1
theorem AY.up{s0:Value}(h:AY.pt s0 w K):upK prog (Z0 pF #[s0]) w K :=
 upF [2] .leaf [s0] Tryz.func60 h
def JO.pt(s0:Value)(w:World)(K:PtK):Prop :=
 upK prog (I7 M5) w fun b3 w1 =>
 Y0 prog (J5 .len #[I4] Q0 #[false] #[s0]) w1 fun t7 =>
 upK prog (Z0 dN #[t7]) w1 fun t8 w2 =>
 upK prog (Z0 u7 #[b3,t8]) w2 fun t9 w3 =>
 Y0 prog (J5 .len #[I4] Q0 #[false] #[s0]) w3 fun t11 =>
 LOOP (X:=Value×Unit) (fun lv4 w4 next4 =>
  M0 prog (Y3 .lss Q0 (.tmp 12) (.tmp 11) lv4.1 t11) fun t13 =>
  ifB t13
  (M0 prog (Y4 I4 s0 lv4.1) fun t14 =>
  Y0 prog (X0 M3 t14) w4 fun t15 =>
  upK prog (I7 M3) w4 fun p5 w5 =>
  upK prog (F4 M3 p5 t15) w5 fun tu w6 =>
  M0 prog (O0 M3 p5 0) fun t16 =>
  Y0 prog (X0 Q0 t16) (tick w6) fun t17 =>
  M0 prog (O0 M3 p5 1) fun t19 =>
  Y0 prog (X0 Q0 t19) (tick w6) fun t20 =>
  M0 prog (O0 M3 p5 2) fun t23 =>
  Y0 prog (X0 Q0 t23) (tick w6) fun t24 =>
  M0 prog (O0 M3 p5 3) fun t27 =>
  Y0 prog (X0 J6 t27) (tick w6) fun t28 =>
  upK prog (Z0 A8 #[t17]) (tick w6) fun t18 w7 =>
  Is prog (X0 J6 t27) t28 w7∧Is prog (X0 Q0 t23) t24 w7∧Is prog (X0 Q0 t19) t20 w7∧upK prog (Z0 A8 #[t20]) w7 fun t21 w8 =>
  Is prog (X0 J6 t27) t28 w8∧Is prog (X0 Q0 t23) t24 w8∧M0 prog (Y3 .add U2 (.tmp 18) (.tmp 21) t18 t21) fun t22 =>
  upK prog (Z0 A8 #[t24]) w8 fun t25 w9 =>
  Is prog (X0 J6 t27) t28 w9∧M0 prog (Y3 .add U2 (.tmp 22) (.tmp 25) t22 t25) fun t26 =>
  upK prog (Z0 OW #[t28]) w9 fun t29 w10 =>
  M0 prog (Y3 .add U2 (.tmp 26) (.tmp 29) t26 t29) fun t30 =>
  upK prog (Z0 u7 #[b3,t30]) w10 fun t31 w11 =>
  M0 prog (Y3 .add Q0 (.tmp 12) (.const (.int .i64 1)) lv4.1 (.int .i64 1)) fun t32 =>
  next4 (t32,()) w11)
  (upK prog (Z0 H9 #[b3]) w4 fun t33 w12 =>
  K t33 w12))
 ((.int .i64 0),()) w3
theorem JO.up{s0:Value}(h:JO.pt s0 w K):upK prog (Z0 jP #[s0]) w K :=
 upF [2] .leaf [s0] Tryz.func61 h
def Mc0.pt(n0:Value)(w:World)(K:PtK):Prop :=
 M0 prog (Y3 .lss Q0 (.tmp 3) (.const (.int .i64 0)) n0 (.int .i64 0)) fun t4 =>
 ifB t4
 (K (.string ⟨#[]⟩) w)
 (upK prog (Z0 A8 #[n0]) w fun t6 w1 =>
  K t6 w1)
theorem Mc0.up{n0:Value}(h:Mc0.pt n0 w K):upK prog (Z0 dN #[n0]) w K :=
 upF [2] .leaf [n0] Tryz.func62 h
def mK.pt(seq0:Value)(w:World)(K:PtK):Prop :=
 upK prog (Z0 BG #[seq0]) w fun t5 w1 =>
 upK prog (Z0 pE #[t5]) w1 fun t7 w2 =>
 K t5 w2
theorem mK.up{seq0:Value}(h:mK.pt seq0 w K):upK prog (Z0 UL #[seq0]) w K :=
 upF [2] .leaf [seq0] Tryz.func63 h
def QB.pt(m0:Value)(w:World)(K:PtK):Prop :=
 upK prog (yC D7 m0) w fun m1 w1 =>
 M0 prog (iG (.func z_) #[] #[m1]) fun t3 =>
 K t3 w1
theorem QB.up{m0:Value}(h:QB.pt m0 w K):upK prog (Z0 fD #[m0]) w K :=
 upF [2] .leaf [m0] Tryz.func64 h
def BC.pt(b0 s1:Value)(w:World)(K:PtK):Prop :=
 upK prog (Z0 bF #[b0]) w fun t7 w1 =>
 M0 prog (X4 b0) fun t10 =>
 M0 prog (O0 M5 t10 1) fun t11 =>
 Y0 prog (X0 OA t11) w1 fun t12 =>
 upK prog (J5 .append #[OA,U2] OA #[false,false] #[t12,s1]) w1 fun t14 w2 =>
 M0 prog (X4 b0) fun t15 =>
 M0 prog (O0 M5 t15 1) fun t16 =>
 upK prog (F4 OA t16 t14) w2 fun tu w3 =>
 Y0 prog (J5 .len #[U2] Q0 #[false] #[s1]) w3 fun t18 =>
 K (.tuple #[t18,.nilIface]) w3
theorem BC.up{b0 s1:Value}(h:BC.pt b0 s1 w K):upK prog (Z0 u7 #[b0,s1]) w K :=
 upF [4,5] .leaf [b0,s1] Tryz.func65 h
def WO.pt(r0:Value)(w:World)(K:PtK):Prop :=
 upK prog (I7 M5) w fun b3 w1 =>
 Y0 prog (J5 .len #[G5] Q0 #[false] #[r0]) w1 fun t7 =>
 upK prog (Z0 dN #[t7]) w1 fun t8 w2 =>
 upK prog (Z0 u7 #[b3,t8]) w2 fun t9 w3 =>
 Y0 prog (J5 .len #[G5] Q0 #[false] #[r0]) w3 fun t11 =>
 LOOP (X:=Value×Unit) (fun lv4 w4 next4 =>
  M0 prog (Y3 .lss Q0 (.tmp 12) (.tmp 11) lv4.1 t11) fun t13 =>
  ifB t13
  (M0 prog (Y4 G5 r0 lv4.1) fun t14 =>
  Y0 prog (X0 R3 t14) w4 fun t15 =>
  upK prog (I7 R3) w4 fun v5 w5 =>
  upK prog (F4 R3 v5 t15) w5 fun tu w6 =>
  Y0 prog (X0 R3 v5) w6 fun t16 =>
  upK prog (Z0 qU #[t16]) w6 fun t17 w7 =>
  upK prog (Z0 u7 #[b3,t17]) w7 fun t18 w8 =>
  M0 prog (Y3 .add Q0 (.tmp 12) (.const (.int .i64 1)) lv4.1 (.int .i64 1)) fun t19 =>
  next4 (t19,()) w8)
  (upK prog (Z0 H9 #[b3]) w4 fun t20 w9 =>
  K t20 w9))
 ((.int .i64 0),()) w3
theorem WO.up{r0:Value}(h:WO.pt r0 w K):upK prog (Z0 dL #[r0]) w K :=
 upF [2] .leaf [r0] Tryz.func66 h
theorem uW.up{p0:Value}{w:World}{K:PtK}(h:Calls prog H9 #[p0] w (EP K)):upK prog (Z0 H9 #[p0]) w K :=
 VH (fn:=Tryz.f67) Tryz.func67 (by kernel_rfl) (by kernel_rfl) h
def eQ.pt(n0:Value)(w:World)(K:PtK):Prop :=
 upK prog (Z0 vD #[n0,(.int .i64 0),(.int .i64 1099511627776)]) w fun t4 w1 =>
 K t4 w1
theorem eQ.up{n0:Value}(h:eQ.pt n0 w K):upK prog (Z0 zM #[n0]) w K :=
 upF [2] .leaf [n0] Tryz.func73 h
def vI.pt(n0 a1 b2:Value)(w:World)(K:PtK):Prop :=
 M0 prog (Y3 .geq Q0 (.tmp 7) (.tmp 8) n0 a1) fun t9 =>
 ifB t9
 (M0 prog (Y3 .leq Q0 (.tmp 11) (.tmp 12) n0 b2) fun t13 =>
  K t13 w)
 (K (.bool false) w)
theorem vI.up{n0 a1 b2:Value}(h:vI.pt n0 a1 b2 w K):upK prog (Z0 vD #[n0,a1,b2]) w K :=
 upF [6] .leaf [n0,a1,b2] Tryz.func74 h
def XM.pt(r0:Value)(w:World)(K:PtK):Prop :=
 upK prog (Z0 YD #[r0,(.int .u8 59),(.int .i64 0)]) w fun t4 w1 =>
 K t4 w1
theorem XM.up{r0:Value}(h:XM.pt r0 w K):upK prog (Z0 qE #[r0]) w K :=
 upF [2] .leaf [r0] Tryz.func75 h
def GL.pt(r0:Value)(w:World)(K:PtK):Prop :=
 M0 prog (X4 r0) fun t4 =>
 M0 prog (O0 K8 t4 0) fun t5 =>
 Y0 prog (X0 U2 t5) w fun t6 =>
 Y0 prog (J5 .len #[U2] Q0 #[false] #[t6]) w fun t7 =>
 K t7 w
theorem GL.up{r0:Value}(h:GL.pt r0 w K):upK prog (Z0 yD #[r0]) w K :=
 upF [2] .leaf [r0] Tryz.func76 h
def YR.pt(e0:Value)(w:World)(K:PtK):Prop :=
 upK prog (yC X5 e0) w fun e1 w1 =>
 upK prog (I7 X5) w1 fun t2 w2 =>
 M0 prog (O0 X5 e1 5) fun t3 =>
 Y0 prog (X0 G5 t3) w2 fun t4 =>
 upK prog (Z0 IB #[t4]) w2 fun t5 w3 =>
 M0 prog (O0 X5 e1 5) fun t6 =>
 upK prog (F4 G5 t6 t5) w3 fun tu w4 =>
 Y0 prog (X0 X5 e1) w4 fun t7 =>
 upK prog (F4 X5 t2 t7) w4 fun tu_1 w5 =>
 S9 prog (do loadVar X5 (←asAddr t2)) w5 fun t2_1 =>
 K t2_1 w5
theorem YR.up{e0:Value}(h:YR.pt e0 w K):upK prog (Z0 KS #[e0]) w K :=
 upF [] .leaf [e0] Tryz.func78 h
def CO.pt(g0 id1:Value)(w:World)(K:PtK):Prop :=
 M0 prog (Y3 .lss Q0 (.tmp 6) (.const (.int .i64 0)) id1 (.int .i64 0)) fun t7 =>
 ifB t7
 (K (.int .i64 1) w)
 (M0 prog (Y3 .geq Q0 (.tmp 9) (.const (.int .i64 3)) id1 (.int .i64 3)) fun t10 =>
  ifB t10
  (K (.int .i64 1) w)
  (M0 prog (X4 g0) fun t15 =>
  M0 prog (O0 Q3 t15 0) fun t16 =>
  M0 prog (Y4 E_ t16 id1) fun t17 =>
  M0 prog (O0 I6 t17 3) fun t18 =>
  Y0 prog (X0 R6 t18) w fun t19 =>
  M0 prog (Y3 .eql R6 (.tmp 19) (.const (.pointer none)) t19 (.pointer none)) fun t20 =>
  ifB t20
  (K (.int .i64 9) w)
  (K (.int .i64 0) w)))
theorem CO.up{g0 id1:Value}(h:CO.pt g0 id1 w K):upK prog (Z0 aI #[g0,id1]) w K :=
 upF [4] .leaf [g0,id1] Tryz.func80 h
def xE.pt(r0 data1:Value)(w:World)(K:PtK):Prop :=
 upK prog (I7 Y2) w fun t6 w1 =>
 M0 prog (X4 r0) fun t10 =>
 M0 prog (O0 I1 t10 3) fun t11 =>
 Y0 prog (X0 Q0 t11) w1 fun t12 =>
 M0 prog (Y3 .neq Q0 (.tmp 12) (.const (.int .i64 2)) t12 (.int .i64 2)) fun t13 =>
 ifB t13
 (M0 prog (G6 Y2 #[]) fun t14 =>
  upK prog (F4 Y2 t6 t14) w1 fun tu w2 =>
  S9 prog (do loadVar Y2 (←asAddr t6)) w2 fun t6_1 =>
  K (.tuple #[(.int .i64 0),(.int .i64 24),t6_1]) w2)
 (Y0 prog (J5 .len #[U2] Q0 #[false] #[data1]) w1 fun t17 =>
  M0 prog (Y3 .gtr Q0 (.tmp 17) (.const (.int .i64 2000)) t17 (.int .i64 2000)) fun t18 =>
  ifB t18
  (M0 prog (G6 Y2 #[]) fun t19 =>
  upK prog (F4 Y2 t6 t19) w1 fun tu_1 w3 =>
  S9 prog (do loadVar Y2 (←asAddr t6)) w3 fun t6_2 =>
  K (.tuple #[(.int .i64 0),(.int .i64 1),t6_2]) w3)
  (M0 prog (X4 r0) fun t22 =>
  M0 prog (O0 I1 t22 2) fun t23 =>
  Y0 prog (X0 O3 t23) w1 fun t24 =>
  Y0 prog (J5 .len #[O3] Q0 #[false] #[t24]) w1 fun t25 =>
  M0 prog (Y3 .eql Q0 (.tmp 25) (.const (.int .i64 4000)) t25 (.int .i64 4000)) fun t26 =>
  ifB t26
  (M0 prog (G6 Y2 #[]) fun t27 =>
   upK prog (F4 Y2 t6 t27) w1 fun tu_2 w4 =>
   S9 prog (do loadVar Y2 (←asAddr t6)) w4 fun t6_3 =>
   K (.tuple #[(.int .i64 0),(.int .i64 6),t6_3]) w4)
  (M0 prog (X4 r0) fun t29 =>
   M0 prog (O0 I1 t29 1) fun t30 =>
   M0 prog (O0 H5 t30 0) fun t31 =>
   Y0 prog (X0 Q0 t31) w1 fun t32 =>
   M0 prog (G6 U3 #[(0,t32),(1,data1)]) fun t34 =>
   upK prog (I7 U3) w1 fun x7 w5 =>
   upK prog (F4 U3 x7 t34) w5 fun tu_3 w6 =>
   M0 prog (X4 r0) fun t37 =>
   M0 prog (O0 I1 t37 2) fun t38 =>
   Y0 prog (X0 O3 t38) (tick w6) fun t39 =>
   Y0 prog (X0 U3 x7) (tick w6) fun t40 =>
   upK prog (P6 O3 1 #[(0,t40)]) (tick w6) fun t41 w7 =>
   Is prog (X0 O3 t38) t39 w7∧upK prog (J5 .append #[O3,O3] O3 #[false,false] #[t39,t41]) w7 fun t42 w8 =>
   M0 prog (X4 r0) fun t43 =>
   M0 prog (O0 I1 t43 2) fun t44 =>
   upK prog (F4 O3 t44 t42) w8 fun tu_4 w9 =>
   M0 prog (X4 r0) fun t46 =>
   M0 prog (O0 I1 t46 2) fun t47 =>
   Y0 prog (X0 O3 t47) (tick w9) fun t48 =>
   Y0 prog (J5 .len #[O3] Q0 #[false] #[t48]) (tick w9) fun t49 =>
   M0 prog (X4 r0) fun t51 =>
   M0 prog (O0 I1 t51 2) fun t52 =>
   Y0 prog (X0 O3 t52) (tick w9) fun t53 =>
   Y0 prog (J5 .len #[O3] Q0 #[false] #[t53]) (tick w9) fun t54 =>
   Y0 prog (X0 U3 x7) (tick w9) fun t55 =>
   ((upK prog (P6 O3 1 #[(0,t55)]) (tick w9) fun t56 w10 =>
    Is prog (J5 .len #[O3] Q0 #[false] #[t53]) t54 w10∧Is prog (X0 O3 t52) t53 w10∧Is prog (J5 .len #[O3] Q0 #[false] #[t48]) t49 w10∧Is prog (X0 O3 t47) t48 w10∧upK prog (Z0 TB #[r0]) w10 fun t58 w11 =>
    Is prog (X0 U3 x7) t55 w11∧Is prog (J5 .len #[O3] Q0 #[false] #[t53]) t54 w11∧Is prog (X0 O3 t52) t53 w11∧Is prog (J5 .len #[O3] Q0 #[false] #[t48]) t49 w11∧Is prog (X0 O3 t47) t48 w11∧M0 prog (G6 Y2 #[(2,t54),(3,t56),(4,t58)]) fun t59 =>
    upK prog (F4 Y2 t6 t59) w11 fun tu_5 w12 =>
    S9 prog (do loadVar Y2 (←asAddr t6)) w12 fun t6_4 =>
    K (.tuple #[t49,(.int .i64 0),t6_4]) w12)
   ∧ (upK prog (Z0 TB #[r0]) (tick w9) fun t58_1 w13 =>
    Is prog (X0 U3 x7) t55 w13∧Is prog (J5 .len #[O3] Q0 #[false] #[t53]) t54 w13∧Is prog (X0 O3 t52) t53 w13∧Is prog (J5 .len #[O3] Q0 #[false] #[t48]) t49 w13∧Is prog (X0 O3 t47) t48 w13∧upK prog (P6 O3 1 #[(0,t55)]) w13 fun t56_1 w14 =>
    Is prog (J5 .len #[O3] Q0 #[false] #[t53]) t54 w14∧Is prog (X0 O3 t52) t53 w14∧Is prog (J5 .len #[O3] Q0 #[false] #[t48]) t49 w14∧Is prog (X0 O3 t47) t48 w14∧M0 prog (G6 Y2 #[(2,t54),(3,t56_1),(4,t58_1)]) fun t59_1 =>
    upK prog (F4 Y2 t6 t59_1) w14 fun tu_6 w15 =>
    S9 prog (do loadVar Y2 (←asAddr t6)) w15 fun t6_5 =>
    K (.tuple #[t49,(.int .i64 0),t6_5]) w15)))))
theorem xE.up{r0 data1:Value}(h:xE.pt r0 data1 w K):upK prog (Z0 lG #[r0,data1]) w K :=
 upF [4,5] .leaf [r0,data1] Tryz.func81 h
def BO.pt(g0 id1 o2:Value)(w:World)(K:PtK):Prop :=
 upK prog (yC Y2 o2) w fun o5 w1 =>
 M0 prog (X4 g0) fun t12 =>
 M0 prog (O0 Q3 t12 0) fun t13 =>
 M0 prog (Y4 E_ t13 id1) fun t14 =>
 Y0 prog (X0 Y2 o5) (tick w1) fun t15 =>
 upK prog (Z0 yK #[t14,t15]) (tick w1) fun t16 w2 =>
 TE (X:=Unit) (fun jv1 w3 =>
  upK prog (Z0 CF #[g0]) w3 fun t38 w4 =>
  K t16 w4)
 (fun J1 =>
  M0 prog (Y3 .eql Z6 (.tmp 17) (.const (.int .i64 0)) t16 (.int .i64 0)) fun t18 =>
  ifB t18
  (M0 prog (O0 Y2 o5 4) fun t19 =>
  Y0 prog (X0 W_ t19) w2 fun t20 =>
  Y0 prog (J5 .len #[W_] Q0 #[false] #[t20]) w2 fun t21 =>
  LOOP (X:=Value×Unit) (fun lv5 w5 next5 =>
   M0 prog (Y3 .lss Q0 (.tmp 22) (.tmp 21) lv5.1 t21) fun t23 =>
   ifB t23
   (M0 prog (Y4 W_ t20 lv5.1) fun t24 =>
   Y0 prog (X0 U1 t24) w5 fun t25 =>
   upK prog (I7 U1) w5 fun m9 w6 =>
   upK prog (F4 U1 m9 t25) w6 fun tu w7 =>
   M0 prog (X4 g0) fun t27 =>
   M0 prog (O0 Q3 t27 1) fun t28 =>
   Y0 prog (X0 CG t28) (tick w7) fun t29 =>
   M0 prog (O0 U1 m9 2) fun t31 =>
   Y0 prog (X0 Q0 t31) (tick w7) fun t32 =>
   Y0 prog (X0 U1 m9) (tick w7) fun t33 =>
   upK prog (Z0 FM #[t33]) (tick w7) fun t34 w8 =>
   Is prog (X0 Q0 t31) t32 w8∧Is prog (X0 CG t28) t29 w8∧upK prog (Z0 BS #[t29,id1,t32,t34]) w8 fun t35 w9 =>
   M0 prog (Y3 .add Q0 (.tmp 22) (.const (.int .i64 1)) lv5.1 (.int .i64 1)) fun t36 =>
   next5 (t36,()) w9)
   (J1 (()) w5))
  ((.int .i64 0),()) w2)
  (J1 (()) w2))
theorem BO.up{g0 id1 o2:Value}(h:BO.pt g0 id1 o2 w K):upK prog (Z0 bL #[g0,id1,o2]) w K :=
 upF [6] (.node none .leaf (.node none .leaf (.node (some []) .leaf .leaf))) [g0,id1,o2] Tryz.func82 h
def LG.pt(x0 e1:Value)(w:World)(K:PtK):Prop :=
 upK prog (yC Y1 e1) w fun e3 w1 =>
 Y0 prog (X0 Y1 e3) w1 fun t10 =>
 upK prog (Z0 TL #[x0,t10]) w1 fun t11 w2 =>
 M0 prog (R5 t11 0) fun t12 =>
 M0 prog (R5 t11 1) fun t13 =>
 M0 prog (Y3 .neq Z6 (.tmp 14) (.const (.int .i64 0)) t13 (.int .i64 0)) fun t15 =>
 ifB t15
 (TE (X:=Unit) (fun jv1 w3 =>
  K (.tuple #[t12,t13]) w3)
  (fun J1 =>
  M0 prog (Y3 .neq Z6 (.tmp 16) (.const (.int .i64 5)) t13 (.int .i64 5)) fun t17 =>
  ifB t17
  (M0 prog (X4 x0) fun t19 =>
   M0 prog (O0 X3 t19 5) fun t20 =>
   Y0 prog (X0 Q0 t20) w2 fun t21 =>
   M0 prog (Y3 .add Q0 (.tmp 21) (.const (.int .i64 1)) t21 (.int .i64 1)) fun t22 =>
   M0 prog (X4 x0) fun t23 =>
   M0 prog (O0 X3 t23 5) fun t24 =>
   upK prog (F4 Q0 t24 t22) w2 fun tu w4 =>
   J1 (()) w4)
  (J1 (()) w2)))
 (M0 prog (X4 x0) fun t29 =>
  M0 prog (O0 X3 t29 6) fun t30 =>
  Y0 prog (X0 I4 t30) (tick w2) fun t31 =>
  Y0 prog (X0 Y1 e3) (tick w2) fun t32 =>
  upK prog (Z0 ES #[t31,t32,t12]) (tick w2) fun t34 w5 =>
  M0 prog (X4 x0) fun t35 =>
  M0 prog (O0 X3 t35 6) fun t36 =>
  upK prog (F4 I4 t36 t34) w5 fun tu_1 w6 =>
  M0 prog (X4 x0) fun t38 =>
  M0 prog (O0 X3 t38 4) fun t39 =>
  Y0 prog (X0 Q0 t39) w6 fun t40 =>
  M0 prog (Y3 .add Q0 (.tmp 40) (.const (.int .i64 1)) t40 (.int .i64 1)) fun t41 =>
  M0 prog (X4 x0) fun t42 =>
  M0 prog (O0 X3 t42 4) fun t43 =>
  upK prog (F4 Q0 t43 t41) w6 fun tu_2 w7 =>
  M0 prog (X4 x0) fun t45 =>
  M0 prog (O0 X3 t45 7) fun t46 =>
  Y0 prog (X0 D7 t46) (tick w7) fun t47 =>
  M0 prog (O0 Y1 e3 6) fun t48 =>
  Y0 prog (X0 Q0 t48) (tick w7) fun t49 =>
  Y0 prog (lK D7 t47 t49 false) (tick w7) fun t50 =>
  M0 prog (Y3 .add Q0 (.tmp 50) (.const (.int .i64 1)) t50 (.int .i64 1)) fun t51 =>
  upK prog (tY D7 t47 t49 t51) (tick w7) fun tu_3 w8 =>
  M0 prog (O0 Y1 e3 6) fun t53 =>
  Y0 prog (X0 Q0 t53) w8 fun t54 =>
  upK prog (Z0 ZF #[x0,t54]) w8 fun t55 w9 =>
  K (.tuple #[t12,(.int .i64 0)]) w9)
theorem LG.up{x0 e1:Value}(h:LG.pt x0 e1 w K):upK prog (Z0 SI #[x0,e1]) w K :=
 upF [4,5] (.node none .leaf (.node none .leaf (.node none (.node none .leaf (.node none (.node (some []) .leaf .leaf) .leaf)) .leaf))) [x0,e1] Tryz.func83 h
def KO.pt(s0 id1:Value)(w:World)(K:PtK):Prop :=
 upK prog (Z0 yJ #[s0,id1]) w fun t12 w1 =>
 M0 prog (R5 t12 0) fun t13 =>
 M0 prog (R5 t12 1) fun t14 =>
 upK prog (I7 M3) w1 fun p7 w2 =>
 upK prog (F4 M3 p7 t13) w2 fun tu w3 =>
 TE (X:=Unit) (fun jv1 w4 =>
  M0 prog (O0 M3 p7 1) fun t37 =>
  Y0 prog (X0 Q0 t37) w4 fun t38 =>
  M0 prog (Y3 .add Q0 (.tmp 38) (.const (.int .i64 1)) t38 (.int .i64 1)) fun t39 =>
  M0 prog (G6 M3 #[(0,id1),(1,t39)]) fun t40 =>
  upK prog (F4 M3 p7 t40) w4 fun tu_1 w5 =>
  Y0 prog (X0 M3 p7) (tick w5) fun t42 =>
  M0 prog (O0 M3 p7 1) fun t44 =>
  Y0 prog (X0 Q0 t44) (tick w5) fun t45 =>
  upK prog (Z0 EM #[s0,t42]) (tick w5) fun t43 w6 =>
  Is prog (X0 Q0 t44) t45 w6∧K (.tuple #[t43,t45,(.int .i64 0)]) w6)
 (fun J1 =>
  upK prog (Z0 iM #[id1]) w3 fun t17 w7 =>
  M0 prog (sUn .not t17) fun t18 =>
  ifB t18
  (K (.tuple #[(.slice none 0 0),(.int .i64 0),(.int .i64 1)]) w7)
  (M0 prog (Y3 .eql Q0 (.tmp 20) (.const (.int .i64 1099511627776)) id1 (.int .i64 1099511627776)) fun t21 =>
  ifB t21
  (K (.tuple #[(.slice none 0 0),(.int .i64 0),(.int .i64 1)]) w7)
  (M0 prog (O0 M3 p7 1) fun t24 =>
   Y0 prog (X0 Q0 t24) w7 fun t25 =>
   M0 prog (Y3 .eql Q0 (.tmp 25) (.const (.int .i64 1099511627776)) t25 (.int .i64 1099511627776)) fun t26 =>
   ifB t26
   (K (.tuple #[(.slice none 0 0),(.int .i64 0),(.int .i64 1)]) w7)
   (M0 prog (sUn .not t14) fun t30 =>
   ifB t30
   (Y0 prog (J5 .len #[I4] Q0 #[false] #[s0]) w7 fun t33 =>
    M0 prog (Y3 .geq Q0 (.tmp 33) (.const (.int .i64 50)) t33 (.int .i64 50)) fun t34 =>
    ifB t34
    (K (.tuple #[(.slice none 0 0),(.int .i64 0),(.int .i64 6)]) w7)
    (J1 (()) w7))
   (J1 (()) w7)))))
theorem KO.up{s0 id1:Value}(h:KO.pt s0 id1 w K):upK prog (Z0 kP #[s0,id1]) w K :=
 upF [4,5,6] (.node none .leaf (.node none .leaf (.node (some []) .leaf .leaf))) [s0,id1] Tryz.func84 h
def NH.pt(x0 time1:Value)(w:World)(K:PtK):Prop :=
 M0 prog (X4 x0) fun t7 =>
 M0 prog (O0 X3 t7 3) fun t8 =>
 Y0 prog (X0 Q0 t8) w fun t9 =>
 M0 prog (J5 .max #[Q0,Q0] Q0 #[false,false] #[t9,time1]) fun t11 =>
 M0 prog (X4 x0) fun t12 =>
 M0 prog (O0 X3 t12 3) fun t13 =>
 upK prog (F4 Q0 t13 t11) w fun tu w1 =>
 upK prog (Z0 W9 #[x0]) w1 fun t15 w2 =>
 upK prog (I7 Q0) w2 fun closed4 w3 =>
 upK prog (F4 Q0 closed4 t15) w3 fun tu_1 w4 =>
 M0 prog (X4 x0) fun t17 =>
 M0 prog (O0 X3 t17 7) fun t18 =>
 Y0 prog (X0 D7 t18) w4 fun t19 =>
 M0 prog (iG (.func rC) #[] #[closed4]) fun t20 =>
 upK prog (Z0 AB #[t19,t20]) w4 fun t21 w5 =>
 K (.tuple #[]) w5
theorem NH.up{x0 time1:Value}(h:NH.pt x0 time1 w K):upK prog (Z0 ZF #[x0,time1]) w K :=
 upF [] .leaf [x0,time1] Tryz.func85 h
def ER.pt(c0:Value)(w:World)(K:PtK):Prop :=
 upK prog (yC E5 c0) w fun c1 w1 =>
 M0 prog (O0 E5 c1 2) fun t3 =>
 Y0 prog (X0 Q0 t3) w1 fun t4 =>
 upK prog (Z0 vD #[t4,(.int .i64 0),(.int .i64 10000)]) w1 fun t5 w2 =>
 ifB t5
 (M0 prog (O0 E5 c1 1) fun t7 =>
  Y0 prog (X0 Q0 t7) w2 fun t8 =>
  M0 prog (O0 E5 c1 2) fun t9 =>
  Y0 prog (X0 Q0 t9) w2 fun t10 =>
  upK prog (Z0 vD #[t8,(.int .i64 0),t10]) w2 fun t11 w3 =>
  ifB t11
  (M0 prog (O0 E5 c1 3) fun t14 =>
  Y0 prog (X0 Q0 t14) w3 fun t15 =>
  upK prog (Z0 vD #[t15,(.int .i64 0),(.int .i64 10000)]) w3 fun t16 w4 =>
  ifB t16
  (M0 prog (O0 E5 c1 4) fun t19 =>
   Y0 prog (X0 Q0 t19) w4 fun t20 =>
   upK prog (Z0 vD #[t20,(.int .i64 1),(.int .i64 20)]) w4 fun t21 w5 =>
   K t21 w5)
  (K (.bool false) w4))
  (K (.bool false) w3))
 (K (.bool false) w2)
theorem ER.up{c0:Value}(h:ER.pt c0 w K):upK prog (Z0 vS #[c0]) w K :=
 upF [2] .leaf [c0] Tryz.func86 h
def lJ.pt(x0 known1:Value)(w:World)(K:PtK):Prop :=
 M0 prog (X4 x0) fun t7 =>
 M0 prog (O0 X3 t7 1) fun t8 =>
 upK prog (F4 O9 t8 (.slice none 0 0)) w fun tu w1 =>
 Y0 prog (J5 .len #[O9] Q0 #[false] #[known1]) w1 fun t10 =>
 LOOP (X:=Value×Unit) (fun lv2 w2 next2 =>
  M0 prog (Y3 .lss Q0 (.tmp 11) (.tmp 10) lv2.1 t10) fun t12 =>
  ifB t12
  (M0 prog (Y4 O9 known1 lv2.1) fun t13 =>
  Y0 prog (X0 Y7 t13) w2 fun t14 =>
  upK prog (I7 Y7) w2 fun k5 w3 =>
  upK prog (F4 Y7 k5 t14) w3 fun tu_1 w4 =>
  M0 prog (O0 Y7 k5 2) fun t15 =>
  Y0 prog (X0 NB t15) w4 fun t16 =>
  upK prog (Z0 OC #[t16]) w4 fun t17 w5 =>
  M0 prog (O0 Y7 k5 2) fun t18 =>
  upK prog (F4 NB t18 t17) w5 fun tu_2 w6 =>
  M0 prog (X4 x0) fun t21 =>
  M0 prog (O0 X3 t21 1) fun t22 =>
  Y0 prog (X0 O9 t22) (tick w6) fun t23 =>
  Y0 prog (X0 Y7 k5) (tick w6) fun t24 =>
  upK prog (P6 O9 1 #[(0,t24)]) (tick w6) fun t25 w7 =>
  Is prog (X0 O9 t22) t23 w7∧upK prog (J5 .append #[O9,O9] O9 #[false,false] #[t23,t25]) w7 fun t26 w8 =>
  M0 prog (X4 x0) fun t27 =>
  M0 prog (O0 X3 t27 1) fun t28 =>
  upK prog (F4 O9 t28 t26) w8 fun tu_3 w9 =>
  M0 prog (Y3 .add Q0 (.tmp 11) (.const (.int .i64 1)) lv2.1 (.int .i64 1)) fun t29 =>
  next2 (t29,()) w9)
  (K (.tuple #[]) w2))
 ((.int .i64 0),()) w1
theorem lJ.up{x0 known1:Value}(h:lJ.pt x0 known1 w K):upK prog (Z0 zK #[x0,known1]) w K :=
 upF [] .leaf [x0,known1] Tryz.func87 h
def DN.pt(calls0:Value)(w:World)(K:PtK):Prop :=
 Y0 prog (J5 .len #[n_] Q0 #[false] #[calls0]) w fun t7 =>
 LOOP (X:=Value×Unit) (fun lv1 w1 next1 =>
  M0 prog (Y3 .lss Q0 (.tmp 8) (.tmp 7) lv1.1 t7) fun t9 =>
  ifB t9
  (M0 prog (Y4 n_ calls0 lv1.1) fun t10 =>
  Y0 prog (X0 NA t10) w1 fun t11 =>
  upK prog (aA t11 #[]) w1 fun t13 w2 =>
  M0 prog (Y3 .neq Z6 (.tmp 14) (.const (.int .i64 0)) t13 (.int .i64 0)) fun t15 =>
  ifB t15
  (K t13 w2)
  (M0 prog (Y3 .add Q0 (.tmp 8) (.const (.int .i64 1)) lv1.1 (.int .i64 1)) fun t17 =>
   next1 (t17,()) w2))
  (K (.int .i64 0) w1))
 ((.int .i64 0),()) w
theorem DN.up{calls0:Value}(h:DN.pt calls0 w K):upK prog (Z0 NP #[calls0]) w K :=
 upF [2] .leaf [calls0] Tryz.func88 h
def GH.pt(t0:Value)(w:World)(K:PtK):Prop :=
 Y0 prog (X0 P5 t0) w fun t2 =>
 M0 prog (X4 t2) fun t3 =>
 M0 prog (O0 I6 t3 0) fun t4 =>
 Y0 prog (X0 b_ t4) w fun t5 =>
 upK prog (Z0 oC #[t5,(.int .i64 2)]) w fun t6 w1 =>
 K t6 w1
theorem GH.up{t0:Value}(h:GH.pt t0 w K):upK prog (Z0 mD #[t0]) w K :=
 upF [1] .leaf [t0] Tryz.func89 h
def qO.pt(d0 f1:Value)(w:World)(K:PtK):Prop :=
 TE (X:=Unit) (fun jv1 w1 =>
  upK prog (Z0 xJ #[d0,f1]) w1 fun t16 w2 =>
  M0 prog (Y3 .neq Z6 (.tmp 17) (.const (.int .i64 0)) t16 (.int .i64 0)) fun t18 =>
  ifB t18
  (K t16 w2)
  (M0 prog (X4 d0) fun t21 =>
  M0 prog (O0 F5 t21 3) fun t22 =>
  Y0 prog (X0 Q0 t22) w2 fun t23 =>
  M0 prog (Y3 .gtr Q0 (.tmp 23) (.const (.int .i64 0)) t23 (.int .i64 0)) fun t24 =>
  ifB t24
  (M0 prog (X4 d0) fun t26 =>
   M0 prog (O0 F5 t26 3) fun t27 =>
   Y0 prog (X0 Q0 t27) w2 fun t28 =>
   M0 prog (Y3 .sub Q0 (.tmp 28) (.const (.int .i64 1)) t28 (.int .i64 1)) fun t29 =>
   M0 prog (X4 d0) fun t30 =>
   M0 prog (O0 F5 t30 3) fun t31 =>
   upK prog (F4 Q0 t31 t29) w2 fun tu w3 =>
   K (.int .i64 10) w3)
  (M0 prog (X4 d0) fun t35 =>
   M0 prog (O0 F5 t35 0) fun t36 =>
   Y0 prog (X0 u6 t36) w2 fun t37 =>
   Y0 prog (lK u6 t37 f1 false) w2 fun t39 =>
   M0 prog (jv0 D8 t39 0) fun t40 =>
   upK prog (Z0 YM #[d0,f1,t40]) w2 fun t41 w4 =>
   K (.int .i64 0) w4)))
 (fun J1 =>
  upK prog (Z0 YH #[d0]) w fun t7 w5 =>
  ifB t7
  (M0 prog (X4 d0) fun t10 =>
  M0 prog (O0 F5 t10 6) fun t11 =>
  Y0 prog (X0 J6 t11) w5 fun t12 =>
  upK prog (Z0 kE #[d0,t12]) w5 fun t13 w6 =>
  J1 (()) w6)
  (J1 (()) w5))
theorem qO.up{d0 f1:Value}(h:qO.pt d0 f1 w K):upK prog (Z0 oC #[d0,f1]) w K :=
 upF [4] (.node none .leaf (.node (some []) .leaf .leaf)) [d0,f1] Tryz.func90 h
def JH.pt(t0 t1:Value)(w:World)(K:PtK):Prop :=
 Y0 prog (X0 P5 t0) w fun t4 =>
 M0 prog (X4 t4) fun t5 =>
 M0 prog (O0 I6 t5 0) fun t6 =>
 Y0 prog (X0 b_ t6) w fun t7 =>
 upK prog (Z0 wS #[t7,(.int .i64 0)]) w fun t8 w1 =>
 M0 prog (R5 t8 0) fun t9 =>
 M0 prog (R5 t8 1) fun t10 =>
 upK prog (F4 F7 t1 t9) w1 fun tu w2 =>
 K t10 w2
theorem JH.up{t0 t1:Value}(h:JH.pt t0 t1 w K):upK prog (Z0 nD #[t0,t1]) w K :=
 upF [] .leaf [t0,t1] Tryz.func91 h
def FR.pt(d0 base1:Value)(w:World)(K:PtK):Prop :=
 M0 prog (Y3 .lss Q0 (.tmp 16) (.const (.int .i64 0)) base1 (.int .i64 0)) fun t17 =>
 ifB t17
 (K (.tuple #[(.pointer none),(.int .i64 1)]) w)
 (M0 prog (Y3 .gtr Q0 (.tmp 19) (.const (.int .i64 14)) base1 (.int .i64 14)) fun t20 =>
  ifB t20
  (K (.tuple #[(.pointer none),(.int .i64 1)]) w)
  (M0 prog (Y3 .add Q0 (.tmp 23) (.const (.int .i64 1)) base1 (.int .i64 1)) fun t24 =>
  upK prog (P6 J6 2 #[(0,base1),(1,t24)]) w fun t25 w1 =>
  Y0 prog (J5 .len #[J6] Q0 #[false] #[t25]) w1 fun t26 =>
  LOOP (X:=Value×Unit) (fun lv2 w2 next2 =>
   M0 prog (Y3 .lss Q0 (.tmp 27) (.tmp 26) lv2.1 t26) fun t28 =>
   ifB t28
   (M0 prog (Y4 J6 t25 lv2.1) fun t29 =>
   Y0 prog (X0 Q0 t29) w2 fun t30 =>
   upK prog (Z0 oC #[d0,t30]) w2 fun t33 w3 =>
   M0 prog (Y3 .neq Z6 (.tmp 34) (.const (.int .i64 0)) t33 (.int .i64 0)) fun t35 =>
   ifB t35
   (K (.tuple #[(.pointer none),t33]) w3)
   (M0 prog (Y3 .add Q0 (.tmp 27) (.const (.int .i64 1)) lv2.1 (.int .i64 1)) fun t37 =>
    next2 (t37,()) w3))
   (M0 prog (Y3 .add Q0 (.tmp 40) (.const (.int .i64 1)) base1 (.int .i64 1)) fun t41 =>
   upK prog (Z0 NT #[d0,t41]) w2 fun t42 w4 =>
   M0 prog (R5 t42 0) fun t43 =>
   M0 prog (R5 t42 1) fun t44 =>
   M0 prog (Y3 .neq Z6 (.tmp 45) (.const (.int .i64 0)) t44 (.int .i64 0)) fun t46 =>
   ifB t46
   (K (.tuple #[(.pointer none),t44]) w4)
   (upK prog (Z0 ZN #[t43]) w4 fun t50 w5 =>
    M0 prog (R5 t50 0) fun t51 =>
    M0 prog (R5 t50 1) fun t52 =>
    M0 prog (R5 t50 2) fun t53 =>
    M0 prog (sUn .not t53) fun t55 =>
    ifB t55
    (K (.tuple #[(.pointer none),(.int .i64 2)]) w5)
    (upK prog (Z0 XH #[d0,base1,(.int .i64 0),t51]) w5 fun t60 w6 =>
    M0 prog (R5 t60 0) fun t61 =>
    M0 prog (R5 t60 1) fun t62 =>
    M0 prog (Y3 .neq Z6 (.tmp 63) (.const (.int .i64 0)) t62 (.int .i64 0)) fun t64 =>
    ifB t64
    (K (.tuple #[(.pointer none),t62]) w6)
    (upK prog (Z0 xS #[t61,t52]) w6 fun t69 w7 =>
     M0 prog (R5 t69 0) fun t70 =>
     M0 prog (R5 t69 1) fun t71 =>
     M0 prog (sUn .not t71) fun t73 =>
     ifB t73
     (K (.tuple #[(.pointer none),(.int .i64 2)]) w7)
     (Y0 prog (J5 .len #[U2] Q0 #[false] #[t61]) w7 fun t76 =>
     M0 prog (Y3 .neq Q0 (.tmp 76) (.tmp 77) t76 t51) fun t78 =>
     ifB t78
     (K (.tuple #[(.pointer none),(.int .i64 2)]) w7)
     (M0 prog (G6 R4 #[(0,d0),(1,base1),(2,t43),(3,t70),(4,t51)]) fun t85 =>
      upK prog (yC R4 t85) w7 fun t86 w8 =>
      K (.tuple #[t86,(.int .i64 0)]) w8)))))))
  ((.int .i64 0),()) w1))
theorem FR.up{d0 base1:Value}(h:FR.pt d0 base1 w K):upK prog (Z0 wS #[d0,base1]) w K :=
 upF [4,5] .leaf [d0,base1] Tryz.func92 h
def KH.pt(t0 t1:Value)(w:World)(K:PtK):Prop :=
 Y0 prog (X0 P5 t0) w fun t4 =>
 M0 prog (X4 t4) fun t5 =>
 M0 prog (O0 I6 t5 0) fun t6 =>
 Y0 prog (X0 b_ t6) w fun t7 =>
 upK prog (Z0 NT #[t7,(.int .i64 2)]) w fun t8 w1 =>
 M0 prog (R5 t8 0) fun t9 =>
 M0 prog (R5 t8 1) fun t10 =>
 upK prog (F4 M8 t1 t9) w1 fun tu w2 =>
 K t10 w2
theorem KH.up{t0 t1:Value}(h:KH.pt t0 t1 w K):upK prog (Z0 oD #[t0,t1]) w K :=
 upF [] .leaf [t0,t1] Tryz.func93 h
def XX.pt(d0 file1:Value)(w:World)(K:PtK):Prop :=
 M0 prog (G6 M4 #[(0,d0),(1,file1)]) fun t13 =>
 upK prog (yC M4 t13) w fun t14 w1 =>
 upK prog (Z0 XH #[d0,file1,(.int .i64 0),(.int .i64 5)]) w1 fun t18 w2 =>
 M0 prog (R5 t18 0) fun t19 =>
 M0 prog (R5 t18 1) fun t20 =>
 M0 prog (Y3 .neq Z6 (.tmp 21) (.const (.int .i64 0)) t20 (.int .i64 0)) fun t22 =>
 ifB t22
 (K (.tuple #[(.pointer none),t20]) w2)
 (M0 prog (Y3 .eql U2 (.tmp 24) (.const (.string ⟨#[]⟩)) t19 (.string ⟨#[]⟩)) fun t25 =>
  ifB t25
  (K (.tuple #[t14,(.int .i64 0)]) w2)
  (M0 prog (RZ U2 t19 (.int .i64 0)) fun t28 =>
  M0 prog (Y3 .eql p_ (.tmp 28) (.const (.int .u8 0)) t28 (.int .u8 0)) fun t29 =>
  ifB t29
  (K (.tuple #[t14,(.int .i64 0)]) w2)
  (TE (X:=Unit) (fun jv1 w3 =>
   LOOP (X:=Value×Value×Unit) (fun lv4 w4 next4 =>
    M0 prog (Y3 .gtr Q0 (.tmp 45) (.const (.int .i64 0)) lv4.2.1 (.int .i64 0)) fun t46 =>
    ifB t46
    (M0 prog (Y3 .shl Q0 (.tmp 49) (.const (.int .u64 8)) lv4.1 (.int .u64 8)) fun t50 =>
    M0 prog (RZ U2 t19 lv4.2.1) fun t53 =>
    upK prog (iU p_ Q0 t53) w4 fun t54 w5 =>
    M0 prog (Y3 .or Q0 (.tmp 50) (.tmp 54) t50 t54) fun t55 =>
    M0 prog (Y3 .sub Q0 (.tmp 47) (.const (.int .i64 1)) lv4.2.1 (.int .i64 1)) fun t48 =>
    next4 (t55,t48,()) w5)
    (M0 prog (Y3 .gtr Q0 (.tmp 56) (.const (.int .i64 65536)) lv4.1 (.int .i64 65536)) fun t57 =>
    ifB t57
    (K (.tuple #[(.pointer none),(.int .i64 2)]) w4)
    (M0 prog (RZ U2 t19 (.int .i64 0)) fun t60 =>
     upK prog (iU p_ Q0 t60) w4 fun t61 w6 =>
     M0 prog (X4 t14) fun t62 =>
     M0 prog (O0 M4 t62 2) fun t63 =>
     upK prog (F4 Q0 t63 t61) w6 fun tu w7 =>
     M0 prog (X4 t14) fun t69 =>
     M0 prog (O0 M4 t69 2) fun t70 =>
     Y0 prog (X0 Q0 t70) w7 fun t71 =>
     M0 prog (Y4 IM (.pointer (some ⟨0,0,none⟩)) t71) fun t72 =>
     Y0 prog (X0 Q0 t72) w7 fun t73 =>
     upK prog (Z0 XH #[d0,file1,t73,lv4.1]) w7 fun t75 w8 =>
     M0 prog (R5 t75 0) fun t76 =>
     M0 prog (R5 t75 1) fun t77 =>
     M0 prog (X4 t14) fun t78 =>
     M0 prog (O0 M4 t78 3) fun t79 =>
     upK prog (F4 U2 t79 t76) w8 fun tu_1 w9 =>
     TE (X:=Value×Unit) (fun jv2 w10 =>
     M0 prog (Y3 .neq Z6 (.tmp 91) (.const (.int .i64 0)) jv2.1 (.int .i64 0)) fun t92 =>
     ifB t92
     (K (.tuple #[(.pointer none),jv2.1]) w10)
     (K (.tuple #[t14,(.int .i64 0)]) w10))
     (fun J2 =>
     M0 prog (Y3 .eql Z6 (.tmp 80) (.const (.int .i64 0)) t77 (.int .i64 0)) fun t81 =>
     ifB t81
     (M0 prog (X4 t14) fun t84 =>
      M0 prog (O0 M4 t84 3) fun t85 =>
      Y0 prog (X0 U2 t85) w9 fun t86 =>
      Y0 prog (J5 .len #[U2] Q0 #[false] #[t86]) w9 fun t87 =>
      M0 prog (Y3 .lss Q0 (.tmp 87) (.tmp 88) t87 lv4.1) fun t89 =>
      ifB t89
      (J2 ((.int .i64 2),()) w9)
      (J2 (t77,()) w9))
     (J2 (t77,()) w9)))))
   ((.int .i64 0),(.int .i64 4),()) w3)
   (fun J1 =>
   Y0 prog (J5 .len #[U2] Q0 #[false] #[t19]) w2 fun t33 =>
   M0 prog (Y3 .lss Q0 (.tmp 33) (.const (.int .i64 5)) t33 (.int .i64 5)) fun t34 =>
   ifB t34
   (K (.tuple #[(.pointer none),(.int .i64 2)]) w2)
   (M0 prog (RZ U2 t19 (.int .i64 0)) fun t37 =>
    M0 prog (Y3 .neq p_ (.tmp 37) (.const (.int .u8 1)) t37 (.int .u8 1)) fun t38 =>
    ifB t38
    (M0 prog (RZ U2 t19 (.int .i64 0)) fun t41 =>
    M0 prog (Y3 .neq p_ (.tmp 41) (.const (.int .u8 2)) t41 (.int .u8 2)) fun t42 =>
    ifB t42
    (K (.tuple #[(.pointer none),(.int .i64 2)]) w2)
    (J1 (()) w2))
    (J1 (()) w2))))))
theorem XX.up{d0 file1:Value}(h:XX.pt d0 file1 w K):upK prog (Z0 NT #[d0,file1]) w K :=
 upF [4,5] (.node none .leaf (.node none .leaf (.node none .leaf (.node none .leaf (.node none .leaf (.node (some []) .leaf (.node none .leaf (.node none .leaf (.node none .leaf (.node none .leaf (.node none .leaf (.node (some [8]) .leaf .leaf)))))))))))) [d0,file1] Tryz.func94 h
def gU.pt(id0 h1 log2:Value)(w:World)(K:PtK):Prop :=
 upK prog (yC H5 h1) w fun h4 w1 =>
 upK prog (Z0 G_ #[id0,(.int .i64 0),(.int .i64 2)]) w1 fun t8 w2 =>
 M0 prog (sUn .not t8) fun t9 =>
 ifB t9
 (K (.pointer none) w2)
 (M0 prog (O0 H5 h4 0) fun t11 =>
  Y0 prog (X0 Q0 t11) w2 fun t12 =>
  upK prog (Z0 G_ #[t12,(.int .i64 0),(.int .i64 1099511627776)]) w2 fun t13 w3 =>
  M0 prog (sUn .not t13) fun t14 =>
  ifB t14
  (K (.pointer none) w3)
  (M0 prog (O0 H5 h4 1) fun t17 =>
  Y0 prog (X0 Q0 t17) w3 fun t18 =>
  upK prog (Z0 G_ #[t18,(.int .i64 (-1)),(.int .i64 2)]) w3 fun t19 w4 =>
  M0 prog (sUn .not t19) fun t20 =>
  ifB t20
  (K (.pointer none) w4)
  (Y0 prog (J5 .len #[O3] Q0 #[false] #[log2]) w4 fun t24 =>
   M0 prog (Y3 .gtr Q0 (.tmp 24) (.const (.int .i64 4000)) t24 (.int .i64 4000)) fun t25 =>
   ifB t25
   (K (.pointer none) w4)
   (M0 prog (O0 H5 h4 0) fun t29 =>
   Y0 prog (X0 Q0 t29) w4 fun t30 =>
   upK prog (Z0 GM #[log2,(.int .i64 1),t30]) w4 fun t31 w5 =>
   M0 prog (sUn .not t31) fun t32 =>
   ifB t32
   (K (.pointer none) w5)
   (Y0 prog (X0 H5 h4) (tick w5) fun t35 =>
    upK prog (Z0 N8 #[log2]) (tick w5) fun t37 w6 =>
    Is prog (X0 H5 h4) t35 w6∧M0 prog (G6 I1 #[(0,id0),(1,t35),(2,t37)]) fun t38 =>
    upK prog (yC I1 t38) w6 fun t39 w7 =>
    K t39 w7)))))
theorem gU.up{id0 h1 log2:Value}(h:gU.pt id0 h1 log2 w K):upK prog (Z0 pU #[id0,h1,log2]) w K :=
 upF [6] .leaf [id0,h1,log2] Tryz.func95 h
def VV.pt(c0:Value)(w:World)(K:PtK):Prop :=
 upK prog (I7 H5) w fun t2 w1 =>
 upK prog (Z0 xM #[c0]) w1 fun t8 w2 =>
 M0 prog (R5 t8 0) fun t9 =>
 M0 prog (R5 t8 1) fun t10 =>
 M0 prog (sUn .not t10) fun t12 =>
 ifB t12
 (M0 prog (G6 H5 #[(1,(.int .i64 (-1)))]) fun t13 =>
  upK prog (F4 H5 t2 t13) w2 fun tu w3 =>
  S9 prog (do loadVar H5 (←asAddr t2)) w3 fun t2_1 =>
  K t2_1 w3)
 (upK prog (Z0 iB #[t9]) w2 fun t15 w4 =>
  upK prog (Z0 Y6 #[t15]) w4 fun t17 w5 =>
  upK prog (Z0 Y6 #[t15]) w5 fun t19 w6 =>
  M0 prog (G6 H5 #[(0,t17),(1,t19)]) fun t20 =>
  upK prog (F4 H5 t2 t20) w6 fun tu_1 w7 =>
  S9 prog (do loadVar H5 (←asAddr t2)) w7 fun t2_2 =>
  K t2_2 w7)
theorem VV.up{c0:Value}(h:VV.pt c0 w K):upK prog (Z0 yV #[c0]) w K :=
 upF [] .leaf [c0] Tryz.func96 h
def dQ.pt(j0:Value)(w:World)(K:PtK):Prop :=
 upK prog (Z0 LJ #[j0]) w fun t9 w1 =>
 Y0 prog (J5 .len #[K4] Q0 #[false] #[t9]) w1 fun t10 =>
 LOOP (X:=Value×Value×Unit) (fun lv2 w2 next2 =>
  M0 prog (Y3 .lss Q0 (.tmp 11) (.tmp 10) lv2.2.1 t10) fun t12 =>
  ifB t12
  (M0 prog (Y4 K4 t9 lv2.2.1) fun t13 =>
  Y0 prog (X0 U2 t13) w2 fun t14 =>
  upK prog (Z0 dO #[t14]) w2 fun t17 w3 =>
  M0 prog (R5 t17 0) fun t18 =>
  M0 prog (R5 t17 1) fun t19 =>
  upK prog (I7 U3) w3 fun x6 w4 =>
  upK prog (F4 U3 x6 t18) w4 fun tu w5 =>
  Y0 prog (X0 U3 x6) w5 fun t21 =>
  upK prog (P6 O3 1 #[(0,t21)]) w5 fun t22 w6 =>
  upK prog (J5 .append #[O3,O3] O3 #[false,false] #[lv2.1,t22]) w6 fun t23 w7 =>
  M0 prog (Y3 .add Q0 (.tmp 11) (.const (.int .i64 1)) lv2.2.1 (.int .i64 1)) fun t24 =>
  next2 (t23,t24,()) w7)
  (K lv2.1 w2))
 ((.slice none 0 0),(.int .i64 0),()) w1
theorem dQ.up{j0:Value}(h:dQ.pt j0 w K):upK prog (Z0 PQ #[j0]) w K :=
 upF [2] .leaf [j0] Tryz.func97 h
def gQ.pt(n0:Value)(w:World)(K:PtK):Prop :=
 M0 prog (X4 n0) fun t4 =>
 M0 prog (O0 y9 t4 0) fun t5 =>
 Y0 prog (X0 I5 t5) w fun t6 =>
 Y0 prog (J5 .len #[I5] Q0 #[false] #[t6]) w fun t7 =>
 K t7 w
theorem gQ.up{n0:Value}(h:gQ.pt n0 w K):upK prog (Z0 QQ #[n0]) w K :=
 upF [2] .leaf [n0] Tryz.func98 h
def AL.pt(g0 id1 f2:Value)(w:World)(K:PtK):Prop :=
 upK prog (Z0 aI #[g0,id1]) w fun t10 w1 =>
 M0 prog (Y3 .neq Z6 (.tmp 11) (.const (.int .i64 0)) t10 (.int .i64 0)) fun t12 =>
 ifB t12
 (K t10 w1)
 (M0 prog (X4 g0) fun t19 =>
  M0 prog (O0 Q3 t19 0) fun t20 =>
  M0 prog (Y4 E_ t20 id1) fun t21 =>
  M0 prog (O0 I6 t21 3) fun t22 =>
  Y0 prog (X0 R6 t22) w1 fun t23 =>
  upK prog (aA f2 #[t23]) w1 fun t24 w2 =>
  upK prog (Z0 bL #[g0,id1,t24]) w2 fun t25 w3 =>
  K t25 w3)
theorem AL.up{g0 id1 f2:Value}(h:AL.pt g0 id1 f2 w K):upK prog (Z0 OI #[g0,id1,f2]) w K :=
 upF [6] .leaf [g0,id1,f2] Tryz.func99 h
end
section
variable {w:World} {K:PtK}
def QG.pt(r0:Value)(w:World)(K:PtK):Prop :=
 upK prog (I7 Y2) w fun t2 w1 =>
 M0 prog (X4 r0) fun t8 =>
 M0 prog (O0 I1 t8 3) fun t9 =>
 Y0 prog (X0 Q0 t9) w1 fun t10 =>
 M0 prog (Y3 .eql Q0 (.tmp 10) (.const (.int .i64 2)) t10 (.int .i64 2)) fun t11 =>
 ifB t11
 (upK prog (Z0 TB #[r0]) w1 fun t13 w2 =>
  M0 prog (G6 Y2 #[(4,t13)]) fun t14 =>
  upK prog (F4 Y2 t2 t14) w2 fun tu w3 =>
  S9 prog (do loadVar Y2 (←asAddr t2)) w3 fun t2_1 =>
  K t2_1 w3)
 (M0 prog (X4 r0) fun t16 =>
  M0 prog (O0 I1 t16 1) fun t17 =>
  M0 prog (O0 H5 t17 0) fun t18 =>
  Y0 prog (X0 Q0 t18) w1 fun t19 =>
  M0 prog (Y3 .eql Q0 (.tmp 19) (.const (.int .i64 1099511627776)) t19 (.int .i64 1099511627776)) fun t20 =>
  ifB t20
  (M0 prog (G6 Y2 #[]) fun t21 =>
  upK prog (F4 Y2 t2 t21) w1 fun tu_1 w4 =>
  S9 prog (do loadVar Y2 (←asAddr t2)) w4 fun t2_2 =>
  K t2_2 w4)
  (M0 prog (X4 r0) fun t24 =>
  M0 prog (O0 I1 t24 1) fun t25 =>
  M0 prog (O0 H5 t25 0) fun t26 =>
  Y0 prog (X0 Q0 t26) (tick w1) fun t27 =>
  M0 prog (Y3 .add Q0 (.tmp 27) (.const (.int .i64 1)) t27 (.int .i64 1)) fun t28 =>
  M0 prog (X4 r0) fun t30 =>
  M0 prog (O0 I1 t30 0) fun t31 =>
  Y0 prog (X0 Q0 t31) (tick w1) fun t32 =>
  M0 prog (G6 H5 #[(0,t28),(1,t32)]) fun t33 =>
  M0 prog (X4 r0) fun t34 =>
  M0 prog (O0 I1 t34 1) fun t35 =>
  upK prog (F4 H5 t35 t33) (tick w1) fun tu_2 w5 =>
  M0 prog (G6 iI #[]) fun t38 =>
  M0 prog (X4 r0) fun t39 =>
  M0 prog (O0 I1 t39 3) fun t40 =>
  upK prog (F4 Q0 t40 (.int .i64 1)) w5 fun tu_3 w6 =>
  M0 prog (X4 r0) fun t41 =>
  M0 prog (O0 I1 t41 5) fun t42 =>
  upK prog (F4 iI t42 t38) w6 fun tu_4 w7 =>
  M0 prog (X4 r0) fun t45 =>
  M0 prog (O0 I1 t45 0) fun t46 =>
  Y0 prog (X0 Q0 t46) (tick w7) fun t47 =>
  M0 prog (X4 r0) fun t48 =>
  M0 prog (O0 I1 t48 5) fun t49 =>
  M0 prog (Y4 iI t49 t47) fun t50 =>
  upK prog (F4 EC t50 (.bool true)) (tick w7) fun tu_5 w8 =>
  M0 prog (X4 r0) fun t52 =>
  M0 prog (O0 I1 t52 1) fun t53 =>
  Y0 prog (X0 H5 t53) w8 fun t54 =>
  M0 prog (G6 Y2 #[(0,(.bool true)),(1,t54)]) fun t55 =>
  upK prog (I7 Y2) w8 fun o3 w9 =>
  upK prog (F4 Y2 o3 t55) w9 fun tu_6 w10 =>
  upK prog (Z0 UB #[r0]) w10 fun t57 w11 =>
  Y0 prog (J5 .len #[J6] Q0 #[false] #[t57]) w11 fun t58 =>
  LOOP (X:=Value×Unit) (fun lv12 w12 next12 =>
   M0 prog (Y3 .lss Q0 (.tmp 59) (.tmp 58) lv12.1 t58) fun t60 =>
   ifB t60
   (M0 prog (Y4 J6 t57 lv12.1) fun t61 =>
   Y0 prog (X0 Q0 t61) w12 fun t62 =>
   upK prog (Z0 xA #[r0,(.int .i64 0),t62]) w12 fun t65 w13 =>
   upK prog (I7 U1) w13 fun m6 w14 =>
   upK prog (F4 U1 m6 t65) w14 fun tu_7 w15 =>
   M0 prog (X4 r0) fun t67 =>
   M0 prog (O0 I1 t67 2) fun t68 =>
   Y0 prog (X0 O3 t68) (tick w15) fun t69 =>
   Y0 prog (J5 .len #[O3] Q0 #[false] #[t69]) (tick w15) fun t70 =>
   M0 prog (X4 r0) fun t73 =>
   M0 prog (O0 I1 t73 2) fun t74 =>
   Y0 prog (X0 O3 t74) (tick w15) fun t75 =>
   Y0 prog (J5 .len #[O3] Q0 #[false] #[t75]) (tick w15) fun t76 =>
   M0 prog (O0 U1 m6 4) fun t78 =>
   upK prog (Z0 F_ #[r0,t76]) (tick w15) fun t77 w16 =>
   Is prog (J5 .len #[O3] Q0 #[false] #[t69]) t70 w16∧Is prog (X0 O3 t68) t69 w16∧upK prog (F4 Q0 t78 t70) w16 fun tu_8 w17 =>
   M0 prog (O0 U1 m6 5) fun t79 =>
   upK prog (F4 Q0 t79 t77) w17 fun tu_9 w18 =>
   M0 prog (O0 Y2 o3 4) fun t80 =>
   Y0 prog (X0 W_ t80) w18 fun t81 =>
   Y0 prog (X0 U1 m6) w18 fun t82 =>
   upK prog (P6 W_ 1 #[(0,t82)]) w18 fun t83 w19 =>
   upK prog (J5 .append #[W_,W_] W_ #[false,false] #[t81,t83]) w19 fun t84 w20 =>
   M0 prog (O0 Y2 o3 4) fun t85 =>
   upK prog (F4 W_ t85 t84) w20 fun tu_10 w21 =>
   M0 prog (Y3 .add Q0 (.tmp 59) (.const (.int .i64 1)) lv12.1 (.int .i64 1)) fun t86 =>
   next12 (t86,()) w21)
   (Y0 prog (X0 Y2 o3) w12 fun t87 =>
   upK prog (F4 Y2 t2 t87) w12 fun tu_11 w22 =>
   S9 prog (do loadVar Y2 (←asAddr t2)) w22 fun t2_3 =>
   K t2_3 w22))
  ((.int .i64 0),()) w11))
theorem QG.up{r0:Value}(h:QG.pt r0 w K):upK prog (Z0 eO #[r0]) w K :=
 upF [] .leaf [r0] Tryz.func100 h
def PM.pt(n0 i1:Value)(w:World)(K:PtK):Prop :=
 upK prog (I7 U4) w fun t4 w1 =>
 upK prog (Z0 cO #[n0,i1]) w1 fun t11 w2 =>
 M0 prog (R5 t11 0) fun t12 =>
 M0 prog (R5 t11 1) fun t13 =>
 upK prog (I7 U4) w2 fun p6 w3 =>
 upK prog (F4 U4 p6 t12) w3 fun tu w4 =>
 M0 prog (sUn .not t13) fun t16 =>
 ifB t16
 (M0 prog (G6 U4 #[]) fun t17 =>
  upK prog (F4 U4 t4 t17) w4 fun tu_1 w5 =>
  S9 prog (do loadVar U4 (←asAddr t4)) w5 fun t4_1 =>
  K (.tuple #[t4_1,(.int .i64 4)]) w5)
 (M0 prog (O0 U4 p6 0) fun t20 =>
  Y0 prog (X0 Q0 t20) w4 fun t21 =>
  M0 prog (O0 U4 p6 1) fun t22 =>
  Y0 prog (X0 Q0 t22) w4 fun t23 =>
  upK prog (Z0 bO #[n0,t21,t23]) w4 fun t24 w6 =>
  M0 prog (sUn .not t24) fun t25 =>
  ifB t25
  (M0 prog (G6 U4 #[]) fun t26 =>
  upK prog (F4 U4 t4 t26) w6 fun tu_2 w7 =>
  S9 prog (do loadVar U4 (←asAddr t4)) w7 fun t4_2 =>
  K (.tuple #[t4_2,(.int .i64 10)]) w7)
  (Y0 prog (X0 U4 p6) w6 fun t27 =>
  upK prog (F4 U4 t4 t27) w6 fun tu_3 w8 =>
  S9 prog (do loadVar U4 (←asAddr t4)) w8 fun t4_3 =>
  K (.tuple #[t4_3,(.int .i64 0)]) w8))
theorem PM.up{n0 i1:Value}(h:PM.pt n0 i1 w K):upK prog (Z0 aO #[n0,i1]) w K :=
 upF [5] .leaf [n0,i1] Tryz.func101 h
def eG.pt(r0 t1:Value)(w:World)(K:PtK):Prop :=
 upK prog (I7 Y2) w fun t3 w1 =>
 M0 prog (O0 U4 t1 2) fun t7 =>
 Y0 prog (X0 U2 t7) w1 fun t8 =>
 upK prog (Z0 JS #[t8]) w1 fun t9 w2 =>
 M0 prog (R5 t9 0) fun t10 =>
 M0 prog (R5 t9 1) fun t11 =>
 upK prog (I7 U1) w2 fun m4 w3 =>
 upK prog (F4 U1 m4 t10) w3 fun tu w4 =>
 Y0 prog (X0 U1 m4) w4 fun t13 =>
 upK prog (Z0 UI #[r0,t13]) w4 fun t14 w5 =>
 upK prog (F4 Y2 t3 t14) w5 fun tu_1 w6 =>
 S9 prog (do loadVar Y2 (←asAddr t3)) w6 fun t3_1 =>
 K t3_1 w6
theorem eG.up{r0 t1:Value}(h:eG.pt r0 t1 w K):upK prog (Z0 ZH #[r0,t1]) w K :=
 upF [] .leaf [r0,t1] Tryz.func102 h
def XR.pt(s0:Value)(w:World)(K:PtK):Prop :=
 upK prog (I7 U1) w fun t2 w1 =>
 upK prog (Z0 iB #[s0]) w1 fun t8 w2 =>
 upK prog (Z0 Y6 #[t8]) w2 fun t10 w3 =>
 upK prog (Z0 Y6 #[t8]) w3 fun t12 w4 =>
 upK prog (Z0 Y6 #[t8]) w4 fun t14 w5 =>
 upK prog (Z0 Y6 #[t8]) w5 fun t16 w6 =>
 upK prog (Z0 Y6 #[t8]) w6 fun t18 w7 =>
 upK prog (Z0 Y6 #[t8]) w7 fun t20 w8 =>
 upK prog (Z0 Y6 #[t8]) w8 fun t22 w9 =>
 upK prog (Z0 Y6 #[t8]) w9 fun t24 w10 =>
 M0 prog (Y3 .eql Q0 (.tmp 24) (.const (.int .i64 1)) t24 (.int .i64 1)) fun t25 =>
 M0 prog (G6 U1 #[(0,t10),(1,t12),(2,t14),(3,t16),(4,t18),(5,t20),(6,t22),(7,t25)]) fun t26 =>
 upK prog (I7 U1) w10 fun m5 w11 =>
 upK prog (F4 U1 m5 t26) w11 fun tu w12 =>
 TE (X:=Unit) (fun jv1 w13 =>
  upK prog (Z0 jB #[t8]) w13 fun t50 w14 =>
  M0 prog (sUn .not t50) fun t51 =>
  ifB t51
  (M0 prog (G6 U1 #[]) fun t58 =>
  upK prog (F4 U1 t2 t58) w14 fun tu_1 w15 =>
  S9 prog (do loadVar U1 (←asAddr t2)) w15 fun t2_1 =>
  K (.tuple #[t2_1,(.bool false)]) w15)
  (Y0 prog (X0 U1 m5) w14 fun t53 =>
  upK prog (Z0 FM #[t53]) w14 fun t54 w16 =>
  M0 prog (Y3 .neq U2 (.tmp 54) (.tmp 55) t54 s0) fun t56 =>
  ifB t56
  (M0 prog (G6 U1 #[]) fun t58_1 =>
   upK prog (F4 U1 t2 t58_1) w16 fun tu_2 w17 =>
   S9 prog (do loadVar U1 (←asAddr t2)) w17 fun t2_2 =>
   K (.tuple #[t2_2,(.bool false)]) w17)
  (Y0 prog (X0 U1 m5) w16 fun t59 =>
   upK prog (F4 U1 t2 t59) w16 fun tu_3 w18 =>
   S9 prog (do loadVar U1 (←asAddr t2)) w18 fun t2_3 =>
   K (.tuple #[t2_3,(.bool true)]) w18)))
 (fun J1 =>
  upK prog (Z0 qE #[t8]) w12 fun t28 w19 =>
  LOOP (X:=Unit) (fun lv20 w20 next20 =>
  M0 prog (O0 U1 m5 8) fun t29 =>
  Y0 prog (X0 O3 t29) w20 fun t30 =>
  Y0 prog (J5 .len #[O3] Q0 #[false] #[t30]) w20 fun t31 =>
  M0 prog (Y3 .lss Q0 (.tmp 31) (.tmp 32) t31 t28) fun t33 =>
  ifB t33
  (upK prog (Z0 yD #[t8]) w20 fun t36 w21 =>
   M0 prog (Y3 .gtr Q0 (.tmp 36) (.const (.int .i64 0)) t36 (.int .i64 0)) fun t37 =>
   ifB t37
   (M0 prog (O0 U1 m5 8) fun t39 =>
   Y0 prog (X0 O3 t39) (tick w21) fun t40 =>
   upK prog (Z0 Y6 #[t8]) (tick w21) fun t42 w22 =>
   Is prog (X0 O3 t39) t40 w22∧upK prog (Z0 yA #[t8]) w22 fun t44 w23 =>
   Is prog (X0 O3 t39) t40 w23∧M0 prog (G6 U3 #[(0,t42),(1,t44)]) fun t45 =>
   upK prog (P6 O3 1 #[(0,t45)]) w23 fun t46 w24 =>
   Is prog (X0 O3 t39) t40 w24∧upK prog (J5 .append #[O3,O3] O3 #[false,false] #[t40,t46]) w24 fun t47 w25 =>
   M0 prog (O0 U1 m5 8) fun t48 =>
   upK prog (F4 O3 t48 t47) w25 fun tu_4 w26 =>
   next20 (()) w26)
   (J1 (()) w21))
  (J1 (()) w20))
  (()) w19)
theorem XR.up{s0:Value}(h:XR.pt s0 w K):upK prog (Z0 JS #[s0]) w K :=
 upF [3] (.node none .leaf (.node none .leaf (.node none .leaf (.node (some []) .leaf .leaf)))) [s0] Tryz.func103 h
def PG.pt(r0 m1:Value)(w:World)(K:PtK):Prop :=
 upK prog (yC U1 m1) w fun m3 w1 =>
 upK prog (I7 Y2) w1 fun t4 w2 =>
 Y0 prog (X0 U1 m3) w2 fun t8 =>
 upK prog (Z0 dI #[r0,t8]) w2 fun t9 w3 =>
 M0 prog (sUn .not t9) fun t10 =>
 ifB t10
 (M0 prog (G6 Y2 #[]) fun t11 =>
  upK prog (F4 Y2 t4 t11) w3 fun tu w4 =>
  S9 prog (do loadVar Y2 (←asAddr t4)) w4 fun t4_1 =>
  K t4_1 w4)
 (M0 prog (X4 r0) fun t13 =>
  M0 prog (O0 I1 t13 1) fun t14 =>
  Y0 prog (X0 H5 t14) w3 fun t15 =>
  upK prog (I7 H5) w3 fun before5 w5 =>
  upK prog (F4 H5 before5 t15) w5 fun tu_1 w6 =>
  TE (X:=Unit) (fun jv1 w7 =>
  upK prog (I7 Y2) w7 fun o6 w8 =>
  TE (X:=Unit) (fun jv2 w9 =>
   TE (X:=Unit) (fun jv3 w10 =>
   Y0 prog (X0 Y2 o6) w10 fun t67 =>
   upK prog (F4 Y2 t4 t67) w10 fun tu_2 w11 =>
   S9 prog (do loadVar Y2 (←asAddr t4)) w11 fun t4_2 =>
   K t4_2 w11)
   (fun J3 =>
   M0 prog (X4 r0) fun t56 =>
   M0 prog (O0 I1 t56 1) fun t57 =>
   Y0 prog (X0 H5 t57) (tick w9) fun t58 =>
   Y0 prog (X0 H5 before5) (tick w9) fun t59 =>
   M0 prog (Y3 .neq H5 (.tmp 58) (.tmp 59) t58 t59) fun t60 =>
   ifB t60
   (M0 prog (X4 r0) fun t62 =>
    M0 prog (O0 I1 t62 1) fun t63 =>
    Y0 prog (X0 H5 t63) (tick (tick w9)) fun t64 =>
    M0 prog (O0 Y2 o6 0) fun t65 =>
    upK prog (F4 EC t65 (.bool true)) (tick (tick w9)) fun tu_3 w12 =>
    Is prog (X0 H5 t63) t64 w12∧M0 prog (O0 Y2 o6 1) fun t66 =>
    upK prog (F4 H5 t66 t64) w12 fun tu_4 w13 =>
    J3 (()) w13)
   (J3 (()) (tick w9))))
  (fun J2 =>
   M0 prog (O0 U1 m3 0) fun t33 =>
   Y0 prog (X0 Q0 t33) w8 fun t34 =>
   M0 prog (Y3 .eql Q0 (.tmp 34) (.const (.int .i64 0)) t34 (.int .i64 0)) fun t36 =>
   ifB t36
   (Y0 prog (X0 U1 m3) w8 fun t38 =>
   upK prog (Z0 VI #[r0,t38]) w8 fun t39 w14 =>
   upK prog (F4 Y2 o6 t39) w14 fun tu_5 w15 =>
   J2 (()) w15)
   (M0 prog (Y3 .eql Q0 (.tmp 34) (.const (.int .i64 1)) t34 (.int .i64 1)) fun t41 =>
   ifB t41
   (Y0 prog (X0 U1 m3) w8 fun t43 =>
    upK prog (Z0 fI #[r0,t43]) w8 fun t44 w16 =>
    upK prog (F4 Y2 o6 t44) w16 fun tu_6 w17 =>
    J2 (()) w17)
   (M0 prog (Y3 .eql Q0 (.tmp 34) (.const (.int .i64 2)) t34 (.int .i64 2)) fun t46 =>
    ifB t46
    (Y0 prog (X0 U1 m3) w8 fun t48 =>
    upK prog (Z0 ZG #[r0,t48]) w8 fun t49 w18 =>
    upK prog (F4 Y2 o6 t49) w18 fun tu_7 w19 =>
    J2 (()) w19)
    (M0 prog (Y3 .eql Q0 (.tmp 34) (.const (.int .i64 3)) t34 (.int .i64 3)) fun t51 =>
    ifB t51
    (Y0 prog (X0 U1 m3) w8 fun t53 =>
     upK prog (Z0 EF #[r0,t53]) w8 fun t54 w20 =>
     upK prog (F4 Y2 o6 t54) w20 fun tu_8 w21 =>
     J2 (()) w21)
    (J2 (()) w8))))))
  (fun J1 =>
  M0 prog (O0 U1 m3 3) fun t16 =>
  Y0 prog (X0 Q0 t16) (tick w6) fun t17 =>
  M0 prog (X4 r0) fun t19 =>
  M0 prog (O0 I1 t19 1) fun t20 =>
  M0 prog (O0 H5 t20 0) fun t21 =>
  Y0 prog (X0 Q0 t21) (tick w6) fun t22 =>
  M0 prog (Y3 .gtr Q0 (.tmp 17) (.tmp 22) t17 t22) fun t23 =>
  ifB t23
  (M0 prog (O0 U1 m3 3) fun t26 =>
   Y0 prog (X0 Q0 t26) (tick w6) fun t27 =>
   M0 prog (G6 H5 #[(0,t27),(1,(.int .i64 (-1)))]) fun t28 =>
   M0 prog (X4 r0) fun t29 =>
   M0 prog (O0 I1 t29 1) fun t30 =>
   upK prog (F4 H5 t30 t28) (tick w6) fun tu_9 w22 =>
   M0 prog (X4 r0) fun t31 =>
   M0 prog (O0 I1 t31 3) fun t32 =>
   upK prog (F4 Q0 t32 (.int .i64 0)) w22 fun tu_10 w23 =>
   J1 (()) w23)
  (J1 (()) (tick w6))))
theorem PG.up{r0 m1:Value}(h:PG.pt r0 m1 w K):upK prog (Z0 UI #[r0,m1]) w K :=
 upF [] (.node none .leaf (.node none .leaf (.node none .leaf (.node (some []) .leaf (.node none .leaf (.node (some []) .leaf (.node (some []) .leaf .leaf))))))) [r0,m1] Tryz.func104 h
def MR.pt(n0 i1:Value)(w:World)(K:PtK):Prop :=
 upK prog (Z0 cO #[n0,i1]) w fun t10 w1 =>
 M0 prog (R5 t10 0) fun t11 =>
 M0 prog (R5 t10 1) fun t12 =>
 upK prog (I7 U4) w1 fun t5 w2 =>
 upK prog (F4 U4 t5 t11) w2 fun tu w3 =>
 M0 prog (sUn .not t12) fun t14 =>
 ifB t14
 (K (.int .i64 4) w3)
 (K (.int .i64 0) w3)
theorem MR.up{n0 i1:Value}(h:MR.pt n0 i1 w K):upK prog (Z0 yS #[n0,i1]) w K :=
 upF [4] .leaf [n0,i1] Tryz.func105 h
def EO.pt(n0 i1:Value)(w:World)(K:PtK):Prop :=
 M0 prog (Y3 .lss Q0 (.tmp 6) (.const (.int .i64 0)) i1 (.int .i64 0)) fun t7 =>
 ifB t7
 (K (.int .i64 4) w)
 (M0 prog (X4 n0) fun t11 =>
  M0 prog (O0 y9 t11 0) fun t12 =>
  Y0 prog (X0 I5 t12) w fun t13 =>
  Y0 prog (J5 .len #[I5] Q0 #[false] #[t13]) w fun t14 =>
  M0 prog (Y3 .geq Q0 (.tmp 9) (.tmp 14) i1 t14) fun t15 =>
  ifB t15
  (K (.int .i64 4) w)
  (M0 prog (X4 n0) fun t19 =>
  M0 prog (O0 y9 t19 0) fun t20 =>
  Y0 prog (X0 I5 t20) w fun t21 =>
  Y0 prog (J5 .len #[I5] Q0 #[false] #[t21]) w fun t22 =>
  M0 prog (Y3 .geq Q0 (.tmp 22) (.const (.int .i64 500)) t22 (.int .i64 500)) fun t23 =>
  ifB t23
  (K (.int .i64 6) w)
  (M0 prog (X4 n0) fun t26 =>
   M0 prog (O0 y9 t26 0) fun t27 =>
   Y0 prog (X0 I5 t27) (tick w) fun t28 =>
   M0 prog (X4 n0) fun t30 =>
   M0 prog (O0 y9 t30 0) fun t31 =>
   Y0 prog (X0 I5 t31) (tick w) fun t32 =>
   M0 prog (Y4 I5 t32 i1) fun t34 =>
   Y0 prog (X0 U4 t34) (tick w) fun t35 =>
   upK prog (P6 I5 1 #[(0,t35)]) (tick w) fun t36 w1 =>
   Is prog (X0 I5 t27) t28 w1∧upK prog (J5 .append #[I5,I5] I5 #[false,false] #[t28,t36]) w1 fun t37 w2 =>
   M0 prog (X4 n0) fun t38 =>
   M0 prog (O0 y9 t38 0) fun t39 =>
   upK prog (F4 I5 t39 t37) w2 fun tu w3 =>
   K (.int .i64 0) w3)))
theorem EO.up{n0 i1:Value}(h:EO.pt n0 i1 w K):upK prog (Z0 iP #[n0,i1]) w K :=
 upF [4] .leaf [n0,i1] Tryz.func106 h
def iQ.pt(n0 mask1:Value)(w:World)(K:PtK):Prop :=
 M0 prog (Y3 .and Q0 (.tmp 5) (.const (.int .i64 65535)) mask1 (.int .i64 65535)) fun t6 =>
 M0 prog (X4 n0) fun t7 =>
 M0 prog (O0 y9 t7 1) fun t8 =>
 upK prog (F4 Q0 t8 t6) w fun tu w1 =>
 K (.tuple #[]) w1
theorem iQ.up{n0 mask1:Value}(h:iQ.pt n0 mask1 w K):upK prog (Z0 RQ #[n0,mask1]) w K :=
 upF [] .leaf [n0,mask1] Tryz.func107 h
def NR.pt(n0:Value)(w:World)(K:PtK):Prop :=
 M0 prog (X4 n0) fun t3 =>
 M0 prog (O0 y9 t3 1) fun t4 =>
 upK prog (F4 Q0 t4 (.int .i64 0)) w fun tu w1 =>
 K (.tuple #[]) w1
theorem NR.up{n0:Value}(h:NR.pt n0 w K):upK prog (Z0 zS #[n0]) w K :=
 upF [] .leaf [n0] Tryz.func108 h
def FH.pt(g0 id1 f2:Value)(w:World)(K:PtK):Prop :=
 upK prog (Z0 aI #[g0,id1]) w fun t10 w1 =>
 M0 prog (Y3 .eql Z6 (.tmp 10) (.const (.int .i64 1)) t10 (.int .i64 1)) fun t11 =>
 ifB t11
 (K (.int .i64 1) w1)
 (M0 prog (X4 g0) fun t15 =>
  M0 prog (O0 Q3 t15 0) fun t16 =>
  M0 prog (Y4 E_ t16 id1) fun t17 =>
  upK prog (aA f2 #[t17]) w1 fun t18 w2 =>
  upK prog (Z0 CF #[g0]) w2 fun t20 w3 =>
  K t18 w3)
theorem FH.up{g0 id1 f2:Value}(h:FH.pt g0 id1 f2 w K):upK prog (Z0 SB #[g0,id1,f2]) w K :=
 upF [6] .leaf [g0,id1,f2] Tryz.func109 h
def xH.pt(m0 t1:Value)(w:World)(K:PtK):Prop :=
 M0 prog (X4 m0) fun t5 =>
 M0 prog (O0 I6 t5 0) fun t6 =>
 Y0 prog (X0 b_ t6) (tick w) fun t7 =>
 Y0 prog (X0 J6 t1) (tick w) fun t8 =>
 upK prog (Z0 kE #[t7,t8]) (tick w) fun t9 w1 =>
 upK prog (Z0 oH #[m0]) w1 fun t11 w2 =>
 K (.int .i64 0) w2
theorem xH.up{m0 t1:Value}(h:xH.pt m0 t1 w K):upK prog (Z0 TF #[m0,t1]) w K :=
 upF [3] .leaf [m0,t1] Tryz.func110 h
def JM.pt(d0 keep1:Value)(w:World)(K:PtK):Prop :=
 M0 prog (X4 d0) fun t11 =>
 M0 prog (O0 F5 t11 4) fun t12 =>
 Y0 prog (X0 EC t12) w fun t13 =>
 ifB t13
 (K (.tuple #[]) w)
 (M0 prog (X4 d0) fun t16 =>
  M0 prog (O0 F5 t16 4) fun t17 =>
  upK prog (F4 EC t17 (.bool true)) w fun tu w1 =>
  M0 prog (X4 d0) fun t18 =>
  M0 prog (O0 F5 t18 5) fun t19 =>
  upK prog (F4 Q0 t19 (.int .i64 0)) w1 fun tu_1 w2 =>
  M0 prog (X4 d0) fun t21 =>
  M0 prog (O0 F5 t21 1) fun t22 =>
  Y0 prog (X0 N7 t22) w2 fun t23 =>
  Y0 prog (J5 .len #[N7] Q0 #[false] #[t23]) w2 fun t24 =>
  LOOP (X:=Value×Unit) (fun lv3 w3 next3 =>
  M0 prog (Y3 .lss Q0 (.tmp 25) (.tmp 24) lv3.1 t24) fun t26 =>
  ifB t26
  (TE (X:=Unit) (fun jv1 w4 =>
   M0 prog (Y3 .add Q0 (.tmp 25) (.const (.int .i64 1)) lv3.1 (.int .i64 1)) fun t83 =>
   next3 (t83,()) w4)
   (fun J1 =>
   M0 prog (Y4 N7 t23 lv3.1) fun t28 =>
   Y0 prog (X0 O4 t28) w3 fun t29 =>
   upK prog (I7 O4) w3 fun p5 w5 =>
   upK prog (F4 O4 p5 t29) w5 fun tu_2 w6 =>
   M0 prog (X4 d0) fun t31 =>
   M0 prog (O0 F5 t31 0) fun t32 =>
   Y0 prog (X0 u6 t32) (tick w6) fun t33 =>
   M0 prog (O0 O4 p5 0) fun t34 =>
   Y0 prog (X0 Q0 t34) (tick w6) fun t35 =>
   Y0 prog (lK u6 t33 t35 false) (tick w6) fun t36 =>
   M0 prog (O0 O4 p5 1) fun t37 =>
   Y0 prog (X0 Q0 t37) (tick w6) fun t38 =>
   M0 prog (Y3 .mul Q0 (.tmp 38) (.const (.int .i64 64)) t38 (.int .i64 64)) fun t39 =>
   upK prog (I7 D8) (tick w6) fun f6 w7 =>
   Is prog (X0 Q0 t37) t38 w7∧Is prog (lK u6 t33 t35 false) t36 w7∧Is prog (X0 Q0 t34) t35 w7∧Is prog (X0 u6 t32) t33 w7∧upK prog (F4 D8 f6 t36) w7 fun tu_3 w8 =>
   Is prog (X0 Q0 t37) t38 w8∧Y0 prog (J5 .len #[J6] Q0 #[false] #[keep1]) w8 fun t41 =>
   M0 prog (Y3 .eql Q0 (.tmp 41) (.const (.int .i64 0)) t41 (.int .i64 0)) fun t42 =>
   ifB t42
   (J1 (()) w8)
   (Y0 prog (J5 .len #[J6] Q0 #[false] #[keep1]) w8 fun t47 =>
    M0 prog (Y3 .rem Q0 (.tmp 45) (.tmp 47) lv3.1 t47) fun t48 =>
    M0 prog (Y4 J6 keep1 t48) fun t49 =>
    Y0 prog (X0 Q0 t49) w8 fun t50 =>
    M0 prog (Y3 .and Q0 (.tmp 50) (.const (.int .i64 1)) t50 (.int .i64 1)) fun t51 =>
    M0 prog (Y3 .eql Q0 (.tmp 51) (.const (.int .i64 0)) t51 (.int .i64 0)) fun t52 =>
    ifB t52
    (J1 (()) w8)
    (M0 prog (O0 D8 f6 0) fun t56 =>
    Y0 prog (X0 U2 t56) w8 fun t57 =>
    Y0 prog (J5 .len #[U2] Q0 #[false] #[t57]) w8 fun t58 =>
    M0 prog (Y3 .geq Q0 (.tmp 55) (.tmp 58) t39 t58) fun t59 =>
    ifB t59
    (J1 (()) w8)
    (M0 prog (O0 D8 f6 1) fun t61 =>
     Y0 prog (X0 U2 t61) (tick w8) fun t62 =>
     M0 prog (O0 D8 f6 0) fun t64 =>
     Y0 prog (X0 U2 t64) (tick w8) fun t65 =>
     M0 prog (Y3 .add Q0 (.tmp 67) (.const (.int .i64 64)) t39 (.int .i64 64)) fun t68 =>
     M0 prog (O0 D8 f6 0) fun t69 =>
     Y0 prog (X0 U2 t69) (tick w8) fun t70 =>
     Y0 prog (J5 .len #[U2] Q0 #[false] #[t70]) (tick w8) fun t71 =>
     M0 prog (J5 .min #[Q0,Q0] Q0 #[false,false] #[t68,t71]) fun t72 =>
     M0 prog (d9 U2 t65 (some t39) (some t72) none) fun t73 =>
     upK prog (Z0 xV #[t62,t39,t73]) (tick w8) fun t74 w9 =>
     M0 prog (O0 D8 f6 1) fun t75 =>
     upK prog (F4 U2 t75 t74) w9 fun tu_4 w10 =>
     M0 prog (X4 d0) fun t77 =>
     M0 prog (O0 F5 t77 0) fun t78 =>
     Y0 prog (X0 u6 t78) (tick w10) fun t79 =>
     M0 prog (O0 O4 p5 0) fun t80 =>
     Y0 prog (X0 Q0 t80) (tick w10) fun t81 =>
     Y0 prog (X0 D8 f6) (tick w10) fun t82 =>
     upK prog (tY u6 t79 t81 t82) (tick w10) fun tu_5 w11 =>
     J1 (()) w11)))))
  (M0 prog (X4 d0) fun t85 =>
   M0 prog (O0 F5 t85 0) fun t86 =>
   Y0 prog (X0 u6 t86) w3 fun t87 =>
   upK prog (vo0 u6 t87) w3 fun t88 w12 =>
   LOOP (X:=Unit) (fun lv13 w13 next13 =>
   upK prog (Gx0 t88 false T_) w13 fun t89 w14 =>
   M0 prog (R5 t89 0) fun t90 =>
   ifB t90
   (upK prog (uo0 t88) w14 fun t91 w15 =>
    M0 prog (R5 t91 0) fun t92 =>
    M0 prog (R5 t91 1) fun t93 =>
    upK prog (I7 D8) w15 fun f9 w16 =>
    upK prog (F4 D8 f9 t93) w16 fun tu_6 w17 =>
    M0 prog (X4 d0) fun t95 =>
    M0 prog (O0 F5 t95 0) fun t96 =>
    Y0 prog (X0 u6 t96) (tick w17) fun t97 =>
    M0 prog (O0 D8 f9 1) fun t99 =>
    Y0 prog (X0 U2 t99) (tick w17) fun t100 =>
    M0 prog (O0 D8 f9 1) fun t101 =>
    Y0 prog (X0 U2 t101) (tick w17) fun t102 =>
    M0 prog (G6 D8 #[(0,t100),(1,t102)]) fun t103 =>
    upK prog (tY u6 t97 t92 t103) (tick w17) fun tu_7 w18 =>
    next13 (()) w18)
   (upK prog (Aj0 K7 none) w14 fun t106 w19 =>
    M0 prog (X4 d0) fun t107 =>
    M0 prog (O0 F5 t107 1) fun t108 =>
    upK prog (F4 N7 t108 (.slice none 0 0)) w19 fun tu_8 w20 =>
    M0 prog (X4 d0) fun t109 =>
    M0 prog (O0 F5 t109 2) fun t110 =>
    upK prog (F4 K7 t110 t106) w20 fun tu_9 w21 =>
    K (.tuple #[]) w21))
   (()) w12))
  ((.int .i64 0),()) w2)
theorem JM.up{d0 keep1:Value}(h:JM.pt d0 keep1 w K):upK prog (Z0 kE #[d0,keep1]) w K :=
 upF [] (.node none .leaf (.node none .leaf (.node none (.node none .leaf (.node none (.node none (.node none .leaf (.node none .leaf (.node (some []) .leaf .leaf))) .leaf) .leaf)) .leaf))) [d0,keep1] Tryz.func111 h
def fK.pt(m0:Value)(w:World)(K:PtK):Prop :=
 M0 prog (X4 m0) fun t5 =>
 M0 prog (O0 I6 t5 1) fun t6 =>
 upK prog (F4 F7 t6 (.pointer none)) w fun tu w1 =>
 M0 prog (X4 m0) fun t7 =>
 M0 prog (O0 I6 t7 2) fun t8 =>
 upK prog (F4 M8 t8 (.pointer none)) w1 fun tu_1 w2 =>
 M0 prog (X4 m0) fun t9 =>
 M0 prog (O0 I6 t9 3) fun t10 =>
 upK prog (F4 R6 t10 (.pointer none)) w2 fun tu_2 w3 =>
 K (.tuple #[]) w3
theorem fK.up{m0:Value}(h:fK.pt m0 w K):upK prog (Z0 oH #[m0]) w K :=
 upF [] .leaf [m0] Tryz.func112 h
def EH.pt(m0 t1:Value)(w:World)(K:PtK):Prop :=
 M0 prog (X4 m0) fun t5 =>
 M0 prog (O0 I6 t5 3) fun t6 =>
 Y0 prog (X0 R6 t6) w fun t7 =>
 M0 prog (Y3 .neq R6 (.tmp 7) (.const (.pointer none)) t7 (.pointer none)) fun t8 =>
 ifB t8
 (K (.int .i64 7) w)
 (M0 prog (X4 m0) fun t10 =>
  M0 prog (O0 I6 t10 0) fun t11 =>
  Y0 prog (X0 b_ t11) w fun t12 =>
  upK prog (Z0 WN #[t12]) w fun t13 w1 =>
  Y0 prog (X0 Q0 t1) w1 fun t15 =>
  upK prog (Z0 PE #[m0,t15]) w1 fun t16 w2 =>
  K t16 w2)
theorem EH.up{m0 t1:Value}(h:EH.pt m0 t1 w K):upK prog (Z0 WF #[m0,t1]) w K :=
 upF [3] .leaf [m0,t1] Tryz.func113 h
def KM.pt(d0:Value)(w:World)(K:PtK):Prop :=
 M0 prog (X4 d0) fun t3 =>
 M0 prog (O0 F5 t3 4) fun t4 =>
 upK prog (F4 EC t4 (.bool false)) w fun tu w1 =>
 K (.tuple #[]) w1
theorem KM.up{d0:Value}(h:KM.pt d0 w K):upK prog (Z0 WN #[d0]) w K :=
 upF [] .leaf [d0] Tryz.func114 h
def gJ.pt(m0 t1:Value)(w:World)(K:PtK):Prop :=
 M0 prog (X4 m0) fun t5 =>
 M0 prog (O0 I6 t5 0) fun t6 =>
 Y0 prog (X0 b_ t6) (tick w) fun t7 =>
 Y0 prog (X0 Q0 t1) (tick w) fun t8 =>
 upK prog (Z0 gP #[t7,t8]) (tick w) fun t9 w1 =>
 K (.int .i64 0) w1
theorem gJ.up{m0 t1:Value}(h:gJ.pt m0 t1 w K):upK prog (Z0 wG #[m0,t1]) w K :=
 upF [3] .leaf [m0,t1] Tryz.func115 h
def oO.pt(d0 n1:Value)(w:World)(K:PtK):Prop :=
 M0 prog (J5 .max #[Q0,Q0] Q0 #[false,true] #[n1,(.int .i64 0)]) fun t6 =>
 M0 prog (X4 d0) fun t7 =>
 M0 prog (O0 F5 t7 3) fun t8 =>
 upK prog (F4 Q0 t8 t6) w fun tu w1 =>
 K (.tuple #[]) w1
theorem oO.up{d0 n1:Value}(h:oO.pt d0 n1 w K):upK prog (Z0 gP #[d0,n1]) w K :=
 upF [] .leaf [d0,n1] Tryz.func116 h
def ZJ.pt(m0 t1 t2:Value)(w:World)(K:PtK):Prop :=
 M0 prog (X4 m0) fun t6 =>
 M0 prog (O0 I6 t6 0) fun t7 =>
 Y0 prog (X0 b_ t7) (tick w) fun t8 =>
 Y0 prog (X0 Q0 t1) (tick w) fun t9 =>
 Y0 prog (X0 J6 t2) (tick w) fun t10 =>
 upK prog (Z0 OQ #[t8,t9,t10]) (tick w) fun t11 w1 =>
 K (.int .i64 0) w1
theorem ZJ.up{m0 t1 t2:Value}(h:ZJ.pt m0 t1 t2 w K):upK prog (Z0 nH #[m0,t1,t2]) w K :=
 upF [4] .leaf [m0,t1,t2] Tryz.func117 h
def TP.pt(d0 n1 keep2:Value)(w:World)(K:PtK):Prop :=
 M0 prog (J5 .max #[Q0,Q0] Q0 #[false,true] #[n1,(.int .i64 0)]) fun t9 =>
 upK prog (Z0 VB #[keep2]) w fun t11 w1 =>
 M0 prog (X4 d0) fun t12 =>
 M0 prog (O0 F5 t12 5) fun t13 =>
 upK prog (F4 Q0 t13 t9) w1 fun tu w2 =>
 M0 prog (X4 d0) fun t14 =>
 M0 prog (O0 F5 t14 6) fun t15 =>
 upK prog (F4 J6 t15 t11) w2 fun tu_1 w3 =>
 K (.tuple #[]) w3
theorem TP.up{d0 n1 keep2:Value}(h:TP.pt d0 n1 keep2 w K):upK prog (Z0 OQ #[d0,n1,keep2]) w K :=
 upF [] .leaf [d0,n1,keep2] Tryz.func118 h
def sJ.pt(s0 e1:Value)(w:World)(K:PtK):Prop :=
 upK prog (yC X5 e1) w fun e3 w1 =>
 M0 prog (O0 X5 e3 0) fun t5 =>
 Y0 prog (X0 Q0 t5) (tick w1) fun t6 =>
 M0 prog (X4 s0) fun t8 =>
 M0 prog (O0 O8 t8 0) fun t9 =>
 Y0 prog (X0 Q0 t9) (tick w1) fun t10 =>
 M0 prog (Y3 .eql Q0 (.tmp 6) (.tmp 10) t6 t10) fun t11 =>
 ifB t11
 (M0 prog (O0 X5 e3 2) fun t13 =>
  Y0 prog (X0 U2 t13) (tick w1) fun t14 =>
  Y0 prog (J5 .len #[U2] Q0 #[false] #[t14]) (tick w1) fun t15 =>
  M0 prog (Y3 .leq Q0 (.tmp 15) (.const (.int .i64 200)) t15 (.int .i64 200)) fun t16 =>
  ifB t16
  (M0 prog (O0 X5 e3 3) fun t19 =>
  Y0 prog (X0 Q0 t19) (tick w1) fun t20 =>
  M0 prog (Y3 .geq Q0 (.tmp 20) (.const (.int .i64 0)) t20 (.int .i64 0)) fun t21 =>
  ifB t21
  (M0 prog (O0 X5 e3 4) fun t24 =>
   Y0 prog (X0 Q0 t24) (tick w1) fun t25 =>
   M0 prog (Y3 .geq Q0 (.tmp 25) (.const (.int .i64 0)) t25 (.int .i64 0)) fun t26 =>
   ifB t26
   (M0 prog (O0 X5 e3 4) fun t29 =>
   Y0 prog (X0 Q0 t29) (tick w1) fun t30 =>
   M0 prog (Y3 .leq Q0 (.tmp 30) (.const (.int .i64 1099511627776)) t30 (.int .i64 1099511627776)) fun t31 =>
   K t31 (tick w1))
   (K (.bool false) (tick w1)))
  (K (.bool false) (tick w1)))
  (K (.bool false) (tick w1)))
 (K (.bool false) (tick w1))
theorem sJ.up{s0 e1:Value}(h:sJ.pt s0 e1 w K):upK prog (Z0 EK #[s0,e1]) w K :=
 upF [4] .leaf [s0,e1] Tryz.func119 h
def VO.pt(r0:Value)(w:World)(K:PtK):Prop :=
 Y0 prog (J5 .len #[G5] Q0 #[false] #[r0]) w fun t4 =>
 M0 prog (Y3 .leq Q0 (.tmp 4) (.const (.int .i64 12)) t4 (.int .i64 12)) fun t5 =>
 ifB t5
 (upK prog (Z0 Fe0 #[r0]) w fun t8 w1 =>
  K t8 w1)
 (K (.bool false) w)
theorem VO.up{r0:Value}(h:VO.pt r0 w K):upK prog (Z0 vF #[r0]) w K :=
 upF [2] .leaf [r0] Tryz.func120 h
def uJ.pt(r0 end1 least2:Value)(w:World)(K:PtK):Prop :=
 M0 prog (X4 r0) fun t12 =>
 M0 prog (O0 K8 t12 0) fun t13 =>
 Y0 prog (X0 U2 t13) (tick w) fun t14 =>
 M0 prog (X4 r0) fun t16 =>
 M0 prog (O0 K8 t16 0) fun t17 =>
 Y0 prog (X0 U2 t17) (tick w) fun t18 =>
 Y0 prog (J5 .len #[U2] Q0 #[false] #[t18]) (tick w) fun t19 =>
 M0 prog (J5 .min #[Q0,Q0] Q0 #[false,true] #[t19,(.int .i64 21)]) fun t20 =>
 M0 prog (d9 U2 t14 none (some t20) none) fun t21 =>
 upK prog (Z0 SE #[t21,end1]) (tick w) fun t24 w1 =>
 M0 prog (Y3 .lss Q0 (.tmp 25) (.const (.int .i64 0)) t24 (.int .i64 0)) fun t26 =>
 ifB t26
 (upK prog (Z0 zA #[r0]) w1 fun t28 w2 =>
  K (.int .i64 0) w2)
 (M0 prog (d9 U2 t21 none (some t24) none) fun t32 =>
  upK prog (Z0 QC #[t32]) w1 fun t33 w3 =>
  M0 prog (R5 t33 0) fun t34 =>
  M0 prog (R5 t33 1) fun t35 =>
  M0 prog (Y3 .neq ia0 (.tmp 36) (.const .nilIface) t35 .nilIface) fun t37 =>
  ifB t37
  (upK prog (Z0 zA #[r0]) (tick w3) fun t52 w4 =>
  K (.int .i64 0) w4)
  (M0 prog (d9 U2 t21 none (some t24) none) fun t43 =>
  upK prog (Z0 XD #[t34]) (tick w3) fun t40 w5 =>
  M0 prog (Y3 .neq U2 (.tmp 40) (.tmp 43) t40 t43) fun t44 =>
  ifB t44
  (upK prog (Z0 zA #[r0]) w5 fun t52_1 w6 =>
   K (.int .i64 0) w6)
  (M0 prog (Y3 .lss Q0 (.tmp 47) (.tmp 48) t34 least2) fun t49 =>
   ifB t49
   (upK prog (Z0 zA #[r0]) w5 fun t52_2 w7 =>
   K (.int .i64 0) w7)
   (M0 prog (X4 r0) fun t55 =>
   M0 prog (O0 K8 t55 0) fun t56 =>
   Y0 prog (X0 U2 t56) w5 fun t57 =>
   M0 prog (Y3 .add Q0 (.tmp 58) (.const (.int .i64 1)) t24 (.int .i64 1)) fun t59 =>
   M0 prog (d9 U2 t57 (some t59) none none) fun t60 =>
   M0 prog (X4 r0) fun t61 =>
   M0 prog (O0 K8 t61 0) fun t62 =>
   upK prog (F4 U2 t62 t60) w5 fun tu w8 =>
   K t34 w8))))
theorem uJ.up{r0 end1 least2:Value}(h:uJ.pt r0 end1 least2 w K):upK prog (Z0 YD #[r0,end1,least2]) w K :=
 upF [6] .leaf [r0,end1,least2] Tryz.func121 h
def JL.pt(r0:Value)(w:World)(K:PtK):Prop :=
 M0 prog (X4 r0) fun t4 =>
 M0 prog (O0 K8 t4 0) fun t5 =>
 upK prog (F4 U2 t5 (.string ⟨#[]⟩)) w fun tu w1 =>
 M0 prog (X4 r0) fun t6 =>
 M0 prog (O0 K8 t6 1) fun t7 =>
 upK prog (F4 EC t7 (.bool true)) w1 fun tu_1 w2 =>
 K (.tuple #[]) w2
theorem JL.up{r0:Value}(h:JL.pt r0 w K):upK prog (Z0 zA #[r0]) w K :=
 upF [] .leaf [r0] Tryz.func122 h
def pK.pt(r0 end1:Value)(w:World)(K:PtK):Prop :=
 M0 prog (X4 r0) fun t8 =>
 M0 prog (O0 K8 t8 0) fun t9 =>
 Y0 prog (X0 U2 t9) w fun t10 =>
 upK prog (Z0 QE #[t10,end1]) w fun t12 w1 =>
 M0 prog (R5 t12 0) fun t13 =>
 M0 prog (R5 t12 1) fun t14 =>
 M0 prog (X4 r0) fun t17 =>
 M0 prog (O0 K8 t17 0) fun t18 =>
 upK prog (F4 U2 t18 t13) w1 fun tu w2 =>
 M0 prog (sUn .not t14) fun t20 =>
 ifB t20
 (upK prog (Z0 zA #[r0]) w2 fun t22 w3 =>
  K (.tuple #[]) w3)
 (K (.tuple #[]) w2)
theorem pK.up{r0 end1:Value}(h:pK.pt r0 end1 w K):upK prog (Z0 VL #[r0,end1]) w K :=
 upF [] .leaf [r0,end1] Tryz.func123 h
def CW.pt(r0:Value)(w:World)(K:PtK):Prop :=
 upK prog (I7 R3) w fun t2 w1 =>
 upK prog (Z0 Y6 #[r0]) w1 fun t5 w2 =>
 upK prog (Z0 Y6 #[r0]) w2 fun t7 w3 =>
 M0 prog (G6 R3 #[(0,t5),(1,t7)]) fun t8 =>
 upK prog (I7 R3) w3 fun v3 w4 =>
 upK prog (F4 R3 v3 t8) w4 fun tu w5 =>
 upK prog (Z0 yA #[r0]) w5 fun t10 w6 =>
 M0 prog (O0 R3 v3 2) fun t11 =>
 upK prog (F4 U2 t11 t10) w6 fun tu_1 w7 =>
 Y0 prog (X0 R3 v3) w7 fun t12 =>
 upK prog (F4 R3 t2 t12) w7 fun tu_2 w8 =>
 S9 prog (do loadVar R3 (←asAddr t2)) w8 fun t2_1 =>
 K t2_1 w8
theorem CW.up{r0:Value}(h:CW.pt r0 w K):upK prog (Z0 DV #[r0]) w K :=
 upF [] .leaf [r0] Tryz.func124 h
theorem strconv_Itoa.up{p0:Value}{w:World}{K:PtK}(h:Calls prog XD #[p0] w (EP K)):upK prog (Z0 XD #[p0]) w K :=
 VH (fn:=Tryz.f125) Tryz.func125 (by kernel_rfl) (by kernel_rfl) h
def yY.pt(l0:Value)(w:World)(K:PtK):Prop :=
 upK prog (Z0 TQ #[l0,(.func (.func 59) #[] #[])]) w fun t4 w1 =>
 K t4 w1
theorem yY.up{l0:Value}(h:yY.pt l0 w K):upK prog (Z0 OW #[l0]) w K :=
 upF [2] .leaf [l0] Tryz.func126 h
theorem VZ.up{seq0:Value}{w:World}{K:PtK}(h:Calls prog BG #[seq0] w (EP K)):upK prog (Z0 BG #[seq0]) w K :=
 VH (fn:=Tryz.f127) Tryz.func127 (by kernel_rfl) (by kernel_rfl) h
theorem fP.up{x0:Value}{w:World}{K:PtK}(h:Calls prog pE #[x0] w (EP K)):upK prog (Z0 pE #[x0]) w K :=
 VH (fn:=Tryz.f128) Tryz.func128 (by kernel_rfl) (by kernel_rfl) h
def jD.pt(b0:Value)(w:World)(K:PtK):Prop :=
 M0 prog (X4 b0) fun t3 =>
 M0 prog (O0 M5 t3 0) fun t4 =>
 Y0 prog (X0 D9 t4) w fun t5 =>
 M0 prog (Y3 .eql D9 (.tmp 5) (.const (.pointer none)) t5 (.pointer none)) fun t6 =>
 ifB t6
 (upK prog (iU D9 nP b0) w fun t9 w1 =>
  upK prog (Z0 bI #[t9]) w1 fun t10 w2 =>
  upK prog (iU nP D9 t10) w2 fun t11 w3 =>
  M0 prog (X4 b0) fun t12 =>
  M0 prog (O0 M5 t12 0) fun t13 =>
  upK prog (F4 D9 t13 t11) w3 fun tu w4 =>
  K (.tuple #[]) w4)
 (M0 prog (X4 b0) fun t15 =>
  M0 prog (O0 M5 t15 0) fun t16 =>
  Y0 prog (X0 D9 t16) w fun t17 =>
  M0 prog (Y3 .neq D9 (.tmp 17) (.tmp 18) t17 b0) fun t19 =>
  ifB t19
  (False)
  (K (.tuple #[]) w))
theorem jD.up{b0:Value}(h:jD.pt b0 w K):upK prog (Z0 bF #[b0]) w K :=
 upF [] .leaf [b0] Tryz.func130 h
def lU.pt(v0:Value)(w:World)(K:PtK):Prop :=
 upK prog (yC R3 v0) w fun v1 w1 =>
 M0 prog (O0 R3 v1 0) fun t3 =>
 Y0 prog (X0 Q0 t3) (tick w1) fun t4 =>
 M0 prog (O0 R3 v1 1) fun t6 =>
 Y0 prog (X0 Q0 t6) (tick w1) fun t7 =>
 M0 prog (O0 R3 v1 2) fun t10 =>
 Y0 prog (X0 U2 t10) (tick w1) fun t11 =>
 upK prog (Z0 A8 #[t4]) (tick w1) fun t5 w2 =>
 Is prog (X0 U2 t10) t11 w2∧Is prog (X0 Q0 t6) t7 w2∧upK prog (Z0 A8 #[t7]) w2 fun t8 w3 =>
 Is prog (X0 U2 t10) t11 w3∧M0 prog (Y3 .add U2 (.tmp 5) (.tmp 8) t5 t8) fun t9 =>
 upK prog (Z0 pF #[t11]) w3 fun t12 w4 =>
 M0 prog (Y3 .add U2 (.tmp 9) (.tmp 12) t9 t12) fun t13 =>
 K t13 w4
theorem lU.up{v0:Value}(h:lU.pt v0 w K):upK prog (Z0 qU #[v0]) w K :=
 upF [2] .leaf [v0] Tryz.func131 h
def IA.pt(s0:Value)(w:World)(K:PtK):Prop :=
 M0 prog (Y3 .eql G5 (.tmp 3) (.const (.slice none 0 0)) s0 (.slice none 0 0)) fun t4 =>
 ifB t4
 (K (.slice none 0 0) w)
 (upK prog (P6 G5 0 #[]) w fun t5 w1 =>
  upK prog (J5 .append #[G5,G5] G5 #[false,false] #[t5,s0]) w1 fun t7 w2 =>
  K t7 w2)
theorem IA.up{s0:Value}(h:IA.pt s0 w K):upK prog (Z0 IB #[s0]) w K :=
 upF [2] .leaf [s0] Tryz.func136 h
def TH.pt(r0:Value)(w:World)(K:PtK):Prop :=
 upK prog (Z0 UB #[r0]) w fun t7 w1 =>
 Y0 prog (J5 .len #[J6] Q0 #[false] #[t7]) w1 fun t8 =>
 LOOP (X:=Value×Value×Unit) (fun lv2 w2 next2 =>
  M0 prog (Y3 .lss Q0 (.tmp 9) (.tmp 8) lv2.2.1 t8) fun t10 =>
  ifB t10
  (M0 prog (Y4 J6 t7 lv2.2.1) fun t11 =>
  Y0 prog (X0 Q0 t11) w2 fun t12 =>
  upK prog (Z0 uA #[r0,t12]) w2 fun t16 w3 =>
  upK prog (P6 W_ 1 #[(0,t16)]) w3 fun t17 w4 =>
  upK prog (J5 .append #[W_,W_] W_ #[false,false] #[lv2.1,t17]) w4 fun t18 w5 =>
  M0 prog (Y3 .add Q0 (.tmp 9) (.const (.int .i64 1)) lv2.2.1 (.int .i64 1)) fun t19 =>
  next2 (t18,t19,()) w5)
  (K lv2.1 w2))
 ((.slice none 0 0),(.int .i64 0),()) w1
theorem TH.up{r0:Value}(h:TH.pt r0 w K):upK prog (Z0 TB #[r0]) w K :=
 upF [2] .leaf [r0] Tryz.func137 h
def jJ.pt(m0 o1:Value)(w:World)(K:PtK):Prop :=
 upK prog (yC P5 m0) w fun m2 w1 =>
 upK prog (yC Y2 o1) w1 fun o3 w2 =>
 TE (X:=Value×Unit) (fun jv1 w3 =>
  TE (X:=Value×Unit) (fun jv2 w4 =>
  TE (X:=Unit) (fun jv3 w5 =>
   K jv2.1 w5)
  (fun J3 =>
   M0 prog (Y3 .neq Z6 (.tmp 49) (.const (.int .i64 0)) jv2.1 (.int .i64 0)) fun t50 =>
   ifB t50
   (Y0 prog (X0 P5 m2) w4 fun t51 =>
   upK prog (Z0 oH #[t51]) w4 fun t52 w6 =>
   J3 (()) w6)
   (J3 (()) w4)))
  (fun J2 =>
  M0 prog (Y3 .eql Z6 (.tmp 25) (.const (.int .i64 0)) jv1.1 (.int .i64 0)) fun t26 =>
  ifB t26
  (M0 prog (O0 Y2 o3 2) fun t28 =>
   Y0 prog (X0 Q0 t28) w3 fun t29 =>
   M0 prog (Y3 .gtr Q0 (.tmp 29) (.const (.int .i64 0)) t29 (.int .i64 0)) fun t30 =>
   ifB t30
   (upK prog (I7 K4) w3 fun l6 w7 =>
   M0 prog (O0 Y2 o3 3) fun t32 =>
   Y0 prog (X0 O3 t32) w7 fun t33 =>
   Y0 prog (J5 .len #[O3] Q0 #[false] #[t33]) w7 fun t34 =>
   LOOP (X:=Value×Unit) (fun lv8 w8 next8 =>
    M0 prog (Y3 .lss Q0 (.tmp 35) (.tmp 34) lv8.1 t34) fun t36 =>
    ifB t36
    (M0 prog (Y4 O3 t33 lv8.1) fun t37 =>
    Y0 prog (X0 U3 t37) w8 fun t38 =>
    upK prog (I7 U3) w8 fun x8 w9 =>
    upK prog (F4 U3 x8 t38) w9 fun tu w10 =>
    Y0 prog (X0 K4 l6) (tick w10) fun t39 =>
    Y0 prog (X0 U3 x8) (tick w10) fun t40 =>
    upK prog (Z0 TI #[t40]) (tick w10) fun t41 w11 =>
    Is prog (X0 K4 l6) t39 w11∧upK prog (P6 K4 1 #[(0,t41)]) w11 fun t42 w12 =>
    Is prog (X0 K4 l6) t39 w12∧upK prog (J5 .append #[K4,K4] K4 #[false,false] #[t39,t42]) w12 fun t43 w13 =>
    upK prog (F4 K4 l6 t43) w13 fun tu_1 w14 =>
    M0 prog (Y3 .add Q0 (.tmp 35) (.const (.int .i64 1)) lv8.1 (.int .i64 1)) fun t44 =>
    next8 (t44,()) w14)
    (M0 prog (iG (.func yB) #[] #[m2,o3]) fun t45 =>
    M0 prog (iG (.func zB) #[] #[m2,l6]) fun t46 =>
    upK prog (P6 n_ 2 #[(0,t45),(1,t46)]) w8 fun t47 w15 =>
    upK prog (Z0 NP #[t47]) w15 fun t48 w16 =>
    J2 (t48,()) w16))
   ((.int .i64 0),()) w7)
   (J2 (jv1.1,()) w3))
  (J2 (jv1.1,()) w3)))
 (fun J1 =>
  M0 prog (O0 Y2 o3 0) fun t9 =>
  Y0 prog (X0 EC t9) w2 fun t10 =>
  ifB t10
  (Y0 prog (X0 P5 m2) (tick w2) fun t11 =>
  M0 prog (X4 t11) fun t12 =>
  M0 prog (O0 I6 t12 2) fun t13 =>
  Y0 prog (X0 M8 t13) (tick w2) fun t14 =>
  M0 prog (O0 Y2 o3 1) fun t15 =>
  M0 prog (O0 H5 t15 0) fun t16 =>
  Y0 prog (X0 Q0 t16) (tick w2) fun t17 =>
  M0 prog (O0 Y2 o3 1) fun t19 =>
  M0 prog (O0 H5 t19 1) fun t20 =>
  Y0 prog (X0 Q0 t20) (tick w2) fun t21 =>
  upK prog (Z0 A8 #[t17]) (tick w2) fun t18 w17 =>
  Is prog (X0 Q0 t20) t21 w17∧Is prog (X0 M8 t13) t14 w17∧Is prog (X0 P5 m2) t11 w17∧upK prog (Z0 A8 #[t21]) w17 fun t22 w18 =>
  Is prog (X0 M8 t13) t14 w18∧Is prog (X0 P5 m2) t11 w18∧M0 prog (Y3 .add U2 (.tmp 18) (.tmp 22) t18 t22) fun t23 =>
  upK prog (Z0 yM #[t14,t23]) w18 fun t24 w19 =>
  J1 (t24,()) w19)
  (J1 ((.int .i64 0),()) w2))
theorem jJ.up{m0 o1:Value}(h:jJ.pt m0 o1 w K):upK prog (Z0 yK #[m0,o1]) w K :=
 upF [4] (.node none .leaf (.node none .leaf (.node (some [5]) .leaf (.node (some [5]) .leaf (.node (some []) .leaf .leaf))))) [m0,o1] Tryz.func138 h
def QR.pt(n0 from1 to2 body3:Value)(w:World)(K:PtK):Prop :=
 upK prog (Z0 kS #[from1]) w fun t11 w1 =>
 M0 prog (sUn .not t11) fun t12 =>
 ifB t12
 (K (.int .i64 1) w1)
 (upK prog (Z0 kS #[to2]) w1 fun t15 w2 =>
  M0 prog (sUn .not t15) fun t16 =>
  ifB t16
  (K (.int .i64 1) w2)
  (M0 prog (Y3 .eql Q0 (.tmp 19) (.tmp 20) from1 to2) fun t21 =>
  ifB t21
  (K (.int .i64 1) w2)
  (upK prog (Z0 bO #[n0,from1,to2]) w2 fun t27 w3 =>
   M0 prog (sUn .not t27) fun t28 =>
   ifB t28
   (K (.int .i64 10) w3)
   (M0 prog (X4 n0) fun t31 =>
   M0 prog (O0 y9 t31 0) fun t32 =>
   Y0 prog (X0 I5 t32) w3 fun t33 =>
   Y0 prog (J5 .len #[I5] Q0 #[false] #[t33]) w3 fun t34 =>
   M0 prog (Y3 .geq Q0 (.tmp 34) (.const (.int .i64 500)) t34 (.int .i64 500)) fun t35 =>
   ifB t35
   (K (.int .i64 6) w3)
   (M0 prog (X4 n0) fun t38 =>
    M0 prog (O0 y9 t38 0) fun t39 =>
    Y0 prog (X0 I5 t39) w3 fun t40 =>
    M0 prog (G6 U4 #[(0,from1),(1,to2),(2,body3)]) fun t44 =>
    upK prog (P6 I5 1 #[(0,t44)]) w3 fun t45 w4 =>
    upK prog (J5 .append #[I5,I5] I5 #[false,false] #[t40,t45]) w4 fun t46 w5 =>
    M0 prog (X4 n0) fun t47 =>
    M0 prog (O0 y9 t47 0) fun t48 =>
    upK prog (F4 I5 t48 t46) w5 fun tu w6 =>
    K (.int .i64 0) w6)))))
theorem QR.up{n0 from1 to2 body3:Value}(h:QR.pt n0 from1 to2 body3 w K):upK prog (Z0 BS #[n0,from1,to2,body3]) w K :=
 upF [8] .leaf [n0,from1,to2,body3] Tryz.func139 h
def lQ.pt(m0:Value)(w:World)(K:PtK):Prop :=
 upK prog (yC U1 m0) w fun m1 w1 =>
 TE (X:=Value×Unit) (fun jv1 w2 =>
  M0 prog (O0 U1 m1 0) fun t11 =>
  Y0 prog (X0 Q0 t11) w2 fun t12 =>
  M0 prog (O0 U1 m1 1) fun t13 =>
  Y0 prog (X0 Q0 t13) w2 fun t14 =>
  M0 prog (O0 U1 m1 2) fun t15 =>
  Y0 prog (X0 Q0 t15) w2 fun t16 =>
  M0 prog (O0 U1 m1 3) fun t17 =>
  Y0 prog (X0 Q0 t17) w2 fun t18 =>
  M0 prog (O0 U1 m1 4) fun t19 =>
  Y0 prog (X0 Q0 t19) w2 fun t20 =>
  M0 prog (O0 U1 m1 5) fun t21 =>
  Y0 prog (X0 Q0 t21) w2 fun t22 =>
  M0 prog (O0 U1 m1 6) fun t23 =>
  Y0 prog (X0 Q0 t23) w2 fun t24 =>
  M0 prog (G6 sg0 #[(0,t12),(1,t14),(2,t16),(3,t18),(4,t20),(5,t22),(6,t24),(7,jv1.1)]) fun t26 =>
  LOOP (X:=Value×Value×Unit) (fun lv3 w3 next3 =>
  M0 prog (Y3 .lss Q0 (.tmp 27) (.const (.int .i64 8)) lv3.2.1 (.int .i64 8)) fun t28 =>
  ifB t28
  (M0 prog (RZ sg0 t26 lv3.2.1) fun t29 =>
   upK prog (Z0 A8 #[t29]) w3 fun t32 w4 =>
   M0 prog (Y3 .add U2 (.tmp 30) (.tmp 32) lv3.1 t32) fun t33 =>
   M0 prog (Y3 .add Q0 (.tmp 27) (.const (.int .i64 1)) lv3.2.1 (.int .i64 1)) fun t34 =>
   next3 (t33,t34,()) w4)
  (M0 prog (O0 U1 m1 8) fun t36 =>
   Y0 prog (X0 O3 t36) w3 fun t37 =>
   Y0 prog (J5 .len #[O3] Q0 #[false] #[t37]) w3 fun t38 =>
   upK prog (Z0 dN #[t38]) w3 fun t39 w5 =>
   M0 prog (Y3 .add U2 (.tmp 35) (.tmp 39) lv3.1 t39) fun t40 =>
   M0 prog (O0 U1 m1 8) fun t41 =>
   Y0 prog (X0 O3 t41) w5 fun t42 =>
   Y0 prog (J5 .len #[O3] Q0 #[false] #[t42]) w5 fun t43 =>
   LOOP (X:=Value×Value×Unit) (fun lv6 w6 next6 =>
   M0 prog (Y3 .lss Q0 (.tmp 44) (.tmp 43) lv6.2.1 t43) fun t45 =>
   ifB t45
   (M0 prog (Y4 O3 t42 lv6.2.1) fun t46 =>
    Y0 prog (X0 U3 t46) w6 fun t47 =>
    upK prog (I7 U3) w6 fun x8 w7 =>
    upK prog (F4 U3 x8 t47) w7 fun tu w8 =>
    Y0 prog (X0 U3 x8) w8 fun t49 =>
    upK prog (Z0 TI #[t49]) w8 fun t50 w9 =>
    M0 prog (Y3 .add U2 (.tmp 48) (.tmp 50) lv6.1 t50) fun t51 =>
    M0 prog (Y3 .add Q0 (.tmp 44) (.const (.int .i64 1)) lv6.2.1 (.int .i64 1)) fun t52 =>
    next6 (t51,t52,()) w9)
   (K lv6.1 w6))
   (t40,(.int .i64 0),()) w5))
  ((.string ⟨#[]⟩),(.int .i64 0),()) w2)
 (fun J1 =>
  M0 prog (O0 U1 m1 7) fun t9 =>
  Y0 prog (X0 EC t9) w1 fun t10 =>
  ifB t10
  (J1 ((.int .i64 1),()) w1)
  (J1 ((.int .i64 0),()) w1))
theorem lQ.up{m0:Value}(h:lQ.pt m0 w K):upK prog (Z0 FM #[m0]) w K :=
 upF [2] (.node none .leaf (.node none .leaf (.node (some [3]) .leaf .leaf))) [m0] Tryz.func140 h
def zL.pt(g0:Value)(w:World)(K:PtK):Prop :=
 M0 prog (X4 g0) fun t7 =>
 M0 prog (O0 Q3 t7 0) fun t8 =>
 Y0 prog (X0 E_ t8) w fun t9 =>
 LOOP (X:=Value×Unit) (fun lv1 w1 next1 =>
  M0 prog (Y3 .lss Q0 (.tmp 10) (.const (.int .i64 3)) lv1.1 (.int .i64 3)) fun t11 =>
  ifB t11
  (TE (X:=Unit) (fun jv1 w2 =>
   M0 prog (Y3 .add Q0 (.tmp 10) (.const (.int .i64 1)) lv1.1 (.int .i64 1)) fun t54 =>
   next1 (t54,()) w2)
  (fun J1 =>
   M0 prog (RZ E_ t9 lv1.1) fun t12 =>
   upK prog (I7 I6) w1 fun m3 w3 =>
   upK prog (F4 I6 m3 t12) w3 fun tu w4 =>
   M0 prog (O0 I6 m3 3) fun t13 =>
   Y0 prog (X0 R6 t13) (tick w4) fun t14 =>
   M0 prog (Y3 .eql R6 (.tmp 14) (.const (.pointer none)) t14 (.pointer none)) fun t15 =>
   ifB t15
   (J1 (()) (tick w4))
   (M0 prog (O0 I6 m3 3) fun t17 =>
   Y0 prog (X0 R6 t17) (tick w4) fun t18 =>
   M0 prog (X4 g0) fun t21 =>
   M0 prog (O0 Q3 t21 2) fun t22 =>
   Y0 prog (X0 K4 t22) (tick w4) fun t23 =>
   Y0 prog (J5 .len #[K4] Q0 #[false] #[t23]) (tick w4) fun t24 =>
   upK prog (Z0 JD #[t18]) (tick w4) fun t19 w5 =>
   Is prog (J5 .len #[K4] Q0 #[false] #[t23]) t24 w5∧Is prog (X0 K4 t22) t23 w5∧M0 prog (Y3 .leq Q0 (.tmp 19) (.tmp 24) t19 t24) fun t25 =>
   ifB t25
   (J1 (()) w5)
   (M0 prog (X4 g0) fun t28 =>
    M0 prog (O0 Q3 t28 2) fun t29 =>
    upK prog (F4 K4 t29 (.slice none 0 0)) w5 fun tu_1 w6 =>
    M0 prog (O0 I6 m3 3) fun t30 =>
    Y0 prog (X0 R6 t30) (tick w6) fun t31 =>
    M0 prog (O0 I6 m3 3) fun t33 =>
    Y0 prog (X0 R6 t33) (tick w6) fun t34 =>
    upK prog (Z0 OJ #[t31]) (tick w6) fun t32 w7 =>
    Is prog (X0 R6 t33) t34 w7∧upK prog (Z0 JD #[t34]) w7 fun t35 w8 =>
    M0 prog (d9 O3 t32 none (some t35) none) fun t36 =>
    Y0 prog (J5 .len #[O3] Q0 #[false] #[t36]) w8 fun t37 =>
    LOOP (X:=Value×Unit) (fun lv9 w9 next9 =>
    M0 prog (Y3 .lss Q0 (.tmp 38) (.tmp 37) lv9.1 t37) fun t39 =>
    ifB t39
    (M0 prog (Y4 O3 t36 lv9.1) fun t40 =>
     Y0 prog (X0 U3 t40) w9 fun t41 =>
     upK prog (I7 U3) w9 fun x5 w10 =>
     upK prog (F4 U3 x5 t41) w10 fun tu_2 w11 =>
     M0 prog (X4 g0) fun t44 =>
     M0 prog (O0 Q3 t44 2) fun t45 =>
     Y0 prog (X0 K4 t45) (tick w11) fun t46 =>
     M0 prog (O0 U3 x5 1) fun t47 =>
     Y0 prog (X0 U2 t47) (tick w11) fun t48 =>
     upK prog (P6 K4 1 #[(0,t48)]) (tick w11) fun t49 w12 =>
     Is prog (X0 K4 t45) t46 w12∧upK prog (J5 .append #[K4,K4] K4 #[false,false] #[t46,t49]) w12 fun t50 w13 =>
     M0 prog (X4 g0) fun t51 =>
     M0 prog (O0 Q3 t51 2) fun t52 =>
     upK prog (F4 K4 t52 t50) w13 fun tu_3 w14 =>
     M0 prog (Y3 .add Q0 (.tmp 38) (.const (.int .i64 1)) lv9.1 (.int .i64 1)) fun t53 =>
     next9 (t53,()) w14)
    (J1 (()) w9))
    ((.int .i64 0),()) w8))))
  (K (.tuple #[]) w1))
 ((.int .i64 0),()) w
theorem zL.up{g0:Value}(h:zL.pt g0 w K):upK prog (Z0 CF #[g0]) w K :=
 upF [] (.node none .leaf (.node none (.node none (.node none .leaf (.node none .leaf (.node (some []) .leaf .leaf))) .leaf) .leaf)) [g0] Tryz.func141 h
def iK.pt(x0 e1:Value)(w:World)(K:PtK):Prop :=
 upK prog (yC Y1 e1) w fun e3 w1 =>
 M0 prog (X4 x0) fun t11 =>
 M0 prog (O0 X3 t11 6) fun t12 =>
 Y0 prog (X0 I4 t12) (tick w1) fun t13 =>
 Y0 prog (X0 Y1 e3) (tick w1) fun t14 =>
 upK prog (Z0 BM #[t13,t14]) (tick w1) fun t15 w2 =>
 M0 prog (R5 t15 0) fun t16 =>
 M0 prog (R5 t15 1) fun t17 =>
 M0 prog (Y3 .neq Z6 (.tmp 18) (.const (.int .i64 0)) t17 (.int .i64 0)) fun t19 =>
 ifB t19
 (K (.tuple #[t16,t17]) w2)
 (M0 prog (O0 Y1 e3 6) fun t22 =>
  Y0 prog (X0 Q0 t22) w2 fun t23 =>
  upK prog (Z0 zM #[t23]) w2 fun t24 w3 =>
  M0 prog (sUn .not t24) fun t25 =>
  ifB t25
  (K (.tuple #[(.int .i64 0),(.int .i64 3)]) w3)
  (Y0 prog (X0 Y1 e3) w3 fun t27 =>
  upK prog (Z0 CK #[x0,t27]) w3 fun t28 w4 =>
  M0 prog (Y3 .neq Z6 (.tmp 29) (.const (.int .i64 0)) t28 (.int .i64 0)) fun t30 =>
  ifB t30
  (K (.tuple #[(.int .i64 0),t28]) w4)
  (M0 prog (O0 Y1 e3 6) fun t33 =>
   Y0 prog (X0 Q0 t33) (tick w4) fun t34 =>
   upK prog (Z0 W9 #[x0]) (tick w4) fun t36 w5 =>
   Is prog (X0 Q0 t33) t34 w5∧M0 prog (Y3 .leq Q0 (.tmp 34) (.tmp 36) t34 t36) fun t37 =>
   ifB t37
   (K (.tuple #[(.int .i64 0),(.int .i64 20)]) w5)
   (M0 prog (O0 Y1 e3 6) fun t39 =>
   Y0 prog (X0 Q0 t39) (tick w5) fun t40 =>
   M0 prog (X4 x0) fun t42 =>
   M0 prog (O0 X3 t42 2) fun t43 =>
   Y0 prog (X0 Q0 t43) (tick w5) fun t44 =>
   M0 prog (X4 x0) fun t46 =>
   M0 prog (O0 X3 t46 0) fun t47 =>
   M0 prog (O0 E5 t47 3) fun t48 =>
   Y0 prog (X0 Q0 t48) (tick w5) fun t49 =>
   M0 prog (Y3 .add Q0 (.tmp 44) (.tmp 49) t44 t49) fun t50 =>
   M0 prog (Y3 .gtr Q0 (.tmp 40) (.tmp 50) t40 t50) fun t51 =>
   ifB t51
   (K (.tuple #[(.int .i64 0),(.int .i64 21)]) (tick w5))
   (M0 prog (X4 x0) fun t54 =>
    M0 prog (O0 X3 t54 7) fun t55 =>
    Y0 prog (X0 D7 t55) (tick (tick w5)) fun t56 =>
    M0 prog (O0 Y1 e3 6) fun t57 =>
    Y0 prog (X0 Q0 t57) (tick (tick w5)) fun t58 =>
    Y0 prog (lK D7 t56 t58 false) (tick (tick w5)) fun t59 =>
    M0 prog (X4 x0) fun t61 =>
    M0 prog (O0 X3 t61 0) fun t62 =>
    M0 prog (O0 E5 t62 4) fun t63 =>
    Y0 prog (X0 Q0 t63) (tick (tick w5)) fun t64 =>
    M0 prog (Y3 .geq Q0 (.tmp 59) (.tmp 64) t59 t64) fun t65 =>
    ifB t65
    (K (.tuple #[(.int .i64 0),(.int .i64 22)]) (tick (tick w5)))
    (M0 prog (X4 x0) fun t67 =>
    M0 prog (O0 X3 t67 4) fun t68 =>
    Y0 prog (X0 Q0 t68) (tick (tick w5)) fun t69 =>
    K (.tuple #[t69,(.int .i64 0)]) (tick (tick w5))))))))
theorem iK.up{x0 e1:Value}(h:iK.pt x0 e1 w K):upK prog (Z0 TL #[x0,e1]) w K :=
 upF [4,5] .leaf [x0,e1] Tryz.func142 h
def WR.pt(s0 e1 pos2:Value)(w:World)(K:PtK):Prop :=
 upK prog (yC Y1 e1) w fun e4 w1 =>
 M0 prog (O0 Y1 e4 1) fun t13 =>
 Y0 prog (X0 Q0 t13) w1 fun t14 =>
 upK prog (Z0 yJ #[s0,t14]) w1 fun t15 w2 =>
 M0 prog (R5 t15 0) fun t16 =>
 M0 prog (R5 t15 1) fun t17 =>
 upK prog (I7 M3) w2 fun p7 w3 =>
 upK prog (F4 M3 p7 t16) w3 fun tu w4 =>
 TE (X:=Unit) (fun jv1 w5 =>
  M0 prog (O0 M3 p7 2) fun t51 =>
  Y0 prog (X0 Q0 t51) w5 fun t52 =>
  M0 prog (Y3 .add Q0 (.tmp 52) (.const (.int .i64 1)) t52 (.int .i64 1)) fun t53 =>
  M0 prog (O0 M3 p7 2) fun t54 =>
  upK prog (F4 Q0 t54 t53) w5 fun tu_1 w6 =>
  M0 prog (O0 M3 p7 3) fun t55 =>
  Y0 prog (X0 J6 t55) w6 fun t56 =>
  upK prog (Z0 VB #[t56]) w6 fun t57 w7 =>
  upK prog (P6 J6 1 #[(0,pos2)]) w7 fun t59 w8 =>
  upK prog (J5 .append #[J6,J6] J6 #[false,false] #[t57,t59]) w8 fun t60 w9 =>
  M0 prog (O0 M3 p7 3) fun t61 =>
  upK prog (F4 J6 t61 t60) w9 fun tu_2 w10 =>
  M0 prog (O0 M3 p7 3) fun t62 =>
  Y0 prog (X0 J6 t62) w10 fun t63 =>
  M0 prog (O0 M3 p7 3) fun t64 =>
  Y0 prog (X0 J6 t64) w10 fun t65 =>
  Y0 prog (J5 .len #[J6] Q0 #[false] #[t65]) w10 fun t66 =>
  M0 prog (Y3 .sub Q0 (.tmp 66) (.const (.int .i64 20)) t66 (.int .i64 20)) fun t67 =>
  M0 prog (J5 .max #[Q0,Q0] Q0 #[false,true] #[t67,(.int .i64 0)]) fun t68 =>
  M0 prog (d9 J6 t63 (some t68) none none) fun t69 =>
  M0 prog (O0 M3 p7 3) fun t70 =>
  upK prog (F4 J6 t70 t69) w10 fun tu_3 w11 =>
  Y0 prog (X0 M3 p7) w11 fun t72 =>
  upK prog (Z0 EM #[s0,t72]) w11 fun t73 w12 =>
  K t73 w12)
 (fun J1 =>
  Y0 prog (X0 Y1 e4) w4 fun t20 =>
  upK prog (Z0 BM #[s0,t20]) w4 fun t21 w13 =>
  M0 prog (R5 t21 0) fun t22 =>
  M0 prog (R5 t21 1) fun t23 =>
  M0 prog (Y3 .neq Z6 (.tmp 24) (.const (.int .i64 0)) t23 (.int .i64 0)) fun t25 =>
  ifB t25
  (upK prog (Z0 wD #[s0]) w13 fun t50 w14 =>
  K t50 w14)
  (upK prog (Z0 iM #[pos2]) w13 fun t28 w15 =>
  M0 prog (sUn .not t28) fun t29 =>
  ifB t29
  (upK prog (Z0 wD #[s0]) w15 fun t50_1 w16 =>
   K t50_1 w16)
  (M0 prog (O0 M3 p7 3) fun t32 =>
   Y0 prog (X0 J6 t32) w15 fun t33 =>
   Y0 prog (J5 .len #[J6] Q0 #[false] #[t33]) w15 fun t34 =>
   M0 prog (Y3 .gtr Q0 (.tmp 34) (.const (.int .i64 0)) t34 (.int .i64 0)) fun t35 =>
   ifB t35
   (M0 prog (O0 M3 p7 3) fun t38 =>
   Y0 prog (X0 J6 t38) w15 fun t39 =>
   M0 prog (O0 M3 p7 3) fun t40 =>
   Y0 prog (X0 J6 t40) w15 fun t41 =>
   Y0 prog (J5 .len #[J6] Q0 #[false] #[t41]) w15 fun t42 =>
   M0 prog (Y3 .sub Q0 (.tmp 42) (.const (.int .i64 1)) t42 (.int .i64 1)) fun t43 =>
   M0 prog (Y4 J6 t39 t43) fun t44 =>
   Y0 prog (X0 Q0 t44) w15 fun t45 =>
   M0 prog (Y3 .leq Q0 (.tmp 37) (.tmp 45) pos2 t45) fun t46 =>
   ifB t46
   (upK prog (Z0 wD #[s0]) w15 fun t50_2 w17 =>
    K t50_2 w17)
   (J1 (()) w15))
   (J1 (()) w15))))
theorem WR.up{s0 e1 pos2:Value}(h:WR.pt s0 e1 pos2 w K):upK prog (Z0 ES #[s0,e1,pos2]) w K :=
 upF [6] (.node none .leaf (.node none .leaf (.node (some []) .leaf .leaf))) [s0,e1,pos2] Tryz.func143 h
def IJ.pt(s0 id1:Value)(w:World)(K:PtK):Prop :=
 upK prog (yC Q0 id1) w fun id3 w1 =>
 upK prog (I7 M3) w1 fun t4 w2 =>
 M0 prog (iG (.func xG) #[] #[id3]) fun t8 =>
 upK prog (Z0 Q_ #[s0,t8]) w2 fun t9 w3 =>
 M0 prog (Y3 .lss Q0 (.tmp 10) (.const (.int .i64 0)) t9 (.int .i64 0)) fun t11 =>
 ifB t11
 (Y0 prog (X0 Q0 id3) w3 fun t12 =>
  M0 prog (G6 M3 #[(0,t12)]) fun t13 =>
  upK prog (F4 M3 t4 t13) w3 fun tu w4 =>
  S9 prog (do loadVar M3 (←asAddr t4)) w4 fun t4_1 =>
  K (.tuple #[t4_1,(.bool false)]) w4)
 (M0 prog (Y4 I4 s0 t9) fun t16 =>
  Y0 prog (X0 M3 t16) w3 fun t17 =>
  upK prog (F4 M3 t4 t17) w3 fun tu_1 w5 =>
  S9 prog (do loadVar M3 (←asAddr t4)) w5 fun t4_2 =>
  K (.tuple #[t4_2,(.bool true)]) w5)
theorem IJ.up{s0 id1:Value}(h:IJ.pt s0 id1 w K):upK prog (Z0 yJ #[s0,id1]) w K :=
 upF [5] .leaf [s0,id1] Tryz.func144 h
def fU.pt(n0:Value)(w:World)(K:PtK):Prop :=
 M0 prog (Y3 .geq Q0 (.tmp 3) (.const (.int .i64 0)) n0 (.int .i64 0)) fun t4 =>
 ifB t4
 (M0 prog (Y3 .leq Q0 (.tmp 6) (.const (.int .i64 1099511627776)) n0 (.int .i64 1099511627776)) fun t7 =>
  K t7 w)
 (K (.bool false) w)
theorem fU.up{n0:Value}(h:fU.pt n0 w K):upK prog (Z0 iM #[n0]) w K :=
 upF [2] .leaf [n0] Tryz.func145 h
def kQ.pt(s0 p1:Value)(w:World)(K:PtK):Prop :=
 upK prog (yC M3 p1) w fun p3 w1 =>
 upK prog (Z0 wD #[s0]) w1 fun t9 w2 =>
 M0 prog (O0 M3 p3 0) fun t12 =>
 Y0 prog (X0 Q0 t12) w2 fun t13 =>
 upK prog (Z0 G9 #[t9,t13,(.func (.func 204) #[] #[])]) w2 fun t14 w3 =>
 M0 prog (R5 t14 0) fun t15 =>
 M0 prog (R5 t14 1) fun t16 =>
 ifB t16
 (Y0 prog (X0 M3 p3) w3 fun t20 =>
  M0 prog (Y4 I4 t9 t15) fun t21 =>
  upK prog (F4 M3 t21 t20) w3 fun tu w4 =>
  K t9 w4)
 (Y0 prog (X0 M3 p3) w3 fun t25 =>
  upK prog (P6 I4 1 #[(0,t25)]) w3 fun t26 w5 =>
  upK prog (Z0 qA #[t9,t15,t26]) w5 fun t27 w6 =>
  K t27 w6)
theorem kQ.up{s0 p1:Value}(h:kQ.pt s0 p1 w K):upK prog (Z0 EM #[s0,p1]) w K :=
 upF [4] .leaf [s0,p1] Tryz.func146 h
def fA.pt(m0 del1:Value)(w:World)(K:PtK):Prop :=
 upK prog (vo0 D7 m0) w fun t7 w1 =>
 LOOP (X:=Unit) (fun lv2 w2 next2 =>
  upK prog (Gx0 t7 false T_) w2 fun t8 w3 =>
  M0 prog (R5 t8 0) fun t9 =>
  ifB t9
  (upK prog (uo0 t7) w3 fun t10 w4 =>
  M0 prog (R5 t10 0) fun t11 =>
  M0 prog (R5 t10 1) fun t12 =>
  upK prog (aA del1 #[t11,t12]) w4 fun t16 w5 =>
  ifB t16
  (upK prog (J5 .delete #[D7,Q0] T_ #[false,false] #[m0,t11]) w5 fun tu w6 =>
   next2 (()) w6)
  (next2 (()) w5))
  (K (.tuple #[]) w3))
 (()) w1
theorem fA.up{m0 del1:Value}(h:fA.pt m0 del1 w K):upK prog (Z0 AB #[m0,del1]) w K :=
 upF [] .leaf [m0,del1] Tryz.func147 h
def r_.pt(time0 t1 t2:Value)(w:World)(K:PtK):Prop :=
 Y0 prog (X0 Q0 t2) w fun t7 =>
 M0 prog (Y3 .leq Q0 (.tmp 6) (.tmp 7) time0 t7) fun t8 =>
 K t8 w
theorem r_.EQ:r_.pt=fun time0 t1 t2 w K=>FN prog Tryz.f148 (WS Tryz.f148) [5] .leaf [time0,t1,t2] w K:=by kernel_rfl
theorem r_.call{time0 t1 t2:Value}{w:World}{K:PtK}(h:r_.pt time0 t1 t2 w K):Calls prog rC #[time0,t1,t2] w (EP K) :=
 jM (args:=[time0,t1,t2]) Tryz.func148 (by kernel_rfl) (by rw[r_.EQ] at h;exact h)
theorem r_.up{time0 t1 t2:Value}{w:World}{K:PtK}(h:Calls prog rC #[time0,t1,t2] w (EP K)):upK prog (Z0 rC #[time0,t1,t2]) w K :=
 VH (fn:=Tryz.f148) Tryz.func148 (by kernel_rfl) (by kernel_rfl) h
def BB.pt(s0:Value)(w:World)(K:PtK):Prop :=
 M0 prog (Y3 .eql NB (.tmp 3) (.const (.slice none 0 0)) s0 (.slice none 0 0)) fun t4 =>
 ifB t4
 (K (.slice none 0 0) w)
 (upK prog (P6 NB 0 #[]) w fun t5 w1 =>
  upK prog (J5 .append #[NB,NB] NB #[false,false] #[t5,s0]) w1 fun t7 w2 =>
  K t7 w2)
theorem BB.up{s0:Value}(h:BB.pt s0 w K):upK prog (Z0 OC #[s0]) w K :=
 upF [2] .leaf [s0] Tryz.func149 h
def rO.pt(d0:Value)(w:World)(K:PtK):Prop :=
 M0 prog (X4 d0) fun t4 =>
 M0 prog (O0 F5 t4 4) fun t5 =>
 Y0 prog (X0 EC t5) w fun t6 =>
 ifB t6
 (K (.bool false) w)
 (M0 prog (X4 d0) fun t9 =>
  M0 prog (O0 F5 t9 5) fun t10 =>
  Y0 prog (X0 Q0 t10) w fun t11 =>
  M0 prog (Y3 .eql Q0 (.tmp 11) (.const (.int .i64 0)) t11 (.int .i64 0)) fun t12 =>
  ifB t12
  (K (.bool false) w)
  (M0 prog (X4 d0) fun t15 =>
  M0 prog (O0 F5 t15 5) fun t16 =>
  Y0 prog (X0 Q0 t16) w fun t17 =>
  M0 prog (Y3 .sub Q0 (.tmp 17) (.const (.int .i64 1)) t17 (.int .i64 1)) fun t18 =>
  M0 prog (X4 d0) fun t19 =>
  M0 prog (O0 F5 t19 5) fun t20 =>
  upK prog (F4 Q0 t20 t18) w fun tu w1 =>
  M0 prog (X4 d0) fun t22 =>
  M0 prog (O0 F5 t22 5) fun t23 =>
  Y0 prog (X0 Q0 t23) w1 fun t24 =>
  M0 prog (Y3 .eql Q0 (.tmp 24) (.const (.int .i64 0)) t24 (.int .i64 0)) fun t25 =>
  K t25 w1))
theorem rO.up{d0:Value}(h:rO.pt d0 w K):upK prog (Z0 YH #[d0]) w K :=
 upF [2] .leaf [d0] Tryz.func150 h
def VP.pt(d0 f1:Value)(w:World)(K:PtK):Prop :=
 M0 prog (X4 d0) fun t7 =>
 M0 prog (O0 F5 t7 4) fun t8 =>
 Y0 prog (X0 EC t8) w fun t9 =>
 ifB t9
 (K (.int .i64 9) w)
 (M0 prog (Y3 .lss Q0 (.tmp 11) (.const (.int .i64 0)) f1 (.int .i64 0)) fun t12 =>
  ifB t12
  (K (.int .i64 1) w)
  (M0 prog (Y3 .geq Q0 (.tmp 14) (.const (.int .i64 16)) f1 (.int .i64 16)) fun t15 =>
  ifB t15
  (K (.int .i64 1) w)
  (K (.int .i64 0) w)))
theorem VP.up{d0 f1:Value}(h:VP.pt d0 f1 w K):upK prog (Z0 xJ #[d0,f1]) w K :=
 upF [4] .leaf [d0,f1] Tryz.func151 h
def lL.pt(d0 f1 s2:Value)(w:World)(K:PtK):Prop :=
 upK prog (yC Q0 f1) w fun f4 w1 =>
 M0 prog (X4 d0) fun t7 =>
 M0 prog (O0 F5 t7 0) fun t8 =>
 Y0 prog (X0 u6 t8) (tick w1) fun t9 =>
 Y0 prog (X0 Q0 f4) (tick w1) fun t10 =>
 M0 prog (G6 D8 #[(0,s2),(1,s2)]) fun t13 =>
 upK prog (tY u6 t9 t10 t13) (tick w1) fun tu w2 =>
 M0 prog (X4 d0) fun t16 =>
 M0 prog (O0 F5 t16 1) fun t17 =>
 Y0 prog (X0 N7 t17) w2 fun t18 =>
 M0 prog (iG (.func RD) #[] #[f4]) fun t19 =>
 upK prog (Z0 V_ #[t18,t19]) w2 fun t20 w3 =>
 M0 prog (X4 d0) fun t21 =>
 M0 prog (O0 F5 t21 1) fun t22 =>
 upK prog (F4 N7 t22 t20) w3 fun tu_1 w4 =>
 M0 prog (X4 d0) fun t24 =>
 M0 prog (O0 F5 t24 2) fun t25 =>
 Y0 prog (X0 K7 t25) w4 fun t26 =>
 M0 prog (iG (.func TD) #[] #[f4]) fun t27 =>
 upK prog (Z0 K9 #[t26,t27]) w4 fun t28 w5 =>
 K (.tuple #[]) w5
theorem lL.up{d0 f1 s2:Value}(h:lL.pt d0 f1 s2 w K):upK prog (Z0 YM #[d0,f1,s2]) w K :=
 upF [] .leaf [d0,f1,s2] Tryz.func152 h
def OM.pt(c0:Value)(w:World)(K:PtK):Prop :=
 upK prog (Z0 xM #[c0]) w fun t10 w1 =>
 M0 prog (R5 t10 0) fun t11 =>
 M0 prog (R5 t10 1) fun t12 =>
 M0 prog (sUn .not t12) fun t14 =>
 ifB t14
 (K (.tuple #[(.int .i64 0),(.int .i64 0),(.bool true)]) w1)
 (upK prog (Z0 iB #[t11]) w1 fun t16 w2 =>
  upK prog (Z0 qE #[t16]) w2 fun t18 w3 =>
  upK prog (Z0 qE #[t16]) w3 fun t20 w4 =>
  upK prog (Z0 jB #[t16]) w4 fun t24 w5 =>
  K (.tuple #[t18,t20,t24]) w5)
theorem OM.up{c0:Value}(h:OM.pt c0 w K):upK prog (Z0 ZN #[c0]) w K :=
 upF [] .leaf [c0] Tryz.func153 h
def pO.pt(d0 f1 at2 size3:Value)(w:World)(K:PtK):Prop :=
 upK prog (Z0 xJ #[d0,f1]) w fun t14 w1 =>
 M0 prog (Y3 .neq Z6 (.tmp 15) (.const (.int .i64 0)) t14 (.int .i64 0)) fun t16 =>
 ifB t16
 (K (.tuple #[(.string ⟨#[]⟩),t14]) w1)
 (M0 prog (Y3 .lss Q0 (.tmp 18) (.const (.int .i64 0)) at2 (.int .i64 0)) fun t19 =>
  ifB t19
  (K (.tuple #[(.string ⟨#[]⟩),(.int .i64 1)]) w1)
  (M0 prog (Y3 .lss Q0 (.tmp 21) (.const (.int .i64 0)) size3 (.int .i64 0)) fun t22 =>
  ifB t22
  (K (.tuple #[(.string ⟨#[]⟩),(.int .i64 1)]) w1)
  (M0 prog (X4 d0) fun t25 =>
   M0 prog (O0 F5 t25 0) fun t26 =>
   Y0 prog (X0 u6 t26) w1 fun t27 =>
   Y0 prog (lK u6 t27 f1 false) w1 fun t29 =>
   M0 prog (jv0 D8 t29 0) fun t30 =>
   Y0 prog (J5 .len #[U2] Q0 #[false] #[t30]) w1 fun t34 =>
   M0 prog (J5 .min #[Q0,Q0] Q0 #[false,false] #[at2,t34]) fun t35 =>
   M0 prog (d9 U2 t30 (some t35) none none) fun t36 =>
   Y0 prog (J5 .len #[U2] Q0 #[false] #[t36]) w1 fun t40 =>
   M0 prog (J5 .min #[Q0,Q0] Q0 #[false,false] #[size3,t40]) fun t41 =>
   M0 prog (d9 U2 t36 none (some t41) none) fun t42 =>
   K (.tuple #[t42,(.int .i64 0)]) w1)))
theorem pO.up{d0 f1 at2 size3:Value}(h:pO.pt d0 f1 at2 size3 w K):upK prog (Z0 XH #[d0,f1,at2,size3]) w K :=
 upF [8,9] .leaf [d0,f1,at2,size3] Tryz.func154 h
end
section
variable {w:World} {K:PtK}
def IR.pt(s0 n1:Value)(w:World)(K:PtK):Prop :=
 upK prog (Z0 iB #[s0]) w fun t11 w1 =>
 TE (X:=Value×Unit) (fun jv1 w2 =>
  upK prog (Z0 jB #[t11]) w2 fun t34 w3 =>
  ifB t34
  (Y0 prog (J5 .len #[K4] Q0 #[false] #[jv1.1]) w3 fun t37 =>
  M0 prog (Y3 .eql Q0 (.tmp 37) (.tmp 38) t37 n1) fun t39 =>
  ifB t39
  (upK prog (Z0 DK #[jv1.1]) w3 fun t43 w4 =>
   M0 prog (Y3 .eql U2 (.tmp 43) (.tmp 44) t43 s0) fun t45 =>
   K (.tuple #[jv1.1,t45]) w4)
  (K (.tuple #[jv1.1,(.bool false)]) w3))
  (K (.tuple #[jv1.1,(.bool false)]) w3))
 (fun J1 =>
  LOOP (X:=Value×Unit) (fun lv5 w5 next5 =>
  Y0 prog (J5 .len #[K4] Q0 #[false] #[lv5.1]) w5 fun t13 =>
  M0 prog (Y3 .lss Q0 (.tmp 13) (.tmp 14) t13 n1) fun t15 =>
  ifB t15
  (upK prog (Z0 yD #[t11]) w5 fun t17 w6 =>
   upK prog (Z0 yA #[t11]) w6 fun t19 w7 =>
   upK prog (Z0 yD #[t11]) w7 fun t21 w8 =>
   M0 prog (Y3 .geq Q0 (.tmp 21) (.tmp 22) t21 t17) fun t23 =>
   ifB t23
   (J1 (lv5.1,()) w8)
   (M0 prog (Y3 .eql Q0 (.tmp 25) (.const (.int .i64 0)) t17 (.int .i64 0)) fun t26 =>
   ifB t26
   (J1 (lv5.1,()) w8)
   (upK prog (P6 K4 1 #[(0,t19)]) w8 fun t30 w9 =>
    upK prog (J5 .append #[K4,K4] K4 #[false,false] #[lv5.1,t30]) w9 fun t31 w10 =>
    next5 (t31,()) w10)))
  (J1 (lv5.1,()) w5))
  ((.slice none 0 0),()) w1)
theorem IR.up{s0 n1:Value}(h:IR.pt s0 n1 w K):upK prog (Z0 xS #[s0,n1]) w K :=
 upF [4,5] (.node none .leaf (.node none (.node none .leaf (.node none .leaf (.node none .leaf (.node (some [7]) .leaf .leaf)))) .leaf)) [s0,n1] Tryz.func155 h
def UM.pt(n0 a1 b2:Value)(w:World)(K:PtK):Prop :=
 M0 prog (Y3 .geq Q0 (.tmp 7) (.tmp 8) n0 a1) fun t9 =>
 ifB t9
 (M0 prog (Y3 .leq Q0 (.tmp 11) (.tmp 12) n0 b2) fun t13 =>
  K t13 w)
 (K (.bool false) w)
theorem UM.up{n0 a1 b2:Value}(h:UM.pt n0 a1 b2 w K):upK prog (Z0 G_ #[n0,a1,b2]) w K :=
 upF [6] .leaf [n0,a1,b2] Tryz.func156 h
def mQ.pt(l0 least1 most2:Value)(w:World)(K:PtK):Prop :=
 Y0 prog (J5 .len #[O3] Q0 #[false] #[l0]) w fun t10 =>
 LOOP (X:=Value×Value×Unit) (fun lv1 w1 next1 =>
  M0 prog (Y3 .lss Q0 (.tmp 11) (.tmp 10) lv1.2.1 t10) fun t12 =>
  ifB t12
  (M0 prog (Y4 O3 l0 lv1.2.1) fun t13 =>
  Y0 prog (X0 U3 t13) w1 fun t14 =>
  upK prog (I7 U3) w1 fun x8 w2 =>
  upK prog (F4 U3 x8 t14) w2 fun tu w3 =>
  M0 prog (O0 U3 x8 0) fun t15 =>
  Y0 prog (X0 Q0 t15) w3 fun t16 =>
  M0 prog (Y3 .lss Q0 (.tmp 16) (.tmp 17) t16 lv1.1) fun t18 =>
  ifB t18
  (K (.bool false) w3)
  (M0 prog (O0 U3 x8 0) fun t20 =>
   Y0 prog (X0 Q0 t20) w3 fun t21 =>
   M0 prog (Y3 .gtr Q0 (.tmp 21) (.tmp 22) t21 most2) fun t23 =>
   ifB t23
   (K (.bool false) w3)
   (M0 prog (O0 U3 x8 1) fun t26 =>
   Y0 prog (X0 U2 t26) w3 fun t27 =>
   Y0 prog (J5 .len #[U2] Q0 #[false] #[t27]) w3 fun t28 =>
   M0 prog (Y3 .gtr Q0 (.tmp 28) (.const (.int .i64 2000)) t28 (.int .i64 2000)) fun t29 =>
   ifB t29
   (K (.bool false) w3)
   (M0 prog (O0 U3 x8 0) fun t31 =>
    Y0 prog (X0 Q0 t31) w3 fun t32 =>
    M0 prog (Y3 .add Q0 (.tmp 11) (.const (.int .i64 1)) lv1.2.1 (.int .i64 1)) fun t33 =>
    next1 (t32,t33,()) w3))))
  (K (.bool true) w1))
 (least1,(.int .i64 0),()) w
theorem mQ.up{l0 least1 most2:Value}(h:mQ.pt l0 least1 most2 w K):upK prog (Z0 GM #[l0,least1,most2]) w K :=
 upF [6] .leaf [l0,least1,most2] Tryz.func157 h
def CB.pt(s0:Value)(w:World)(K:PtK):Prop :=
 M0 prog (Y3 .eql O3 (.tmp 3) (.const (.slice none 0 0)) s0 (.slice none 0 0)) fun t4 =>
 ifB t4
 (K (.slice none 0 0) w)
 (upK prog (P6 O3 0 #[]) w fun t5 w1 =>
  upK prog (J5 .append #[O3,O3] O3 #[false,false] #[t5,s0]) w1 fun t7 w2 =>
  K t7 w2)
theorem CB.up{s0:Value}(h:CB.pt s0 w K):upK prog (Z0 N8 #[s0]) w K :=
 upF [2] .leaf [s0] Tryz.func158 h
def QP.pt(c0:Value)(w:World)(K:PtK):Prop :=
 M0 prog (X4 c0) fun t5 =>
 M0 prog (O0 M4 t5 3) fun t6 =>
 Y0 prog (X0 U2 t6) (tick w) fun t7 =>
 M0 prog (X4 c0) fun t9 =>
 M0 prog (O0 M4 t9 2) fun t10 =>
 Y0 prog (X0 Q0 t10) (tick w) fun t11 =>
 M0 prog (Y3 .gtr Q0 (.tmp 11) (.const (.int .i64 0)) t11 (.int .i64 0)) fun t12 =>
 K (.tuple #[t7,t12]) (tick w)
theorem QP.up{c0:Value}(h:QP.pt c0 w K):upK prog (Z0 xM #[c0]) w K :=
 upF [2,3] .leaf [c0] Tryz.func159 h
def OH.pt(j0:Value)(w:World)(K:PtK):Prop :=
 M0 prog (X4 j0) fun t5 =>
 M0 prog (O0 R4 t5 3) fun t6 =>
 Y0 prog (X0 K4 t6) w fun t7 =>
 Y0 prog (J5 .len #[K4] Q0 #[false] #[t7]) w fun t8 =>
 upK prog (IQ K4 t8 t8) w fun t9 w1 =>
 M0 prog (X4 j0) fun t12 =>
 M0 prog (O0 R4 t12 3) fun t13 =>
 Y0 prog (X0 K4 t13) w1 fun t14 =>
 upK prog (J5 .copy #[K4,K4] Q0 #[false,false] #[t9,t14]) w1 fun t15 w2 =>
 K t9 w2
theorem OH.up{j0:Value}(h:OH.pt j0 w K):upK prog (Z0 LJ #[j0]) w K :=
 upF [2] .leaf [j0] Tryz.func160 h
def TM.pt(s0:Value)(w:World)(K:PtK):Prop :=
 upK prog (I7 U3) w fun t2 w1 =>
 upK prog (Z0 iB #[s0]) w1 fun t7 w2 =>
 upK prog (Z0 Y6 #[t7]) w2 fun t9 w3 =>
 upK prog (Z0 yA #[t7]) w3 fun t11 w4 =>
 M0 prog (G6 U3 #[(0,t9),(1,t11)]) fun t12 =>
 upK prog (I7 U3) w4 fun x5 w5 =>
 upK prog (F4 U3 x5 t12) w5 fun tu w6 =>
 upK prog (Z0 jB #[t7]) w6 fun t14 w7 =>
 M0 prog (sUn .not t14) fun t15 =>
 ifB t15
 (M0 prog (G6 U3 #[]) fun t16 =>
  upK prog (F4 U3 t2 t16) w7 fun tu_1 w8 =>
  S9 prog (do loadVar U3 (←asAddr t2)) w8 fun t2_1 =>
  K (.tuple #[t2_1,(.bool false)]) w8)
 (Y0 prog (X0 U3 x5) w7 fun t17 =>
  upK prog (F4 U3 t2 t17) w7 fun tu_2 w9 =>
  S9 prog (do loadVar U3 (←asAddr t2)) w9 fun t2_2 =>
  K (.tuple #[t2_2,(.bool true)]) w9)
theorem TM.up{s0:Value}(h:TM.pt s0 w K):upK prog (Z0 dO #[s0]) w K :=
 upF [3] .leaf [s0] Tryz.func161 h
def mF.pt(r0:Value)(w:World)(K:PtK):Prop :=
 upK prog (yC R6 r0) w fun r1 w1 =>
 upK prog (P6 J6 3 #[(0,(.int .i64 0)),(1,(.int .i64 1)),(2,(.int .i64 2))]) w1 fun t3 w2 =>
 M0 prog (iG (.func JF) #[] #[r1]) fun t4 =>
 upK prog (Z0 VD #[t3,t4]) w2 fun t5 w3 =>
 K t5 w3
theorem mF.up{r0:Value}(h:mF.pt r0 w K):upK prog (Z0 UB #[r0]) w K :=
 upF [2] .leaf [r0] Tryz.func162 h
def EE.pt(r0 kind1 to2:Value)(w:World)(K:PtK):Prop :=
 upK prog (I7 U1) w fun t6 w1 =>
 M0 prog (X4 r0) fun t9 =>
 M0 prog (O0 I1 t9 0) fun t10 =>
 Y0 prog (X0 Q0 t10) (tick w1) fun t11 =>
 M0 prog (X4 r0) fun t14 =>
 M0 prog (O0 I1 t14 1) fun t15 =>
 M0 prog (O0 H5 t15 0) fun t16 =>
 Y0 prog (X0 Q0 t16) (tick w1) fun t17 =>
 M0 prog (G6 U1 #[(0,kind1),(1,t11),(2,to2),(3,t17)]) fun t18 =>
 upK prog (F4 U1 t6 t18) (tick w1) fun tu w2 =>
 S9 prog (do loadVar U1 (←asAddr t6)) w2 fun t6_1 =>
 K t6_1 w2
theorem EE.up{r0 kind1 to2:Value}(h:EE.pt r0 kind1 to2 w K):upK prog (Z0 xA #[r0,kind1,to2]) w K :=
 upF [] .leaf [r0,kind1,to2] Tryz.func163 h
def RG.pt(r0 n1:Value)(w:World)(K:PtK):Prop :=
 M0 prog (Y3 .eql Q0 (.tmp 5) (.const (.int .i64 0)) n1 (.int .i64 0)) fun t6 =>
 ifB t6
 (K (.int .i64 0) w)
 (M0 prog (X4 r0) fun t8 =>
  M0 prog (O0 I1 t8 2) fun t9 =>
  Y0 prog (X0 O3 t9) w fun t10 =>
  M0 prog (Y3 .sub Q0 (.tmp 11) (.const (.int .i64 1)) n1 (.int .i64 1)) fun t12 =>
  M0 prog (Y4 O3 t10 t12) fun t13 =>
  M0 prog (O0 U3 t13 0) fun t14 =>
  Y0 prog (X0 Q0 t14) w fun t15 =>
  K t15 w)
theorem RG.up{r0 n1:Value}(h:RG.pt r0 n1 w K):upK prog (Z0 F_ #[r0,n1]) w K :=
 upF [4] .leaf [r0,n1] Tryz.func164 h
def TR.pt(n0 i1:Value)(w:World)(K:PtK):Prop :=
 upK prog (I7 U4) w fun t4 w1 =>
 M0 prog (Y3 .lss Q0 (.tmp 7) (.const (.int .i64 0)) i1 (.int .i64 0)) fun t8 =>
 ifB t8
 (M0 prog (G6 U4 #[]) fun t18 =>
  upK prog (F4 U4 t4 t18) w1 fun tu w2 =>
  S9 prog (do loadVar U4 (←asAddr t4)) w2 fun t4_1 =>
  K (.tuple #[t4_1,(.bool false)]) w2)
 (M0 prog (X4 n0) fun t12 =>
  M0 prog (O0 y9 t12 0) fun t13 =>
  Y0 prog (X0 I5 t13) w1 fun t14 =>
  Y0 prog (J5 .len #[I5] Q0 #[false] #[t14]) w1 fun t15 =>
  M0 prog (Y3 .geq Q0 (.tmp 10) (.tmp 15) i1 t15) fun t16 =>
  ifB t16
  (M0 prog (G6 U4 #[]) fun t18_1 =>
  upK prog (F4 U4 t4 t18_1) w1 fun tu_1 w3 =>
  S9 prog (do loadVar U4 (←asAddr t4)) w3 fun t4_2 =>
  K (.tuple #[t4_2,(.bool false)]) w3)
  (M0 prog (X4 n0) fun t20 =>
  M0 prog (O0 y9 t20 0) fun t21 =>
  Y0 prog (X0 I5 t21) w1 fun t22 =>
  M0 prog (Y4 I5 t22 i1) fun t24 =>
  Y0 prog (X0 U4 t24) w1 fun t25 =>
  upK prog (I7 U4) w1 fun p6 w4 =>
  upK prog (F4 U4 p6 t25) w4 fun tu_2 w5 =>
  M0 prog (X4 n0) fun t28 =>
  M0 prog (O0 y9 t28 0) fun t29 =>
  Y0 prog (X0 I5 t29) w5 fun t30 =>
  M0 prog (Y3 .add Q0 (.tmp 32) (.const (.int .i64 1)) i1 (.int .i64 1)) fun t33 =>
  upK prog (Z0 ZA #[t30,i1,t33]) w5 fun t34 w6 =>
  M0 prog (X4 n0) fun t35 =>
  M0 prog (O0 y9 t35 0) fun t36 =>
  upK prog (F4 I5 t36 t34) w6 fun tu_3 w7 =>
  Y0 prog (X0 U4 p6) w7 fun t37 =>
  upK prog (F4 U4 t4 t37) w7 fun tu_4 w8 =>
  S9 prog (do loadVar U4 (←asAddr t4)) w8 fun t4_3 =>
  K (.tuple #[t4_3,(.bool true)]) w8))
theorem TR.up{n0 i1:Value}(h:TR.pt n0 i1 w K):upK prog (Z0 cO #[n0,i1]) w K :=
 upF [5] .leaf [n0,i1] Tryz.func165 h
def PR.pt(n0 a1 b2:Value)(w:World)(K:PtK):Prop :=
 upK prog (Z0 kS #[a1]) (tick w) fun t8 w1 =>
 ifB t8
 (upK prog (Z0 kS #[b2]) w1 fun t11 w2 =>
  ifB t11
  (M0 prog (X4 n0) fun t15 =>
  M0 prog (O0 y9 t15 1) fun t16 =>
  Y0 prog (X0 Q0 t16) w2 fun t17 =>
  M0 prog (Y3 .shr Q0 (.tmp 17) (.tmp 18) t17 a1) fun t19 =>
  M0 prog (Y3 .and Q0 (.tmp 19) (.const (.int .i64 1)) t19 (.int .i64 1)) fun t20 =>
  M0 prog (X4 n0) fun t22 =>
  M0 prog (O0 y9 t22 1) fun t23 =>
  Y0 prog (X0 Q0 t23) w2 fun t24 =>
  M0 prog (Y3 .shr Q0 (.tmp 24) (.tmp 25) t24 b2) fun t26 =>
  M0 prog (Y3 .and Q0 (.tmp 26) (.const (.int .i64 1)) t26 (.int .i64 1)) fun t27 =>
  M0 prog (Y3 .eql Q0 (.tmp 20) (.tmp 27) t20 t27) fun t28 =>
  K t28 w2)
  (K (.bool false) w2))
 (K (.bool false) w1)
theorem PR.up{n0 a1 b2:Value}(h:PR.pt n0 a1 b2 w K):upK prog (Z0 bO #[n0,a1,b2]) w K :=
 upF [6] .leaf [n0,a1,b2] Tryz.func166 h
def fG.pt(r0 m1:Value)(w:World)(K:PtK):Prop :=
 upK prog (yC U1 m1) w fun m3 w1 =>
 TE (X:=Unit) (fun jv1 w2 =>
  M0 prog (O0 U1 m3 6) fun t63 =>
  Y0 prog (X0 Q0 t63) w2 fun t64 =>
  upK prog (Z0 G_ #[t64,(.int .i64 0),(.int .i64 4000)]) w2 fun t65 w3 =>
  ifB t65
  (M0 prog (O0 U1 m3 8) fun t67 =>
  Y0 prog (X0 O3 t67) w3 fun t68 =>
  Y0 prog (J5 .len #[O3] Q0 #[false] #[t68]) w3 fun t69 =>
  M0 prog (Y3 .leq Q0 (.tmp 69) (.const (.int .i64 8)) t69 (.int .i64 8)) fun t70 =>
  ifB t70
  (M0 prog (O0 U1 m3 4) fun t73 =>
   Y0 prog (X0 Q0 t73) w3 fun t74 =>
   M0 prog (O0 U1 m3 8) fun t75 =>
   Y0 prog (X0 O3 t75) w3 fun t76 =>
   Y0 prog (J5 .len #[O3] Q0 #[false] #[t76]) w3 fun t77 =>
   M0 prog (Y3 .add Q0 (.tmp 74) (.tmp 77) t74 t77) fun t78 =>
   M0 prog (Y3 .leq Q0 (.tmp 78) (.const (.int .i64 4000)) t78 (.int .i64 4000)) fun t79 =>
   ifB t79
   (M0 prog (O0 U1 m3 8) fun t82 =>
   Y0 prog (X0 O3 t82) w3 fun t83 =>
   M0 prog (O0 U1 m3 5) fun t84 =>
   Y0 prog (X0 Q0 t84) w3 fun t85 =>
   M0 prog (J5 .max #[Q0,Q0] Q0 #[true,false] #[(.int .i64 1),t85]) fun t86 =>
   M0 prog (O0 U1 m3 3) fun t87 =>
   Y0 prog (X0 Q0 t87) w3 fun t88 =>
   upK prog (Z0 GM #[t83,t86,t88]) w3 fun t89 w4 =>
   K t89 w4)
   (K (.bool false) w3))
  (K (.bool false) w3))
  (K (.bool false) w3))
 (fun J1 =>
  M0 prog (O0 U1 m3 0) fun t6 =>
  Y0 prog (X0 Q0 t6) (tick w1) fun t7 =>
  upK prog (Z0 G_ #[t7,(.int .i64 0),(.int .i64 3)]) (tick w1) fun t8 w5 =>
  M0 prog (sUn .not t8) fun t9 =>
  ifB t9
  (K (.bool false) w5)
  (M0 prog (O0 U1 m3 2) fun t11 =>
  Y0 prog (X0 Q0 t11) w5 fun t12 =>
  M0 prog (X4 r0) fun t14 =>
  M0 prog (O0 I1 t14 0) fun t15 =>
  Y0 prog (X0 Q0 t15) w5 fun t16 =>
  M0 prog (Y3 .neq Q0 (.tmp 12) (.tmp 16) t12 t16) fun t17 =>
  ifB t17
  (K (.bool false) w5)
  (M0 prog (O0 U1 m3 1) fun t20 =>
   Y0 prog (X0 Q0 t20) w5 fun t21 =>
   M0 prog (X4 r0) fun t23 =>
   M0 prog (O0 I1 t23 0) fun t24 =>
   Y0 prog (X0 Q0 t24) w5 fun t25 =>
   M0 prog (Y3 .eql Q0 (.tmp 21) (.tmp 25) t21 t25) fun t26 =>
   ifB t26
   (K (.bool false) w5)
   (M0 prog (O0 U1 m3 1) fun t29 =>
   Y0 prog (X0 Q0 t29) w5 fun t30 =>
   upK prog (Z0 G_ #[t30,(.int .i64 0),(.int .i64 2)]) w5 fun t31 w6 =>
   M0 prog (sUn .not t31) fun t32 =>
   ifB t32
   (K (.bool false) w6)
   (M0 prog (O0 U1 m3 3) fun t35 =>
    Y0 prog (X0 Q0 t35) w6 fun t36 =>
    upK prog (Z0 G_ #[t36,(.int .i64 1),(.int .i64 1099511627776)]) w6 fun t37 w7 =>
    M0 prog (sUn .not t37) fun t38 =>
    ifB t38
    (K (.bool false) w7)
    (M0 prog (O0 U1 m3 4) fun t40 =>
    Y0 prog (X0 Q0 t40) w7 fun t41 =>
    upK prog (Z0 G_ #[t41,(.int .i64 0),(.int .i64 4000)]) w7 fun t42 w8 =>
    M0 prog (sUn .not t42) fun t43 =>
    ifB t43
    (K (.bool false) w8)
    (M0 prog (O0 U1 m3 5) fun t46 =>
     Y0 prog (X0 Q0 t46) w8 fun t47 =>
     M0 prog (O0 U1 m3 3) fun t48 =>
     Y0 prog (X0 Q0 t48) w8 fun t49 =>
     upK prog (Z0 G_ #[t47,(.int .i64 0),t49]) w8 fun t50 w9 =>
     M0 prog (sUn .not t50) fun t51 =>
     ifB t51
     (K (.bool false) w9)
     (M0 prog (O0 U1 m3 4) fun t54 =>
     Y0 prog (X0 Q0 t54) w9 fun t55 =>
     M0 prog (Y3 .eql Q0 (.tmp 55) (.const (.int .i64 0)) t55 (.int .i64 0)) fun t56 =>
     ifB t56
     (M0 prog (O0 U1 m3 5) fun t58 =>
      Y0 prog (X0 Q0 t58) w9 fun t59 =>
      M0 prog (Y3 .neq Q0 (.tmp 59) (.const (.int .i64 0)) t59 (.int .i64 0)) fun t60 =>
      ifB t60
      (K (.bool false) w9)
      (J1 (()) w9))
     (J1 (()) w9)))))))))
theorem fG.up{r0 m1:Value}(h:fG.pt r0 m1 w K):upK prog (Z0 dI #[r0,m1]) w K :=
 upF [4] (.node none .leaf (.node (some []) .leaf .leaf)) [r0,m1] Tryz.func167 h
def SG.pt(r0 m1:Value)(w:World)(K:PtK):Prop :=
 upK prog (yC U1 m1) w fun m3 w1 =>
 upK prog (I7 Y2) w1 fun t4 w2 =>
 M0 prog (O0 U1 m3 1) fun t9 =>
 Y0 prog (X0 Q0 t9) w2 fun t10 =>
 upK prog (Z0 xA #[r0,(.int .i64 1),t10]) w2 fun t11 w3 =>
 upK prog (I7 U1) w3 fun a5 w4 =>
 upK prog (F4 U1 a5 t11) w4 fun tu w5 =>
 M0 prog (X4 r0) fun t14 =>
 M0 prog (O0 I1 t14 2) fun t15 =>
 Y0 prog (X0 O3 t15) w5 fun t16 =>
 Y0 prog (J5 .len #[O3] Q0 #[false] #[t16]) w5 fun t17 =>
 upK prog (Z0 F_ #[r0,t17]) w5 fun t18 w6 =>
 TE (X:=Value×Unit) (fun jv1 w7 =>
  TE (X:=Unit) (fun jv2 w8 =>
  Y0 prog (X0 U1 a5) w8 fun t75 =>
  upK prog (Z0 D_ #[t75]) w8 fun t76 w9 =>
  upK prog (F4 Y2 t4 t76) w9 fun tu_1 w10 =>
  S9 prog (do loadVar Y2 (←asAddr t4)) w10 fun t4_1 =>
  K t4_1 w10)
  (fun J2 =>
  TE (X:=Value×Unit) (fun jv3 w11 =>
   ifB jv3.1
   (M0 prog (O0 U1 m3 1) fun t69 =>
   Y0 prog (X0 Q0 t69) (tick w11) fun t70 =>
   M0 prog (O0 U1 a5 7) fun t71 =>
   upK prog (F4 EC t71 (.bool true)) (tick w11) fun tu_2 w12 =>
   Is prog (X0 Q0 t69) t70 w12∧M0 prog (X4 r0) fun t72 =>
   M0 prog (O0 I1 t72 1) fun t73 =>
   M0 prog (O0 H5 t73 1) fun t74 =>
   upK prog (F4 Q0 t74 t70) w12 fun tu_3 w13 =>
   J2 (()) w13)
   (J2 (()) w11))
  (fun J3 =>
   M0 prog (O0 U1 m3 3) fun t39 =>
   Y0 prog (X0 Q0 t39) (tick w7) fun t40 =>
   M0 prog (X4 r0) fun t42 =>
   M0 prog (O0 I1 t42 1) fun t43 =>
   M0 prog (O0 H5 t43 0) fun t44 =>
   Y0 prog (X0 Q0 t44) (tick w7) fun t45 =>
   M0 prog (Y3 .eql Q0 (.tmp 40) (.tmp 45) t40 t45) fun t46 =>
   ifB t46
   (M0 prog (X4 r0) fun t49 =>
   M0 prog (O0 I1 t49 1) fun t50 =>
   M0 prog (O0 H5 t50 1) fun t51 =>
   Y0 prog (X0 Q0 t51) (tick w7) fun t52 =>
   M0 prog (Y3 .eql Q0 (.tmp 52) (.const (.int .i64 (-1))) t52 (.int .i64 (-1))) fun t53 =>
   ifB t53
   (J3 (jv1.1,()) (tick w7))
   (M0 prog (X4 r0) fun t56 =>
    M0 prog (O0 I1 t56 1) fun t57 =>
    M0 prog (O0 H5 t57 1) fun t58 =>
    Y0 prog (X0 Q0 t58) (tick w7) fun t59 =>
    M0 prog (O0 U1 m3 1) fun t60 =>
    Y0 prog (X0 Q0 t60) (tick w7) fun t61 =>
    M0 prog (Y3 .eql Q0 (.tmp 59) (.tmp 61) t59 t61) fun t62 =>
    ifB t62
    (J3 (jv1.1,()) (tick w7))
    (J3 ((.bool false),()) (tick w7))))
   (J3 ((.bool false),()) (tick w7)))))
 (fun J1 =>
  M0 prog (O0 U1 m3 5) fun t19 =>
  Y0 prog (X0 Q0 t19) (tick w6) fun t20 =>
  M0 prog (Y3 .gtr Q0 (.tmp 20) (.tmp 21) t20 t18) fun t22 =>
  ifB t22
  (J1 ((.bool true),()) (tick w6))
  (M0 prog (O0 U1 m3 5) fun t24 =>
  Y0 prog (X0 Q0 t24) (tick w6) fun t25 =>
  M0 prog (Y3 .eql Q0 (.tmp 25) (.tmp 26) t25 t18) fun t27 =>
  ifB t27
  (M0 prog (O0 U1 m3 4) fun t29 =>
   Y0 prog (X0 Q0 t29) (tick w6) fun t30 =>
   M0 prog (X4 r0) fun t32 =>
   M0 prog (O0 I1 t32 2) fun t33 =>
   Y0 prog (X0 O3 t33) (tick w6) fun t34 =>
   Y0 prog (J5 .len #[O3] Q0 #[false] #[t34]) (tick w6) fun t35 =>
   M0 prog (Y3 .geq Q0 (.tmp 30) (.tmp 35) t30 t35) fun t36 =>
   J1 (t36,()) (tick w6))
  (J1 ((.bool false),()) (tick w6))))
theorem SG.up{r0 m1:Value}(h:SG.pt r0 m1 w K):upK prog (Z0 VI #[r0,m1]) w K :=
 upF [] (.node none .leaf (.node none .leaf (.node none .leaf (.node (some [7]) .leaf (.node (some []) (.node (some [67]) .leaf .leaf) .leaf))))) [r0,m1] Tryz.func168 h
def gG.pt(r0 m1:Value)(w:World)(K:PtK):Prop :=
 upK prog (yC U1 m1) w fun m3 w1 =>
 upK prog (I7 Y2) w1 fun t4 w2 =>
 M0 prog (X4 r0) fun t10 =>
 M0 prog (O0 I1 t10 3) fun t11 =>
 Y0 prog (X0 Q0 t11) (tick w2) fun t12 =>
 M0 prog (Y3 .neq Q0 (.tmp 12) (.const (.int .i64 1)) t12 (.int .i64 1)) fun t13 =>
 ifB t13
 (M0 prog (G6 Y2 #[]) fun t29 =>
  upK prog (F4 Y2 t4 t29) (tick w2) fun tu w3 =>
  S9 prog (do loadVar Y2 (←asAddr t4)) w3 fun t4_1 =>
  K t4_1 w3)
 (M0 prog (O0 U1 m3 3) fun t15 =>
  Y0 prog (X0 Q0 t15) (tick w2) fun t16 =>
  M0 prog (X4 r0) fun t18 =>
  M0 prog (O0 I1 t18 1) fun t19 =>
  M0 prog (O0 H5 t19 0) fun t20 =>
  Y0 prog (X0 Q0 t20) (tick w2) fun t21 =>
  M0 prog (Y3 .neq Q0 (.tmp 16) (.tmp 21) t16 t21) fun t22 =>
  ifB t22
  (M0 prog (G6 Y2 #[]) fun t29_1 =>
  upK prog (F4 Y2 t4 t29_1) (tick w2) fun tu_1 w4 =>
  S9 prog (do loadVar Y2 (←asAddr t4)) w4 fun t4_2 =>
  K t4_2 w4)
  (M0 prog (O0 U1 m3 7) fun t25 =>
  Y0 prog (X0 EC t25) (tick w2) fun t26 =>
  M0 prog (sUn .not t26) fun t27 =>
  ifB t27
  (M0 prog (G6 Y2 #[]) fun t29_2 =>
   upK prog (F4 Y2 t4 t29_2) (tick w2) fun tu_2 w5 =>
   S9 prog (do loadVar Y2 (←asAddr t4)) w5 fun t4_3 =>
   K t4_3 w5)
  (M0 prog (O0 U1 m3 1) fun t31 =>
   Y0 prog (X0 Q0 t31) (tick (tick w2)) fun t32 =>
   M0 prog (X4 r0) fun t33 =>
   M0 prog (O0 I1 t33 5) fun t34 =>
   M0 prog (Y4 iI t34 t32) fun t35 =>
   upK prog (F4 EC t35 (.bool true)) (tick (tick w2)) fun tu_3 w6 =>
   M0 prog (X4 r0) fun t37 =>
   M0 prog (O0 I1 t37 5) fun t38 =>
   Y0 prog (X0 iI t38) w6 fun t39 =>
   LOOP (X:=Value×Value×Unit) (fun lv7 w7 next7 =>
   M0 prog (Y3 .lss Q0 (.tmp 40) (.const (.int .i64 3)) lv7.2.1 (.int .i64 3)) fun t41 =>
   ifB t41
   (TE (X:=Value×Unit) (fun jv1 w8 =>
    M0 prog (Y3 .add Q0 (.tmp 40) (.const (.int .i64 1)) lv7.2.1 (.int .i64 1)) fun t46 =>
    next7 (jv1.1,t46,()) w8)
    (fun J1 =>
    M0 prog (RZ iI t39 lv7.2.1) fun t42 =>
    ifB t42
    (M0 prog (Y3 .add Q0 (.tmp 44) (.const (.int .i64 1)) lv7.1 (.int .i64 1)) fun t45 =>
     J1 (t45,()) w7)
    (J1 (lv7.1,()) w7)))
   (M0 prog (Y3 .lss Q0 (.tmp 47) (.const (.int .i64 2)) lv7.1 (.int .i64 2)) fun t48 =>
    ifB t48
    (M0 prog (G6 Y2 #[]) fun t49 =>
    upK prog (F4 Y2 t4 t49) w7 fun tu_4 w9 =>
    S9 prog (do loadVar Y2 (←asAddr t4)) w9 fun t4_4 =>
    K t4_4 w9)
    (M0 prog (X4 r0) fun t51 =>
    M0 prog (O0 I1 t51 3) fun t52 =>
    upK prog (F4 Q0 t52 (.int .i64 2)) w7 fun tu_5 w10 =>
    LOOP (X:=Value×Unit) (fun lv11 w11 next11 =>
     M0 prog (Y3 .lss Q0 (.tmp 53) (.const (.int .i64 3)) lv11.1 (.int .i64 3)) fun t54 =>
     ifB t54
     (M0 prog (X4 r0) fun t61 =>
     M0 prog (O0 I1 t61 2) fun t62 =>
     Y0 prog (X0 O3 t62) (tick w11) fun t63 =>
     Y0 prog (J5 .len #[O3] Q0 #[false] #[t63]) (tick w11) fun t64 =>
     M0 prog (Y3 .add Q0 (.tmp 64) (.const (.int .i64 1)) t64 (.int .i64 1)) fun t65 =>
     M0 prog (X4 r0) fun t66 =>
     M0 prog (O0 I1 t66 6) fun t67 =>
     M0 prog (Y4 IM t67 lv11.1) fun t68 =>
     M0 prog (X4 r0) fun t69 =>
     M0 prog (O0 I1 t69 7) fun t70 =>
     upK prog (F4 Q0 t68 t65) (tick w11) fun tu_6 w12 =>
     M0 prog (Y4 IM t70 lv11.1) fun t71 =>
     upK prog (F4 Q0 t71 (.int .i64 0)) w12 fun tu_7 w13 =>
     M0 prog (Y3 .add Q0 (.tmp 53) (.const (.int .i64 1)) lv11.1 (.int .i64 1)) fun t72 =>
     next11 (t72,()) w13)
     (upK prog (Z0 TB #[r0]) w11 fun t74 w14 =>
     M0 prog (G6 Y2 #[(4,t74)]) fun t75 =>
     upK prog (F4 Y2 t4 t75) w14 fun tu_8 w15 =>
     S9 prog (do loadVar Y2 (←asAddr t4)) w15 fun t4_5 =>
     K t4_5 w15))
    ((.int .i64 0),()) w10)))
   ((.int .i64 0),(.int .i64 0),()) w6)))
theorem gG.up{r0 m1:Value}(h:gG.pt r0 m1 w K):upK prog (Z0 fI #[r0,m1]) w K :=
 upF [] (.node none .leaf (.node none .leaf (.node none .leaf (.node none .leaf (.node none (.node none .leaf (.node none (.node none (.node none .leaf (.node none .leaf (.node (some [5]) .leaf .leaf))) .leaf) .leaf)) .leaf))))) [r0,m1] Tryz.func169 h
def lF.pt(r0 m1:Value)(w:World)(K:PtK):Prop :=
 upK prog (yC U1 m1) w fun m3 w1 =>
 upK prog (I7 Y2) w1 fun t4 w2 =>
 M0 prog (O0 U1 m3 1) fun t11 =>
 Y0 prog (X0 Q0 t11) w2 fun t12 =>
 upK prog (Z0 xA #[r0,(.int .i64 3),t12]) w2 fun t13 w3 =>
 upK prog (I7 U1) w3 fun a5 w4 =>
 upK prog (F4 U1 a5 t13) w4 fun tu w5 =>
 M0 prog (O0 U1 m3 3) fun t14 =>
 Y0 prog (X0 Q0 t14) (tick w5) fun t15 =>
 M0 prog (X4 r0) fun t17 =>
 M0 prog (O0 I1 t17 1) fun t18 =>
 M0 prog (O0 H5 t18 0) fun t19 =>
 Y0 prog (X0 Q0 t19) (tick w5) fun t20 =>
 M0 prog (Y3 .lss Q0 (.tmp 15) (.tmp 20) t15 t20) fun t21 =>
 ifB t21
 (Y0 prog (X0 U1 a5) (tick w5) fun t22 =>
  upK prog (Z0 D_ #[t22]) (tick w5) fun t23 w6 =>
  upK prog (F4 Y2 t4 t23) w6 fun tu_1 w7 =>
  S9 prog (do loadVar Y2 (←asAddr t4)) w7 fun t4_1 =>
  K t4_1 w7)
 (M0 prog (X4 r0) fun t25 =>
  M0 prog (O0 I1 t25 3) fun t26 =>
  Y0 prog (X0 Q0 t26) (tick w5) fun t27 =>
  M0 prog (Y3 .eql Q0 (.tmp 27) (.const (.int .i64 2)) t27 (.int .i64 2)) fun t28 =>
  ifB t28
  (M0 prog (G6 Y2 #[]) fun t29 =>
  upK prog (F4 Y2 t4 t29) (tick w5) fun tu_2 w8 =>
  S9 prog (do loadVar Y2 (←asAddr t4)) w8 fun t4_2 =>
  K t4_2 w8)
  (M0 prog (X4 r0) fun t31 =>
  M0 prog (O0 I1 t31 3) fun t32 =>
  upK prog (F4 Q0 t32 (.int .i64 0)) (tick w5) fun tu_3 w9 =>
  M0 prog (O0 U1 m3 4) fun t33 =>
  Y0 prog (X0 Q0 t33) (tick w9) fun t34 =>
  M0 prog (X4 r0) fun t36 =>
  M0 prog (O0 I1 t36 2) fun t37 =>
  Y0 prog (X0 O3 t37) (tick w9) fun t38 =>
  Y0 prog (J5 .len #[O3] Q0 #[false] #[t38]) (tick w9) fun t39 =>
  M0 prog (Y3 .gtr Q0 (.tmp 34) (.tmp 39) t34 t39) fun t40 =>
  ifB t40
  (M0 prog (X4 r0) fun t51 =>
   M0 prog (O0 I1 t51 2) fun t52 =>
   Y0 prog (X0 O3 t52) (tick (tick w9)) fun t53 =>
   Y0 prog (J5 .len #[O3] Q0 #[false] #[t53]) (tick (tick w9)) fun t54 =>
   M0 prog (O0 U1 m3 4) fun t55 =>
   Y0 prog (X0 Q0 t55) (tick (tick w9)) fun t56 =>
   M0 prog (Y3 .sub Q0 (.tmp 56) (.const (.int .i64 1)) t56 (.int .i64 1)) fun t57 =>
   M0 prog (J5 .min #[Q0,Q0] Q0 #[false,false] #[t54,t57]) fun t58 =>
   M0 prog (O0 U1 a5 4) fun t59 =>
   upK prog (F4 Q0 t59 t58) (tick (tick w9)) fun tu_4 w10 =>
   Y0 prog (X0 U1 a5) w10 fun t60 =>
   upK prog (Z0 D_ #[t60]) w10 fun t61 w11 =>
   upK prog (F4 Y2 t4 t61) w11 fun tu_5 w12 =>
   S9 prog (do loadVar Y2 (←asAddr t4)) w12 fun t4_3 =>
   K t4_3 w12)
  (M0 prog (O0 U1 m3 4) fun t43 =>
   Y0 prog (X0 Q0 t43) (tick w9) fun t44 =>
   M0 prog (O0 U1 m3 5) fun t46 =>
   Y0 prog (X0 Q0 t46) (tick w9) fun t47 =>
   upK prog (Z0 F_ #[r0,t44]) (tick w9) fun t45 w13 =>
   Is prog (X0 Q0 t46) t47 w13∧M0 prog (Y3 .neq Q0 (.tmp 45) (.tmp 47) t45 t47) fun t48 =>
   ifB t48
   (M0 prog (X4 r0) fun t51_1 =>
   M0 prog (O0 I1 t51_1 2) fun t52_1 =>
   Y0 prog (X0 O3 t52_1) (tick w13) fun t53_1 =>
   Y0 prog (J5 .len #[O3] Q0 #[false] #[t53_1]) (tick w13) fun t54_1 =>
   M0 prog (O0 U1 m3 4) fun t55_1 =>
   Y0 prog (X0 Q0 t55_1) (tick w13) fun t56_1 =>
   M0 prog (Y3 .sub Q0 (.tmp 56) (.const (.int .i64 1)) t56_1 (.int .i64 1)) fun t57_1 =>
   M0 prog (J5 .min #[Q0,Q0] Q0 #[false,false] #[t54_1,t57_1]) fun t58_1 =>
   M0 prog (O0 U1 a5 4) fun t59_1 =>
   upK prog (F4 Q0 t59_1 t58_1) (tick w13) fun tu_6 w14 =>
   Y0 prog (X0 U1 a5) w14 fun t60_1 =>
   upK prog (Z0 D_ #[t60_1]) w14 fun t61_1 w15 =>
   upK prog (F4 Y2 t4 t61_1) w15 fun tu_7 w16 =>
   S9 prog (do loadVar Y2 (←asAddr t4)) w16 fun t4_4 =>
   K t4_4 w16)
   (upK prog (I7 Y2) w13 fun o6 w17 =>
   TE (X:=Unit) (fun jv1 w18 =>
    M0 prog (O0 U1 m3 4) fun t120 =>
    Y0 prog (X0 Q0 t120) (tick w18) fun t121 =>
    M0 prog (O0 U1 m3 8) fun t122 =>
    Y0 prog (X0 O3 t122) (tick w18) fun t123 =>
    Y0 prog (J5 .len #[O3] Q0 #[false] #[t123]) (tick w18) fun t124 =>
    M0 prog (Y3 .add Q0 (.tmp 121) (.tmp 124) t121 t124) fun t125 =>
    M0 prog (O0 U1 a5 7) fun t126 =>
    upK prog (F4 EC t126 (.bool true)) (tick w18) fun tu_8 w19 =>
    Is prog (J5 .len #[O3] Q0 #[false] #[t123]) t124 w19∧Is prog (X0 O3 t122) t123 w19∧Is prog (X0 Q0 t120) t121 w19∧M0 prog (O0 U1 a5 4) fun t127 =>
    upK prog (F4 Q0 t127 t125) w19 fun tu_9 w20 =>
    M0 prog (X4 r0) fun t130 =>
    M0 prog (O0 I1 t130 4) fun t131 =>
    Y0 prog (X0 Q0 t131) (tick w20) fun t132 =>
    M0 prog (O0 U1 m3 6) fun t133 =>
    Y0 prog (X0 Q0 t133) (tick w20) fun t134 =>
    M0 prog (O0 U1 a5 4) fun t135 =>
    Y0 prog (X0 Q0 t135) (tick w20) fun t136 =>
    M0 prog (J5 .min #[Q0,Q0] Q0 #[false,false] #[t134,t136]) fun t137 =>
    M0 prog (J5 .max #[Q0,Q0] Q0 #[false,false] #[t132,t137]) fun t138 =>
    M0 prog (X4 r0) fun t139 =>
    M0 prog (O0 I1 t139 4) fun t140 =>
    upK prog (F4 Q0 t140 t138) (tick w20) fun tu_10 w21 =>
    Y0 prog (X0 U1 a5) w21 fun t141 =>
    upK prog (P6 W_ 1 #[(0,t141)]) w21 fun t142 w22 =>
    M0 prog (O0 Y2 o6 4) fun t143 =>
    upK prog (F4 W_ t143 t142) w22 fun tu_11 w23 =>
    Y0 prog (X0 Y2 o6) w23 fun t144 =>
    upK prog (F4 Y2 t4 t144) w23 fun tu_12 w24 =>
    S9 prog (do loadVar Y2 (←asAddr t4)) w24 fun t4_5 =>
    K t4_5 w24)
   (fun J1 =>
    M0 prog (O0 U1 m3 8) fun t62 =>
    Y0 prog (X0 O3 t62) w17 fun t63 =>
    Y0 prog (J5 .len #[O3] Q0 #[false] #[t63]) w17 fun t64 =>
    LOOP (X:=Value×Unit) (fun lv25 w25 next25 =>
    M0 prog (Y3 .lss Q0 (.tmp 65) (.tmp 64) lv25.1 t64) fun t66 =>
    ifB t66
    (M0 prog (Y4 O3 t63 lv25.1) fun t68 =>
     Y0 prog (X0 U3 t68) w25 fun t69 =>
     upK prog (I7 U3) w25 fun x8 w26 =>
     upK prog (F4 U3 x8 t69) w26 fun tu_13 w27 =>
     M0 prog (O0 U1 m3 4) fun t70 =>
     Y0 prog (X0 Q0 t70) w27 fun t71 =>
     M0 prog (Y3 .add Q0 (.tmp 71) (.tmp 72) t71 lv25.1) fun t73 =>
     M0 prog (Y3 .add Q0 (.tmp 73) (.const (.int .i64 1)) t73 (.int .i64 1)) fun t74 =>
     TE (X:=Unit) (fun jv2 w28 =>
     M0 prog (X4 r0) fun t92 =>
     M0 prog (O0 I1 t92 4) fun t93 =>
     Y0 prog (X0 Q0 t93) w28 fun t94 =>
     M0 prog (Y3 .leq Q0 (.tmp 90) (.tmp 94) t74 t94) fun t95 =>
     ifB t95
     (M0 prog (G6 Y2 #[]) fun t96 =>
      upK prog (F4 Y2 t4 t96) w28 fun tu_14 w29 =>
      S9 prog (do loadVar Y2 (←asAddr t4)) w29 fun t4_6 =>
      K t4_6 w29)
     (M0 prog (O0 U1 m3 8) fun t98 =>
      Y0 prog (X0 O3 t98) w28 fun t99 =>
      M0 prog (d9 O3 t99 (some lv25.1) none none) fun t101 =>
      upK prog (Z0 N8 #[t101]) w28 fun t102 w30 =>
      M0 prog (O0 Y2 o6 2) fun t103 =>
      upK prog (F4 Q0 t103 t74) w30 fun tu_15 w31 =>
      M0 prog (O0 Y2 o6 3) fun t104 =>
      upK prog (F4 O3 t104 t102) w31 fun tu_16 w32 =>
      M0 prog (X4 r0) fun t107 =>
      M0 prog (O0 I1 t107 2) fun t108 =>
      Y0 prog (X0 O3 t108) (tick w32) fun t109 =>
      M0 prog (Y3 .sub Q0 (.tmp 110) (.const (.int .i64 1)) t74 (.int .i64 1)) fun t111 =>
      M0 prog (d9 O3 t109 none (some t111) none) fun t112 =>
      M0 prog (O0 Y2 o6 3) fun t114 =>
      Y0 prog (X0 O3 t114) (tick w32) fun t115 =>
      upK prog (Z0 N8 #[t112]) (tick w32) fun t113 w33 =>
      Is prog (X0 O3 t114) t115 w33∧upK prog (J5 .append #[O3,O3] O3 #[false,false] #[t113,t115]) w33 fun t116 w34 =>
      M0 prog (X4 r0) fun t117 =>
      M0 prog (O0 I1 t117 2) fun t118 =>
      upK prog (F4 O3 t118 t116) w34 fun tu_17 w35 =>
      J1 (()) w35))
     (fun J2 =>
     M0 prog (X4 r0) fun t77 =>
     M0 prog (O0 I1 t77 2) fun t78 =>
     Y0 prog (X0 O3 t78) (tick w27) fun t79 =>
     Y0 prog (J5 .len #[O3] Q0 #[false] #[t79]) (tick w27) fun t80 =>
     M0 prog (Y3 .leq Q0 (.tmp 75) (.tmp 80) t74 t80) fun t81 =>
     ifB t81
     (M0 prog (O0 U3 x8 0) fun t86 =>
      Y0 prog (X0 Q0 t86) (tick w27) fun t87 =>
      upK prog (Z0 F_ #[r0,t74]) (tick w27) fun t85 w36 =>
      Is prog (X0 Q0 t86) t87 w36∧M0 prog (Y3 .eql Q0 (.tmp 85) (.tmp 87) t85 t87) fun t88 =>
      ifB t88
      (M0 prog (Y3 .add Q0 (.tmp 65) (.const (.int .i64 1)) lv25.1 (.int .i64 1)) fun t119 =>
      next25 (t119,()) w36)
      (J2 (()) w36))
     (J2 (()) (tick w27))))
    (J1 (()) w25))
    ((.int .i64 0),()) w17)))))
theorem lF.up{r0 m1:Value}(h:lF.pt r0 m1 w K):upK prog (Z0 ZG #[r0,m1]) w K :=
 upF [] (.node none .leaf (.node none .leaf (.node none .leaf (.node none .leaf (.node none .leaf (.node none .leaf (.node none .leaf (.node (some []) (.node none .leaf (.node none (.node none (.node none .leaf (.node none .leaf (.node none (.node none (.node none .leaf (.node none .leaf (.node (some []) .leaf .leaf))) .leaf) .leaf))) .leaf) .leaf)) .leaf)))))))) [r0,m1] Tryz.func170 h
def ND.pt(r0 m1:Value)(w:World)(K:PtK):Prop :=
 upK prog (yC U1 m1) w fun m3 w1 =>
 upK prog (I7 Y2) w1 fun t4 w2 =>
 TE (X:=Unit) (fun jv1 w3 =>
  M0 prog (O0 U1 m3 1) fun t38 =>
  Y0 prog (X0 Q0 t38) (tick w3) fun t39 =>
  M0 prog (X4 r0) fun t40 =>
  M0 prog (O0 I1 t40 6) fun t41 =>
  M0 prog (Y4 IM t41 t39) fun t42 =>
  M0 prog (O0 U1 m3 1) fun t44 =>
  Y0 prog (X0 Q0 t44) (tick w3) fun t45 =>
  M0 prog (X4 r0) fun t46 =>
  M0 prog (O0 I1 t46 7) fun t47 =>
  M0 prog (Y4 IM t47 t45) fun t48 =>
  M0 prog (O0 U1 m3 7) fun t49 =>
  Y0 prog (X0 EC t49) (tick w3) fun t50 =>
  M0 prog (sUn .not t50) fun t51 =>
  ifB t51
  (M0 prog (X4 t48) fun t54 =>
  Y0 prog (X0 Q0 t54) (tick (tick w3)) fun t55 =>
  M0 prog (Y3 .add Q0 (.tmp 55) (.const (.int .i64 1)) t55 (.int .i64 1)) fun t56 =>
  M0 prog (X4 t42) fun t58 =>
  Y0 prog (X0 Q0 t58) (tick (tick w3)) fun t59 =>
  M0 prog (Y3 .sub Q0 (.tmp 59) (.const (.int .i64 1)) t59 (.int .i64 1)) fun t60 =>
  M0 prog (O0 U1 m3 4) fun t61 =>
  Y0 prog (X0 Q0 t61) (tick (tick w3)) fun t62 =>
  M0 prog (Y3 .add Q0 (.tmp 62) (.const (.int .i64 1)) t62 (.int .i64 1)) fun t63 =>
  M0 prog (J5 .min #[Q0,Q0] Q0 #[false,false] #[t60,t63]) fun t64 =>
  M0 prog (J5 .max #[Q0,Q0] Q0 #[false,false] #[t56,t64]) fun t65 =>
  M0 prog (X4 t42) fun t66 =>
  upK prog (F4 Q0 t66 t65) (tick (tick w3)) fun tu w4 =>
  M0 prog (O0 U1 m3 1) fun t68 =>
  Y0 prog (X0 Q0 t68) w4 fun t69 =>
  upK prog (Z0 uA #[r0,t69]) w4 fun t70 w5 =>
  upK prog (Z0 D_ #[t70]) w5 fun t71 w6 =>
  upK prog (F4 Y2 t4 t71) w6 fun tu_1 w7 =>
  S9 prog (do loadVar Y2 (←asAddr t4)) w7 fun t4_1 =>
  K t4_1 w7)
  (M0 prog (X4 t48) fun t74 =>
  Y0 prog (X0 Q0 t74) (tick (tick w3)) fun t75 =>
  M0 prog (O0 U1 m3 4) fun t76 =>
  Y0 prog (X0 Q0 t76) (tick (tick w3)) fun t77 =>
  M0 prog (J5 .max #[Q0,Q0] Q0 #[false,false] #[t75,t77]) fun t78 =>
  M0 prog (X4 t48) fun t79 =>
  upK prog (F4 Q0 t79 t78) (tick (tick w3)) fun tu_2 w8 =>
  M0 prog (X4 t48) fun t82 =>
  Y0 prog (X0 Q0 t82) w8 fun t83 =>
  M0 prog (Y3 .add Q0 (.tmp 83) (.const (.int .i64 1)) t83 (.int .i64 1)) fun t84 =>
  M0 prog (X4 t42) fun t85 =>
  upK prog (F4 Q0 t85 t84) w8 fun tu_3 w9 =>
  upK prog (Z0 mG #[r0]) w9 fun t87 w10 =>
  M0 prog (X4 t42) fun t89 =>
  Y0 prog (X0 Q0 t89) (tick w10) fun t90 =>
  M0 prog (X4 r0) fun t92 =>
  M0 prog (O0 I1 t92 2) fun t93 =>
  Y0 prog (X0 O3 t93) (tick w10) fun t94 =>
  Y0 prog (J5 .len #[O3] Q0 #[false] #[t94]) (tick w10) fun t95 =>
  M0 prog (Y3 .leq Q0 (.tmp 90) (.tmp 95) t90 t95) fun t96 =>
  ifB t96
  (M0 prog (O0 U1 m3 1) fun t98 =>
   Y0 prog (X0 Q0 t98) (tick w10) fun t99 =>
   upK prog (Z0 uA #[r0,t99]) (tick w10) fun t100 w11 =>
   upK prog (Z0 D_ #[t100]) w11 fun t101 w12 =>
   upK prog (F4 Y2 t4 t101) w12 fun tu_4 w13 =>
   S9 prog (do loadVar Y2 (←asAddr t4)) w13 fun t4_2 =>
   K t4_2 w13)
  (M0 prog (G6 Y2 #[]) fun t102 =>
   upK prog (F4 Y2 t4 t102) (tick w10) fun tu_5 w14 =>
   S9 prog (do loadVar Y2 (←asAddr t4)) w14 fun t4_3 =>
   K t4_3 w14)))
 (fun J1 =>
  M0 prog (X4 r0) fun t8 =>
  M0 prog (O0 I1 t8 3) fun t9 =>
  Y0 prog (X0 Q0 t9) (tick w2) fun t10 =>
  M0 prog (Y3 .neq Q0 (.tmp 10) (.const (.int .i64 2)) t10 (.int .i64 2)) fun t11 =>
  ifB t11
  (M0 prog (G6 Y2 #[]) fun t36 =>
  upK prog (F4 Y2 t4 t36) (tick w2) fun tu_6 w15 =>
  S9 prog (do loadVar Y2 (←asAddr t4)) w15 fun t4_4 =>
  K t4_4 w15)
  (M0 prog (O0 U1 m3 3) fun t13 =>
  Y0 prog (X0 Q0 t13) (tick w2) fun t14 =>
  M0 prog (X4 r0) fun t16 =>
  M0 prog (O0 I1 t16 1) fun t17 =>
  M0 prog (O0 H5 t17 0) fun t18 =>
  Y0 prog (X0 Q0 t18) (tick w2) fun t19 =>
  M0 prog (Y3 .neq Q0 (.tmp 14) (.tmp 19) t14 t19) fun t20 =>
  ifB t20
  (M0 prog (G6 Y2 #[]) fun t36_1 =>
   upK prog (F4 Y2 t4 t36_1) (tick w2) fun tu_7 w16 =>
   S9 prog (do loadVar Y2 (←asAddr t4)) w16 fun t4_5 =>
   K t4_5 w16)
  (M0 prog (O0 U1 m3 7) fun t23 =>
   Y0 prog (X0 EC t23) (tick w2) fun t24 =>
   ifB t24
   (M0 prog (O0 U1 m3 4) fun t26 =>
   Y0 prog (X0 Q0 t26) (tick w2) fun t27 =>
   M0 prog (X4 r0) fun t29 =>
   M0 prog (O0 I1 t29 2) fun t30 =>
   Y0 prog (X0 O3 t30) (tick w2) fun t31 =>
   Y0 prog (J5 .len #[O3] Q0 #[false] #[t31]) (tick w2) fun t32 =>
   M0 prog (Y3 .gtr Q0 (.tmp 27) (.tmp 32) t27 t32) fun t33 =>
   ifB t33
   (M0 prog (G6 Y2 #[]) fun t36_2 =>
    upK prog (F4 Y2 t4 t36_2) (tick w2) fun tu_8 w17 =>
    S9 prog (do loadVar Y2 (←asAddr t4)) w17 fun t4_6 =>
    K t4_6 w17)
   (J1 (()) (tick w2)))
   (J1 (()) (tick w2)))))
theorem ND.up{r0 m1:Value}(h:ND.pt r0 m1 w K):upK prog (Z0 EF #[r0,m1]) w K :=
 upF [] (.node none .leaf (.node (some []) .leaf .leaf)) [r0,m1] Tryz.func171 h
def Ca0.pt(s0 at1 t2:Value)(w:World)(K:PtK):Prop :=
 M0 prog (Y3 .eql U2 (.tmp 8) (.const (.string ⟨#[]⟩)) t2 (.string ⟨#[]⟩)) fun t9 =>
 ifB t9
 (K s0 w)
 (Y0 prog (J5 .len #[U2] Q0 #[false] #[s0]) w fun t12 =>
  Y0 prog (J5 .len #[U2] Q0 #[false] #[t2]) w fun t15 =>
  M0 prog (Y3 .add Q0 (.tmp 13) (.tmp 15) at1 t15) fun t16 =>
  M0 prog (J5 .max #[Q0,Q0] Q0 #[false,false] #[t12,t16]) fun t17 =>
  upK prog (IQ OA t17 t17) w fun t18 w1 =>
  upK prog (J5 .copy #[OA,U2] Q0 #[false,false] #[t18,s0]) w1 fun t21 w2 =>
  M0 prog (d9 OA t18 (some at1) none none) fun t24 =>
  upK prog (J5 .copy #[OA,U2] Q0 #[false,false] #[t24,t2]) w2 fun t26 w3 =>
  upK prog (iU OA U2 t18) w3 fun t28 w4 =>
  K t28 w4)
theorem Ca0.up{s0 at1 t2:Value}(h:Ca0.pt s0 at1 t2 w K):upK prog (Z0 xV #[s0,at1,t2]) w K :=
 upF [6] .leaf [s0,at1,t2] Tryz.func172 h
def oF.pt(s0:Value)(w:World)(K:PtK):Prop :=
 M0 prog (Y3 .eql J6 (.tmp 3) (.const (.slice none 0 0)) s0 (.slice none 0 0)) fun t4 =>
 ifB t4
 (K (.slice none 0 0) w)
 (upK prog (P6 J6 0 #[]) w fun t5 w1 =>
  upK prog (J5 .append #[J6,J6] J6 #[false,false] #[t5,s0]) w1 fun t7 w2 =>
  K t7 w2)
theorem oF.up{s0:Value}(h:oF.pt s0 w K):upK prog (Z0 VB #[s0]) w K :=
 upF [2] .leaf [s0] Tryz.func173 h
def xY.pt(r0:Value)(w:World)(K:PtK):Prop :=
 upK prog (Z0 nA #[r0,(.func (.func 217) #[] #[])]) w fun t4 w1 =>
 M0 prog (sUn .not t4) fun t5 =>
 K t5 w1
theorem xY.up{r0:Value}(h:xY.pt r0 w K):upK prog (Z0 Fe0 #[r0]) w K :=
 upF [2] .leaf [r0] Tryz.func174 h
theorem strings_IndexByte.up{p0 p1:Value}{w:World}{K:PtK}(h:Calls prog SE #[p0,p1] w (EP K)):upK prog (Z0 SE #[p0,p1]) w K :=
 VH (fn:=Tryz.f175) Tryz.func175 (by kernel_rfl) (by kernel_rfl) h
theorem strconv_Atoi.up{p0:Value}{w:World}{K:PtK}(h:Calls prog QC #[p0] w (EP K)):upK prog (Z0 QC #[p0]) w K :=
 VH (fn:=Tryz.f176) Tryz.func176 (by kernel_rfl) (by kernel_rfl) h
theorem strings_CutPrefix.up{p0 p1:Value}{w:World}{K:PtK}(h:Calls prog QE #[p0,p1] w (EP K)):upK prog (Z0 QE #[p0,p1]) w K :=
 VH (fn:=Tryz.f177) Tryz.func177 (by kernel_rfl) (by kernel_rfl) h
def pQ.pt(l0 one1:Value)(w:World)(K:PtK):Prop :=
 upK prog (I7 M5) w fun b5 w1 =>
 Y0 prog (J5 .len #[J6] Q0 #[false] #[l0]) w1 fun t9 =>
 upK prog (Z0 XD #[t9]) w1 fun t10 w2 =>
 M0 prog (Y3 .add U2 (.tmp 10) (.const (.string ⟨#[91]⟩)) t10 (.string ⟨#[91]⟩)) fun t11 =>
 upK prog (Z0 u7 #[b5,t11]) w2 fun t12 w3 =>
 Y0 prog (J5 .len #[J6] Q0 #[false] #[l0]) w3 fun t14 =>
 LOOP (X:=Value×Unit) (fun lv4 w4 next4 =>
  M0 prog (Y3 .lss Q0 (.tmp 15) (.tmp 14) lv4.1 t14) fun t16 =>
  ifB t16
  (M0 prog (Y4 J6 l0 lv4.1) fun t17 =>
  Y0 prog (X0 Q0 t17) w4 fun t18 =>
  upK prog (aA one1 #[t18]) w4 fun t21 w5 =>
  upK prog (Z0 u7 #[b5,t21]) w5 fun t22 w6 =>
  M0 prog (Y3 .add Q0 (.tmp 15) (.const (.int .i64 1)) lv4.1 (.int .i64 1)) fun t23 =>
  next4 (t23,()) w6)
  (upK prog (Z0 H9 #[b5]) w4 fun t24 w7 =>
  M0 prog (Y3 .add U2 (.tmp 24) (.const (.string ⟨#[93]⟩)) t24 (.string ⟨#[93]⟩)) fun t25 =>
  K t25 w7))
 ((.int .i64 0),()) w3
theorem pQ.up{l0 one1:Value}(h:pQ.pt l0 one1 w K):upK prog (Z0 TQ #[l0,one1]) w K :=
 upF [4] .leaf [l0,one1] Tryz.func179 h
def CE.pt(r0 to1:Value)(w:World)(K:PtK):Prop :=
 upK prog (I7 U1) w fun t4 w1 =>
 upK prog (Z0 xA #[r0,(.int .i64 2),to1]) w1 fun t8 w2 =>
 upK prog (I7 U1) w2 fun m5 w3 =>
 upK prog (F4 U1 m5 t8) w3 fun tu w4 =>
 M0 prog (X4 r0) fun t11 =>
 M0 prog (O0 I1 t11 6) fun t12 =>
 M0 prog (Y4 IM t12 to1) fun t13 =>
 Y0 prog (X0 Q0 t13) w4 fun t14 =>
 M0 prog (Y3 .sub Q0 (.tmp 14) (.const (.int .i64 1)) t14 (.int .i64 1)) fun t15 =>
 M0 prog (O0 U1 m5 4) fun t16 =>
 upK prog (F4 Q0 t16 t15) w4 fun tu_1 w5 =>
 M0 prog (O0 U1 m5 4) fun t18 =>
 Y0 prog (X0 Q0 t18) (tick w5) fun t19 =>
 M0 prog (X4 r0) fun t22 =>
 M0 prog (O0 I1 t22 4) fun t23 =>
 Y0 prog (X0 Q0 t23) (tick w5) fun t24 =>
 upK prog (Z0 F_ #[r0,t19]) (tick w5) fun t20 w6 =>
 Is prog (X0 Q0 t23) t24 w6∧M0 prog (O0 U1 m5 5) fun t25 =>
 upK prog (F4 Q0 t25 t20) w6 fun tu_2 w7 =>
 Is prog (X0 Q0 t23) t24 w7∧M0 prog (O0 U1 m5 6) fun t26 =>
 upK prog (F4 Q0 t26 t24) w7 fun tu_3 w8 =>
 M0 prog (X4 r0) fun t28 =>
 M0 prog (O0 I1 t28 2) fun t29 =>
 Y0 prog (X0 O3 t29) (tick w8) fun t30 =>
 M0 prog (O0 U1 m5 4) fun t31 =>
 Y0 prog (X0 Q0 t31) (tick w8) fun t32 =>
 M0 prog (X4 r0) fun t34 =>
 M0 prog (O0 I1 t34 2) fun t35 =>
 Y0 prog (X0 O3 t35) (tick w8) fun t36 =>
 Y0 prog (J5 .len #[O3] Q0 #[false] #[t36]) (tick w8) fun t37 =>
 M0 prog (O0 U1 m5 4) fun t38 =>
 Y0 prog (X0 Q0 t38) (tick w8) fun t39 =>
 M0 prog (Y3 .add Q0 (.tmp 39) (.const (.int .i64 8)) t39 (.int .i64 8)) fun t40 =>
 M0 prog (J5 .min #[Q0,Q0] Q0 #[false,false] #[t37,t40]) fun t41 =>
 M0 prog (d9 O3 t30 (some t32) (some t41) none) fun t42 =>
 upK prog (Z0 N8 #[t42]) (tick w8) fun t43 w9 =>
 M0 prog (O0 U1 m5 8) fun t44 =>
 upK prog (F4 O3 t44 t43) w9 fun tu_4 w10 =>
 Y0 prog (X0 U1 m5) w10 fun t45 =>
 upK prog (F4 U1 t4 t45) w10 fun tu_5 w11 =>
 S9 prog (do loadVar U1 (←asAddr t4)) w11 fun t4_1 =>
 K t4_1 w11
theorem CE.up{r0 to1:Value}(h:CE.pt r0 to1 w K):upK prog (Z0 uA #[r0,to1]) w K :=
 upF [] .leaf [r0,to1] Tryz.func187 h
def RP.pt(c0 s1:Value)(w:World)(K:PtK):Prop :=
 Y0 prog (J5 .len #[U2] Q0 #[false] #[s1]) w fun t12 =>
 M0 prog (Y3 .gtr Q0 (.tmp 12) (.const (.int .i64 65536)) t12 (.int .i64 65536)) fun t13 =>
 ifB t13
 (K (.int .i64 6) w)
 (TE (X:=Unit) (fun jv1 w1 =>
  TE (X:=Value×Unit) (fun jv2 w2 =>
   M0 prog (X4 c0) fun t47 =>
   M0 prog (O0 M4 t47 0) fun t48 =>
   Y0 prog (X0 b_ t48) (tick w2) fun t49 =>
   M0 prog (X4 c0) fun t51 =>
   M0 prog (O0 M4 t51 1) fun t52 =>
   Y0 prog (X0 Q0 t52) (tick w2) fun t53 =>
   M0 prog (Y4 IM (.pointer (some ⟨0,0,none⟩)) jv2.1) fun t55 =>
   Y0 prog (X0 Q0 t55) (tick w2) fun t56 =>
   upK prog (Z0 vG #[t49,t53,t56,s1]) (tick w2) fun t58 w3 =>
   M0 prog (Y3 .neq Z6 (.tmp 59) (.const (.int .i64 0)) t58 (.int .i64 0)) fun t60 =>
   ifB t60
   (K t58 w3)
   (M0 prog (X4 c0) fun t63 =>
   M0 prog (O0 M4 t63 0) fun t64 =>
   Y0 prog (X0 b_ t64) (tick w3) fun t65 =>
   M0 prog (X4 c0) fun t67 =>
   M0 prog (O0 M4 t67 1) fun t68 =>
   Y0 prog (X0 Q0 t68) (tick w3) fun t69 =>
   upK prog (Z0 oC #[t65,t69]) (tick w3) fun t70 w4 =>
   M0 prog (Y3 .neq Z6 (.tmp 71) (.const (.int .i64 0)) t70 (.int .i64 0)) fun t72 =>
   ifB t72
   (K t70 w4)
   (M0 prog (X4 c0) fun t75 =>
    M0 prog (O0 M4 t75 0) fun t76 =>
    Y0 prog (X0 b_ t76) (tick w4) fun t77 =>
    M0 prog (X4 c0) fun t79 =>
    M0 prog (O0 M4 t79 1) fun t80 =>
    Y0 prog (X0 Q0 t80) (tick w4) fun t81 =>
    upK prog (Z0 MP #[jv2.1,s1]) (tick w4) fun t84 w5 =>
    Is prog (X0 Q0 t80) t81 w5∧Is prog (X0 b_ t76) t77 w5∧upK prog (Z0 vG #[t77,t81,(.int .i64 0),t84]) w5 fun t85 w6 =>
    M0 prog (Y3 .neq Z6 (.tmp 86) (.const (.int .i64 0)) t85 (.int .i64 0)) fun t87 =>
    ifB t87
    (K t85 w6)
    (M0 prog (X4 c0) fun t94 =>
    M0 prog (O0 M4 t94 2) fun t95 =>
    upK prog (F4 Q0 t95 jv2.1) w6 fun tu w7 =>
    M0 prog (X4 c0) fun t96 =>
    M0 prog (O0 M4 t96 3) fun t97 =>
    upK prog (F4 U2 t97 s1) w7 fun tu_1 w8 =>
    M0 prog (X4 c0) fun t98 =>
    M0 prog (O0 M4 t98 4) fun t99 =>
    upK prog (F4 EC t99 (.bool false)) w8 fun tu_2 w9 =>
    M0 prog (X4 c0) fun t101 =>
    M0 prog (O0 M4 t101 0) fun t102 =>
    Y0 prog (X0 b_ t102) (tick w9) fun t103 =>
    M0 prog (X4 c0) fun t105 =>
    M0 prog (O0 M4 t105 1) fun t106 =>
    Y0 prog (X0 Q0 t106) (tick w9) fun t107 =>
    upK prog (Z0 oC #[t103,t107]) (tick w9) fun t108 w10 =>
    M0 prog (Y3 .eql Z6 (.tmp 110) (.const (.int .i64 0)) t108 (.int .i64 0)) fun t111 =>
    M0 prog (X4 c0) fun t112 =>
    M0 prog (O0 M4 t112 4) fun t113 =>
    upK prog (F4 EC t113 t111) w10 fun tu_3 w11 =>
    K t108 w11))))
  (fun J2 =>
   M0 prog (X4 c0) fun t42 =>
   M0 prog (O0 M4 t42 2) fun t43 =>
   Y0 prog (X0 Q0 t43) w1 fun t44 =>
   M0 prog (Y3 .eql Q0 (.tmp 44) (.const (.int .i64 1)) t44 (.int .i64 1)) fun t45 =>
   ifB t45
   (J2 ((.int .i64 2),()) w1)
   (J2 ((.int .i64 1),()) w1)))
  (fun J1 =>
  M0 prog (X4 c0) fun t15 =>
  M0 prog (O0 M4 t15 4) fun t16 =>
  Y0 prog (X0 EC t16) w fun t17 =>
  M0 prog (sUn .not t17) fun t18 =>
  ifB t18
  (M0 prog (X4 c0) fun t21 =>
   M0 prog (O0 M4 t21 2) fun t22 =>
   Y0 prog (X0 Q0 t22) w fun t23 =>
   M0 prog (Y3 .gtr Q0 (.tmp 23) (.const (.int .i64 0)) t23 (.int .i64 0)) fun t24 =>
   ifB t24
   (M0 prog (X4 c0) fun t27 =>
   M0 prog (O0 M4 t27 0) fun t28 =>
   Y0 prog (X0 b_ t28) (tick w) fun t29 =>
   M0 prog (X4 c0) fun t31 =>
   M0 prog (O0 M4 t31 1) fun t32 =>
   Y0 prog (X0 Q0 t32) (tick w) fun t33 =>
   upK prog (Z0 oC #[t29,t33]) (tick w) fun t34 w12 =>
   M0 prog (Y3 .neq Z6 (.tmp 35) (.const (.int .i64 0)) t34 (.int .i64 0)) fun t36 =>
   ifB t36
   (K t34 w12)
   (M0 prog (X4 c0) fun t39 =>
    M0 prog (O0 M4 t39 4) fun t40 =>
    upK prog (F4 EC t40 (.bool true)) w12 fun tu_4 w13 =>
    J1 (()) w13))
   (J1 (()) w))
  (J1 (()) w)))
theorem RP.up{c0 s1:Value}(h:RP.pt c0 s1 w K):upK prog (Z0 yM #[c0,s1]) w K :=
 upF [4] (.node none .leaf (.node none .leaf (.node (some []) .leaf (.node none .leaf (.node (some [6]) .leaf .leaf))))) [c0,s1] Tryz.func188 h
def CL.pt(x0:Value)(w:World)(K:PtK):Prop :=
 upK prog (yC U3 x0) w fun x1 w1 =>
 M0 prog (O0 U3 x1 0) fun t3 =>
 Y0 prog (X0 Q0 t3) (tick w1) fun t4 =>
 M0 prog (O0 U3 x1 1) fun t6 =>
 Y0 prog (X0 U2 t6) (tick w1) fun t7 =>
 upK prog (Z0 A8 #[t4]) (tick w1) fun t5 w2 =>
 Is prog (X0 U2 t6) t7 w2∧upK prog (Z0 pF #[t7]) w2 fun t8 w3 =>
 M0 prog (Y3 .add U2 (.tmp 5) (.tmp 8) t5 t8) fun t9 =>
 K t9 w3
theorem CL.up{x0:Value}(h:CL.pt x0 w K):upK prog (Z0 TI #[x0]) w K :=
 upF [2] .leaf [x0] Tryz.func189 h
def IG.pt(t0 t1:Value)(w:World)(K:PtK):Prop :=
 Y0 prog (X0 P5 t0) (tick w) fun t3 =>
 M0 prog (X4 t3) fun t4 =>
 M0 prog (O0 I6 t4 1) fun t5 =>
 Y0 prog (X0 F7 t5) (tick w) fun t6 =>
 M0 prog (O0 Y2 t1 2) fun t7 =>
 Y0 prog (X0 Q0 t7) (tick w) fun t8 =>
 M0 prog (Y3 .sub Q0 (.tmp 8) (.const (.int .i64 1)) t8 (.int .i64 1)) fun t9 =>
 Y0 prog (X0 P5 t0) (tick w) fun t10 =>
 M0 prog (X4 t10) fun t11 =>
 M0 prog (O0 I6 t11 1) fun t12 =>
 Y0 prog (X0 F7 t12) (tick w) fun t13 =>
 upK prog (Z0 NJ #[t13]) (tick w) fun t14 w1 =>
 Is prog (X0 Q0 t7) t8 w1∧Is prog (X0 F7 t5) t6 w1∧Is prog (X0 P5 t0) t3 w1∧M0 prog (J5 .min #[Q0,Q0] Q0 #[false,false] #[t9,t14]) fun t15 =>
 upK prog (Z0 MJ #[t6,t15]) w1 fun t16 w2 =>
 K t16 w2
theorem IG.up{t0 t1:Value}(h:IG.pt t0 t1 w K):upK prog (Z0 yB #[t0,t1]) w K :=
 upF [2] .leaf [t0,t1] Tryz.func190 h
def PH.pt(j0 n1:Value)(w:World)(K:PtK):Prop :=
 M0 prog (X4 j0) fun t9 =>
 M0 prog (O0 R4 t9 5) fun t10 =>
 Y0 prog (X0 EC t10) w fun t11 =>
 ifB t11
 (K (.int .i64 7) w)
 (M0 prog (Y3 .lss Q0 (.tmp 13) (.const (.int .i64 0)) n1 (.int .i64 0)) fun t14 =>
  ifB t14
  (K (.int .i64 1) w)
  (M0 prog (X4 j0) fun t18 =>
  M0 prog (O0 R4 t18 3) fun t19 =>
  Y0 prog (X0 K4 t19) w fun t20 =>
  Y0 prog (J5 .len #[K4] Q0 #[false] #[t20]) w fun t21 =>
  M0 prog (Y3 .gtr Q0 (.tmp 16) (.tmp 21) n1 t21) fun t22 =>
  ifB t22
  (K (.int .i64 1) w)
  (M0 prog (X4 j0) fun t27 =>
   M0 prog (O0 R4 t27 3) fun t28 =>
   Y0 prog (X0 K4 t28) w fun t29 =>
   Y0 prog (J5 .len #[K4] Q0 #[false] #[t29]) w fun t30 =>
   M0 prog (Y3 .eql Q0 (.tmp 25) (.tmp 30) n1 t30) fun t31 =>
   ifB t31
   (K (.int .i64 0) w)
   (M0 prog (X4 j0) fun t33 =>
   M0 prog (O0 R4 t33 3) fun t34 =>
   Y0 prog (X0 K4 t34) w fun t35 =>
   M0 prog (d9 K4 t35 none (some n1) none) fun t37 =>
   upK prog (Z0 DK #[t37]) w fun t38 w1 =>
   Y0 prog (J5 .len #[U2] Q0 #[false] #[t38]) w1 fun t39 =>
   upK prog (Z0 aF #[j0,t39,n1]) w1 fun t43 w2 =>
   M0 prog (Y3 .neq Z6 (.tmp 44) (.const (.int .i64 0)) t43 (.int .i64 0)) fun t45 =>
   ifB t45
   (K t43 w2)
   (M0 prog (X4 j0) fun t50 =>
    M0 prog (O0 R4 t50 3) fun t51 =>
    Y0 prog (X0 K4 t51) w2 fun t52 =>
    M0 prog (d9 K4 t52 none (some n1) (some n1)) fun t55 =>
    M0 prog (X4 j0) fun t57 =>
    M0 prog (O0 R4 t57 3) fun t58 =>
    upK prog (F4 K4 t58 t55) w2 fun tu w3 =>
    M0 prog (X4 j0) fun t59 =>
    M0 prog (O0 R4 t59 4) fun t60 =>
    upK prog (F4 Q0 t60 t39) w3 fun tu_1 w4 =>
    K (.int .i64 0) w4)))))
theorem PH.up{j0 n1:Value}(h:PH.pt j0 n1 w K):upK prog (Z0 MJ #[j0,n1]) w K :=
 upF [4] .leaf [j0,n1] Tryz.func191 h
def QH.pt(j0:Value)(w:World)(K:PtK):Prop :=
 M0 prog (X4 j0) fun t4 =>
 M0 prog (O0 R4 t4 3) fun t5 =>
 Y0 prog (X0 K4 t5) w fun t6 =>
 Y0 prog (J5 .len #[K4] Q0 #[false] #[t6]) w fun t7 =>
 K t7 w
theorem QH.up{j0:Value}(h:QH.pt j0 w K):upK prog (Z0 NJ #[j0]) w K :=
 upF [2] .leaf [j0] Tryz.func192 h
def JG.pt(t0 t1:Value)(w:World)(K:PtK):Prop :=
 Y0 prog (X0 P5 t0) (tick w) fun t3 =>
 M0 prog (X4 t3) fun t4 =>
 M0 prog (O0 I6 t4 1) fun t5 =>
 Y0 prog (X0 F7 t5) (tick w) fun t6 =>
 Y0 prog (X0 K4 t1) (tick w) fun t7 =>
 upK prog (Z0 YG #[t6,t7]) (tick w) fun t8 w1 =>
 K t8 w1
theorem JG.up{t0 t1:Value}(h:JG.pt t0 t1 w K):upK prog (Z0 zB #[t0,t1]) w K :=
 upF [2] .leaf [t0,t1] Tryz.func193 h
def gF.pt(j0 l1:Value)(w:World)(K:PtK):Prop :=
 upK prog (Z0 DK #[l1]) w fun t9 w1 =>
 M0 prog (X4 j0) fun t12 =>
 M0 prog (O0 R4 t12 5) fun t13 =>
 Y0 prog (X0 EC t13) w1 fun t14 =>
 ifB t14
 (K (.int .i64 7) w1)
 (Y0 prog (J5 .len #[K4] Q0 #[false] #[l1]) w1 fun t17 =>
  M0 prog (Y3 .eql Q0 (.tmp 17) (.const (.int .i64 0)) t17 (.int .i64 0)) fun t18 =>
  ifB t18
  (K (.int .i64 0) w1)
  (M0 prog (X4 j0) fun t21 =>
  M0 prog (O0 R4 t21 4) fun t22 =>
  Y0 prog (X0 Q0 t22) w1 fun t23 =>
  Y0 prog (J5 .len #[U2] Q0 #[false] #[t9]) w1 fun t25 =>
  M0 prog (Y3 .add Q0 (.tmp 23) (.tmp 25) t23 t25) fun t26 =>
  M0 prog (Y3 .gtr Q0 (.tmp 26) (.const (.int .i64 1048576)) t26 (.int .i64 1048576)) fun t27 =>
  ifB t27
  (K (.int .i64 6) w1)
  (M0 prog (X4 j0) fun t29 =>
   M0 prog (O0 R4 t29 0) fun t30 =>
   Y0 prog (X0 b_ t30) (tick w1) fun t31 =>
   M0 prog (X4 j0) fun t33 =>
   M0 prog (O0 R4 t33 1) fun t34 =>
   Y0 prog (X0 Q0 t34) (tick w1) fun t35 =>
   M0 prog (X4 j0) fun t37 =>
   M0 prog (O0 R4 t37 4) fun t38 =>
   Y0 prog (X0 Q0 t38) (tick w1) fun t39 =>
   upK prog (Z0 vG #[t31,t35,t39,t9]) (tick w1) fun t41 w2 =>
   TE (X:=Value×Unit) (fun jv1 w3 =>
   M0 prog (Y3 .neq Z6 (.tmp 53) (.const (.int .i64 0)) jv1.1 (.int .i64 0)) fun t54 =>
   ifB t54
   (M0 prog (X4 j0) fun t56 =>
    M0 prog (O0 R4 t56 5) fun t57 =>
    upK prog (F4 EC t57 (.bool true)) w3 fun tu w4 =>
    K jv1.1 w4)
   (M0 prog (X4 j0) fun t61 =>
    M0 prog (O0 R4 t61 4) fun t62 =>
    Y0 prog (X0 Q0 t62) (tick w3) fun t63 =>
    Y0 prog (J5 .len #[U2] Q0 #[false] #[t9]) (tick w3) fun t65 =>
    M0 prog (Y3 .add Q0 (.tmp 63) (.tmp 65) t63 t65) fun t66 =>
    M0 prog (X4 j0) fun t68 =>
    M0 prog (O0 R4 t68 3) fun t69 =>
    Y0 prog (X0 K4 t69) (tick w3) fun t70 =>
    Y0 prog (J5 .len #[K4] Q0 #[false] #[t70]) (tick w3) fun t71 =>
    Y0 prog (J5 .len #[K4] Q0 #[false] #[l1]) (tick w3) fun t73 =>
    M0 prog (Y3 .add Q0 (.tmp 71) (.tmp 73) t71 t73) fun t74 =>
    upK prog (Z0 aF #[j0,t66,t74]) (tick w3) fun t75 w5 =>
    M0 prog (Y3 .neq Z6 (.tmp 76) (.const (.int .i64 0)) t75 (.int .i64 0)) fun t77 =>
    ifB t77
    (K t75 w5)
    (M0 prog (X4 j0) fun t82 =>
    M0 prog (O0 R4 t82 3) fun t83 =>
    Y0 prog (X0 K4 t83) (tick w5) fun t84 =>
    M0 prog (X4 j0) fun t88 =>
    M0 prog (O0 R4 t88 4) fun t89 =>
    Y0 prog (X0 Q0 t89) (tick w5) fun t90 =>
    Y0 prog (J5 .len #[U2] Q0 #[false] #[t9]) (tick w5) fun t92 =>
    M0 prog (Y3 .add Q0 (.tmp 90) (.tmp 92) t90 t92) fun t93 =>
    upK prog (J5 .append #[K4,K4] K4 #[false,false] #[t84,l1]) (tick w5) fun t86 w6 =>
    Is prog (J5 .len #[U2] Q0 #[false] #[t9]) t92 w6∧Is prog (X0 Q0 t89) t90 w6∧M0 prog (X4 j0) fun t94 =>
    M0 prog (O0 R4 t94 3) fun t95 =>
    upK prog (F4 K4 t95 t86) w6 fun tu_1 w7 =>
    Is prog (J5 .len #[U2] Q0 #[false] #[t9]) t92 w7∧M0 prog (X4 j0) fun t96 =>
    M0 prog (O0 R4 t96 4) fun t97 =>
    upK prog (F4 Q0 t97 t93) w7 fun tu_2 w8 =>
    K (.int .i64 0) w8)))
   (fun J1 =>
   M0 prog (Y3 .eql Z6 (.tmp 42) (.const (.int .i64 0)) t41 (.int .i64 0)) fun t43 =>
   ifB t43
   (M0 prog (X4 j0) fun t45 =>
    M0 prog (O0 R4 t45 0) fun t46 =>
    Y0 prog (X0 b_ t46) (tick w2) fun t47 =>
    M0 prog (X4 j0) fun t49 =>
    M0 prog (O0 R4 t49 1) fun t50 =>
    Y0 prog (X0 Q0 t50) (tick w2) fun t51 =>
    upK prog (Z0 oC #[t47,t51]) (tick w2) fun t52 w9 =>
    J1 (t52,()) w9)
   (J1 (t41,()) w2)))))
theorem gF.up{j0 l1:Value}(h:gF.pt j0 l1 w K):upK prog (Z0 YG #[j0,l1]) w K :=
 upF [4] (.node none .leaf (.node none .leaf (.node none .leaf (.node none .leaf (.node (some [6]) .leaf .leaf))))) [j0,l1] Tryz.func194 h
def Ug0.pt(a0:Value)(w:World)(K:PtK):Prop :=
 M0 prog (Y3 .geq Q0 (.tmp 3) (.const (.int .i64 0)) a0 (.int .i64 0)) fun t4 =>
 ifB t4
 (M0 prog (Y3 .lss Q0 (.tmp 6) (.const (.int .i64 16)) a0 (.int .i64 16)) fun t7 =>
  K t7 w)
 (K (.bool false) w)
theorem Ug0.up{a0:Value}(h:Ug0.pt a0 w K):upK prog (Z0 kS #[a0]) w K :=
 upF [2] .leaf [a0] Tryz.func195 h
def kF.pt(r0:Value)(w:World)(K:PtK):Prop :=
 M0 prog (X4 r0) fun t4 =>
 M0 prog (O0 I1 t4 4) fun t5 =>
 Y0 prog (X0 Q0 t5) w fun t6 =>
 K t6 w
theorem kF.up{r0:Value}(h:kF.pt r0 w K):upK prog (Z0 JD #[r0]) w K :=
 upF [2] .leaf [r0] Tryz.func196 h
def SH.pt(r0:Value)(w:World)(K:PtK):Prop :=
 M0 prog (X4 r0) fun t4 =>
 M0 prog (O0 I1 t4 2) fun t5 =>
 Y0 prog (X0 O3 t5) w fun t6 =>
 upK prog (Z0 N8 #[t6]) w fun t7 w1 =>
 K t7 w1
theorem SH.up{r0:Value}(h:SH.pt r0 w K):upK prog (Z0 OJ #[r0]) w K :=
 upF [2] .leaf [r0] Tryz.func197 h
def jQ.pt(s0 e1:Value)(w:World)(K:PtK):Prop :=
 upK prog (yC Y1 e1) w fun e3 w1 =>
 M0 prog (O0 Y1 e3 1) fun t11 =>
 Y0 prog (X0 Q0 t11) w1 fun t12 =>
 M0 prog (O0 Y1 e3 2) fun t13 =>
 Y0 prog (X0 Q0 t13) w1 fun t14 =>
 M0 prog (O0 Y1 e3 3) fun t15 =>
 Y0 prog (X0 Q0 t15) w1 fun t16 =>
 upK prog (P6 J6 3 #[(0,t12),(1,t14),(2,t16)]) w1 fun t17 w2 =>
 Y0 prog (J5 .len #[J6] Q0 #[false] #[t17]) w2 fun t18 =>
 LOOP (X:=Value×Unit) (fun lv3 w3 next3 =>
  M0 prog (Y3 .lss Q0 (.tmp 19) (.tmp 18) lv3.1 t18) fun t20 =>
  ifB t20
  (M0 prog (Y4 J6 t17 lv3.1) fun t21 =>
  Y0 prog (X0 Q0 t21) w3 fun t22 =>
  upK prog (Z0 iM #[t22]) w3 fun t24 w4 =>
  M0 prog (sUn .not t24) fun t25 =>
  ifB t25
  (K (.tuple #[(.int .i64 0),(.int .i64 1)]) w4)
  (M0 prog (Y3 .eql Q0 (.tmp 27) (.const (.int .i64 1099511627776)) t22 (.int .i64 1099511627776)) fun t28 =>
   ifB t28
   (K (.tuple #[(.int .i64 0),(.int .i64 1)]) w4)
   (M0 prog (Y3 .add Q0 (.tmp 19) (.const (.int .i64 1)) lv3.1 (.int .i64 1)) fun t30 =>
   next3 (t30,()) w4)))
  (M0 prog (O0 Y1 e3 1) fun t33 =>
  Y0 prog (X0 Q0 t33) w3 fun t34 =>
  upK prog (Z0 yJ #[s0,t34]) w3 fun t35 w5 =>
  M0 prog (R5 t35 0) fun t36 =>
  M0 prog (R5 t35 1) fun t37 =>
  upK prog (I7 M3) w5 fun p8 w6 =>
  upK prog (F4 M3 p8 t36) w6 fun tu w7 =>
  TE (X:=Unit) (fun jv1 w8 =>
   M0 prog (O0 M3 p8 3) fun t70 =>
   Y0 prog (X0 J6 t70) w8 fun t71 =>
   Y0 prog (J5 .len #[J6] Q0 #[false] #[t71]) w8 fun t72 =>
   M0 prog (O0 M3 p8 2) fun t73 =>
   Y0 prog (X0 Q0 t73) w8 fun t74 =>
   M0 prog (O0 Y1 e3 3) fun t75 =>
   Y0 prog (X0 Q0 t75) w8 fun t76 =>
   M0 prog (Y3 .sub Q0 (.tmp 74) (.tmp 76) t74 t76) fun t77 =>
   M0 prog (Y3 .sub Q0 (.tmp 72) (.tmp 77) t72 t77) fun t78 =>
   M0 prog (Y3 .geq Q0 (.tmp 79) (.const (.int .i64 0)) t78 (.int .i64 0)) fun t80 =>
   ifB t80
   (M0 prog (O0 M3 p8 3) fun t81 =>
   Y0 prog (X0 J6 t81) w8 fun t82 =>
   M0 prog (Y4 J6 t82 t78) fun t84 =>
   Y0 prog (X0 Q0 t84) w8 fun t85 =>
   K (.tuple #[t85,(.int .i64 5)]) w8)
   (K (.tuple #[(.int .i64 (-1)),(.int .i64 5)]) w8))
  (fun J1 =>
   M0 prog (O0 Y1 e3 2) fun t39 =>
   Y0 prog (X0 Q0 t39) w7 fun t40 =>
   M0 prog (O0 M3 p8 1) fun t41 =>
   Y0 prog (X0 Q0 t41) w7 fun t42 =>
   M0 prog (Y3 .lss Q0 (.tmp 40) (.tmp 42) t40 t42) fun t43 =>
   ifB t43
   (K (.tuple #[(.int .i64 0),(.int .i64 18)]) w7)
   (M0 prog (O0 Y1 e3 2) fun t45 =>
   Y0 prog (X0 Q0 t45) w7 fun t46 =>
   M0 prog (O0 M3 p8 1) fun t47 =>
   Y0 prog (X0 Q0 t47) w7 fun t48 =>
   M0 prog (Y3 .gtr Q0 (.tmp 46) (.tmp 48) t46 t48) fun t49 =>
   ifB t49
   (K (.tuple #[(.int .i64 0),(.int .i64 25)]) w7)
   (M0 prog (O0 Y1 e3 3) fun t51 =>
    Y0 prog (X0 Q0 t51) w7 fun t52 =>
    M0 prog (O0 M3 p8 2) fun t53 =>
    Y0 prog (X0 Q0 t53) w7 fun t54 =>
    M0 prog (Y3 .gtr Q0 (.tmp 52) (.tmp 54) t52 t54) fun t55 =>
    ifB t55
    (K (.tuple #[(.int .i64 0),(.int .i64 19)]) w7)
    (M0 prog (sUn .not t37) fun t58 =>
    ifB t58
    (Y0 prog (J5 .len #[I4] Q0 #[false] #[s0]) w7 fun t61 =>
     M0 prog (Y3 .geq Q0 (.tmp 61) (.const (.int .i64 50)) t61 (.int .i64 50)) fun t62 =>
     ifB t62
     (K (.tuple #[(.int .i64 0),(.int .i64 6)]) w7)
     (M0 prog (O0 Y1 e3 3) fun t65 =>
     Y0 prog (X0 Q0 t65) w7 fun t66 =>
     M0 prog (O0 M3 p8 2) fun t67 =>
     Y0 prog (X0 Q0 t67) w7 fun t68 =>
     M0 prog (Y3 .eql Q0 (.tmp 66) (.tmp 68) t66 t68) fun t69 =>
     ifB t69
     (K (.tuple #[(.int .i64 0),(.int .i64 0)]) w7)
     (J1 (()) w7)))
    (M0 prog (O0 Y1 e3 3) fun t65_1 =>
     Y0 prog (X0 Q0 t65_1) w7 fun t66_1 =>
     M0 prog (O0 M3 p8 2) fun t67_1 =>
     Y0 prog (X0 Q0 t67_1) w7 fun t68_1 =>
     M0 prog (Y3 .eql Q0 (.tmp 66) (.tmp 68) t66_1 t68_1) fun t69_1 =>
     ifB t69_1
     (K (.tuple #[(.int .i64 0),(.int .i64 0)]) w7)
     (J1 (()) w7))))))))
 ((.int .i64 0),()) w2
theorem jQ.up{s0 e1:Value}(h:jQ.pt s0 e1 w K):upK prog (Z0 BM #[s0,e1]) w K :=
 upF [4,5] (.node none .leaf (.node none .leaf (.node none .leaf (.node (some []) .leaf .leaf)))) [s0,e1] Tryz.func198 h
def nJ.pt(x0 e1:Value)(w:World)(K:PtK):Prop :=
 upK prog (yC Y1 e1) w fun e3 w1 =>
 M0 prog (X4 x0) fun t8 =>
 M0 prog (O0 X3 t8 1) fun t9 =>
 Y0 prog (X0 O9 t9) w1 fun t10 =>
 M0 prog (iG (.func MC) #[] #[e3]) fun t11 =>
 upK prog (Z0 UA #[t10,t11]) w1 fun t12 w2 =>
 M0 prog (Y3 .lss Q0 (.tmp 13) (.const (.int .i64 0)) t12 (.int .i64 0)) fun t14 =>
 ifB t14
 (K (.int .i64 17) w2)
 (M0 prog (O0 Y1 e3 7) fun t15 =>
  Y0 prog (X0 G5 t15) (tick w2) fun t16 =>
  M0 prog (X4 x0) fun t18 =>
  M0 prog (O0 X3 t18 1) fun t19 =>
  Y0 prog (X0 O9 t19) (tick w2) fun t20 =>
  M0 prog (Y4 O9 t20 t12) fun t22 =>
  M0 prog (O0 Y7 t22 2) fun t23 =>
  Y0 prog (X0 NB t23) (tick w2) fun t24 =>
  upK prog (Z0 x9 #[t16,t24,(.func (.func 241) #[] #[])]) (tick w2) fun t25 w3 =>
  M0 prog (sUn .not t25) fun t27 =>
  ifB t27
  (K (.int .i64 16) w3)
  (M0 prog (O0 Y1 e3 7) fun t29 =>
  Y0 prog (X0 G5 t29) w3 fun t30 =>
  upK prog (Z0 vF #[t30]) w3 fun t31 w4 =>
  M0 prog (sUn .not t31) fun t32 =>
  ifB t32
  (K (.int .i64 16) w4)
  (K (.int .i64 0) w4)))
theorem nJ.up{x0 e1:Value}(h:nJ.pt x0 e1 w K):upK prog (Z0 CK #[x0,e1]) w K :=
 upF [4] .leaf [x0,e1] Tryz.func199 h
def MO.pt(s0:Value)(w:World)(K:PtK):Prop :=
 Y0 prog (J5 .len #[I4] Q0 #[false] #[s0]) w fun t6 =>
 upK prog (IQ I4 t6 t6) w fun t7 w1 =>
 upK prog (J5 .copy #[I4,I4] Q0 #[false,false] #[t7,s0]) w1 fun t10 w2 =>
 Y0 prog (J5 .len #[I4] Q0 #[false] #[t7]) w2 fun t12 =>
 LOOP (X:=Value×Unit) (fun lv3 w3 next3 =>
  M0 prog (Y3 .lss Q0 (.tmp 13) (.tmp 12) lv3.1 t12) fun t14 =>
  ifB t14
  (M0 prog (Y4 I4 t7 lv3.1) fun t20 =>
  M0 prog (O0 M3 t20 3) fun t21 =>
  Y0 prog (X0 J6 t21) w3 fun t22 =>
  upK prog (Z0 VB #[t22]) w3 fun t23 w4 =>
  M0 prog (Y4 I4 t7 lv3.1) fun t24 =>
  M0 prog (O0 M3 t24 3) fun t25 =>
  upK prog (F4 J6 t25 t23) w4 fun tu w5 =>
  M0 prog (Y3 .add Q0 (.tmp 13) (.const (.int .i64 1)) lv3.1 (.int .i64 1)) fun t26 =>
  next3 (t26,()) w5)
  (K t7 w3))
 ((.int .i64 0),()) w2
theorem MO.up{s0:Value}(h:MO.pt s0 w K):upK prog (Z0 wD #[s0]) w K :=
 upF [2] .leaf [s0] Tryz.func200 h
def N9.pt(s0 f1:Value)(w:World)(K:PtK):Prop :=
 Y0 prog (J5 .len #[I4] Q0 #[false] #[s0]) w fun t7 =>
 LOOP (X:=Value×Unit) (fun lv1 w1 next1 =>
  M0 prog (Y3 .lss Q0 (.tmp 8) (.tmp 7) lv1.1 t7) fun t9 =>
  ifB t9
  (M0 prog (Y4 I4 s0 lv1.1) fun t14 =>
  Y0 prog (X0 M3 t14) w1 fun t15 =>
  upK prog (aA f1 #[t15]) w1 fun t16 w2 =>
  ifB t16
  (K lv1.1 w2)
  (M0 prog (Y3 .add Q0 (.tmp 8) (.const (.int .i64 1)) lv1.1 (.int .i64 1)) fun t18 =>
   next1 (t18,()) w2))
  (K (.int .i64 (-1)) w1))
 ((.int .i64 0),()) w
theorem N9.up{s0 f1:Value}(h:N9.pt s0 f1 w K):upK prog (Z0 Q_ #[s0,f1]) w K :=
 upF [4] .leaf [s0,f1] Tryz.func201 h
end
end Go.Proofs.YtngbebnhegcokaaGreatDoor
