/-
  Part 1 of the proof that TopLogs holds, for the parts that follow; made small by program out of longer texts. No condition.
-/
import Derived.Deep.DeepHandedRow
import Derived.Deep.Slices
import Derived.Deep.Strs
import Derived.Ground.GgzProg
import Derived.Ground.Names2Prog
import Derived.Ground.NamesProg
import Derived.JoinedCond
import Derived.KernelRfl
import Derived.Laws.BytesString
import Derived.Laws.Externs
import Derived.Lib.AtoiAll
import Derived.Lib.AtoiAllCases
import Derived.Lib.ItoaNum
import Derived.Lib.LaidTab
import Derived.Lib.RowBridge
import Derived.Maps.RangeRun
import Derived.OpenShut
import Derived.OrdersHeld
import Derived.ProofKit
import Derived.Scope
import Derived.Shelf.Lay
import Derived.Shelf.SlIterI.Nil
import Derived.Shelf.SlMaps.Clone
import Derived.Shelf.Slices.CompactI
import Derived.Shelf.Slices.In.SortNone
import Derived.Shelf.Small.Strs
import Derived.Shelf.Small.Wraps
import Derived.Shelf.Sort.Plain
import Derived.Shelf.Strconv.AtoiAll
import Derived.Shelf.Strconv.Itoa3
import Derived.Shelf.Strings.BuilderK
import Derived.Test.YtngbebnhegcokaaGreatDoorCards
import Derived.Test.YtngbebnhegcokaaGreatDoorProg
import Derived.Test.YtngbebnhegcokaaGreatDoorRows
import Derived.Test.YtngbebnhegcokaaGreatDoorTie
import Derived.WalkKit
import Derived.WideLaws
set_option linter.all false
namespace Go.Proofs.YtngbebnhegcokaaGreatDoor
open Go.Proofs.Tryz (prog)
set_option linter.unusedVariables false
abbrev PtK:=Value→World→Prop
inductive AV where
 | lit (b:Bool)
 | val (v:Value)
 | und
def AV.v:AV→Value
 | .lit b => .bool b
 | .val v=>v
 | .und=>undef
abbrev Env:=List (Nat×AV)
def look:Env→Nat→Option AV
 | [],_=>none
 | (k,x) :: r,t=>match Nat.beq k t with
  | true=>some x
  | false=>look r t
def PK(r:Env)(t:Nat):Bool:=(look r t).isSome
def known(r:Env):Operand→Bool
 | .tmp t=>PK r t
 | _=>true
def XL(r:Env):Operand→AV
 | .tmp t=>match look r t with
  | some x=>x
  | none => .val undef
 | .const (.bool b) => .lit b
 | .const v => .val v
 | .global g => .val (.pointer (some ⟨g,0,none⟩))
 | .func f => .val (.func (.func f) #[] #[])
def ev(r:Env)(x:Operand):Value:=(XL r x).v
def mH(r:Env):Option Nat→AV→Env
 | none,_=>r
 | some d,x=>(d,x) :: r
def okd(n:Nat):Option Nat→Bool
 | none=>true
 | some d=>Nat.blt d n
structure Fits (n:Nat) (r:Env) (a:Act):Prop where
 defers:a.defers=[]
 size:a.tmps.size=n
 at_:∀t x,look r t=some x→a.tmps[t]? = some x.v
theorem yF(k:Nat)(x:AV)(r:Env)(t:Nat):look ((k,x) :: r) t=if k=t then some x else look r t:=by
 simp only[look]
 by_cases h:k=t
 ·subst h;simp
 ·have:Nat.beq k t=false:=by
   cases hb:Nat.beq k t with
   | false=>rfl
   | true=>exact absurd (Nat.eq_of_beq_eq_true hb) h
  simp [this,h]
theorem Fits.put{n:Nat}{r:Env}{a:Act}{d:Option Nat}{x:AV}(h:Fits n r a)(hd:okd n d=true):Fits n (mH r d x) (a.put d x.v):=by
 cases d with
 | none=>exact h
 | some d =>
  have hlt:d<n:=by simpa [okd] using hd
  refine⟨h.defers,by simp [Act.put,h.size],fun t y hy=>?_⟩
  simp only[mH,yF] at hy
  simp only[Act.put]
  by_cases e:d=t
  ·subst e
   simp at hy
   subst hy
   simp [h.size,hlt]
  ·simp [e] at hy
   rw[Array.getElem?_setIfInBounds_ne e]
   exact h.at_ t y hy
theorem Fits.ev{n:Nat}{r:Env}{a:Act}(h:Fits n r a){x:Operand}(hk:known r x=true):a.eval x=ev r x:=by
 cases x with
 | tmp t =>
  simp only[known,PK] at hk
  cases hl:look r t with
  | none=>simp [hl] at hk
  | some y =>
   have:=h.at_ t y hl
   simp only[Act.eval,Go.Proofs.YtngbebnhegcokaaGreatDoor.ev,XL,hl]
   simp [this]
 | const v=>cases v<;>rfl
 | global g=>rfl
 | func f=>rfl
theorem Fits.know{n:Nat}{r:Env}{a:Act}(h:Fits n r a){t:Nat}{v:Value}{b:Bool}(hl:look r t=some (.val v))(hv:v = .bool b) :
  Fits n ((t,.lit b) :: r) a:=by
 refine⟨h.defers,h.size,fun s y hy=>?_⟩
 rw[yF] at hy
 by_cases e:t=s
 ·subst e
  simp at hy
  subst hy
  have:=h.at_ t _ hl
  rw[this,hv];rfl
 ·simp [e] at hy;exact h.at_ s y hy
def EP(K:Value→World→Prop):Ending→World→Prop
 | .returned v,w=>K v w
 | _,_=>False
def ifB(v:Value)(A B:Prop):Prop:=∃b:Bool,v = .bool b∧(match b with | true=>A | false=>B)
def M0(P:Program)(s:Sem Next)(K:Value→Prop):Prop:=∃v,(∀w,s.run P w = .ok (.value v) w)∧K v
def Y0(P:Program)(s:Sem Next)(w:World)(K:Value→Prop):Prop:=∃v,s.run P w = .ok (.value v) w∧K v
def upR(P:Program)(K:Value→World→Prop):Result Next→Prop
 | .ok (.value v) w'=>K v w'
 | .ok .skip w'=>K undef w'
 | .ok (.enter f args) w'=>Calls P f args w' (EP K)
 | _=>False
def upK(P:Program)(s:Sem Next)(w:World)(K:Value→World→Prop):Prop:=upR P K (s.run P w)
def Is(P:Program)(s:Sem Next)(v:Value)(w:World):Prop:=s.run P w = .ok (.value v) w
def tick(w:World):World:={ w with drawn:=w.drawn+1 }
def Hi{α:Sort _}(x:α):α:=(fun _:Unit→Prop=>x) (fun _=>∀P s w K,upK P s w K)
attribute [reducible] Hi
def iter{X:Type}(B:X→World→(X→World→Prop)→Prop):Nat→X→World→Prop
 | 0,_,_=>False
 | k+1,x,w=>B x w (iter B k)
def LOOP{X:Type}(B:X→World→(X→World→Prop)→Prop)(x:X)(w:World):Prop:=∃k,iter B k x w
theorem M6{X:Type}{B:X→World→(X→World→Prop)→Prop}{x:X}{w:World}(I:X→World→Prop)(m:X→World→Nat)(h0:I x w)
  (hB:∀x w,I x w→∀next:X→World→Prop,(∀x' w',I x' w'→m x' w'<m x w→next x' w')→B x w next):LOOP B x w:=by
 have key:∀k x w,I x w→m x w<k→iter B k x w:=by
  intro k
  induction k with
  | zero=>intro x w _ h;omega
  | succ k ih=>intro x w hI hk;exact hB x w hI _ fun x' w' hI' hlt=>ih x' w' hI' (by omega)
 exact⟨m x w+1,key _ x w h0 (by omega)⟩
inductive Kind where
 | pure | read | mover
def kindOf:Op→Kind
 | .load .. | .lookup .. | .waits _ => .read
 | .binOp .. | .unOp .. | .build .. | .nilCheck _ | .fieldAddr .. | .field .. | .indexAddr .. | .index .. | .extract .. | .slice .. | .makeInterface .. | .makeFunc .. | .move _ | .assign _ | .pick .. => .pure
 | .call { callee := .builtin .len,.. } | .call { callee := .builtin .cap,.. } => .read
 | .call { callee := .builtin .min,.. } | .call { callee := .builtin .max,.. } => .pure
 | _ => .mover
def NK:Op→Bool
 | .select ..=>true
 | _=>false
def wF0(P:Program)(n:Nat)(o:Oper)(r:Env)(w:World)(K:Env→World→Prop):Prop :=
 match okd n o.dst with
 | false=>False
 | true =>
  match o.op with
  | .move x=>match known r x with
   | true=>K (mH r o.dst (XL r x)) w
   | false=>False
  | .assign x=>match known r x with
   | true=>K (mH r o.dst (XL r x)) w
   | false=>False
  | .pick c a b=>match known r c&&(known r a&&known r b) with
   | false=>False
   | true=>match XL r c with
    | .lit true=>K (mH r o.dst (XL r a)) w
    | .lit false=>K (mH r o.dst (XL r b)) w
    | .val v=>ifB v (K (mH r o.dst (XL r a)) w) (K (mH r o.dst (XL r b)) w)
    | .und=>False
  | .panic _=>False
  | op=>match NK op with
   | true=>False
   | false=>match op.operands.toList.all (known r) with
    | false=>False
    | true=>match kindOf op with
     | .pure=>M0 P (execOp (ev r) o) fun v=>K (mH r o.dst (.val v)) w
     | .read=>Y0 P (execOp (ev r) o) w fun v=>K (mH r o.dst (.val v)) w
     | .mover=>upK P (execOp (ev r) o) w fun v w'=>K (mH r o.dst (.val v)) w'
def nu0(ops:Array Oper)(r:Env)(o:Oper)(run skip:Env→Prop):Prop :=
 match o.guard with
 | none=>Hi (run r)
 | some (j,want) =>
  match (ops[j]?).bind (·.dst) with
  | none=>False
  | some t=>match look r t with
   | none=>False
   | some (.lit b)=>match b == want with
    | true=>run r
    | false=>skip r
   | some .und=>skip r
   | some (.val v)=>match want with
    | true=>ifB v (run ((t,.lit true) :: r)) (skip ((t,.lit false) :: r))
    | false=>ifB v (skip ((t,.lit true) :: r)) (run ((t,.lit false) :: r))
def wpE(P:Program)(n:Nat)(ops:Array Oper)(K:Env→World→Prop):List Oper→Env→World→Prop
 | [],r,w=>K r w
 | o :: rest,r,w=>nu0 ops r o
   (fun r=>wF0 P n o r w (wpE P n ops K rest))
   (fun r=>match okd n o.dst with
    | true=>wpE P n ops K rest (mH r o.dst .und) w
    | false=>False)
theorem dX{n:Nat}{r:Env}{a:Act}(h:Fits n r a){o:Oper}(hs:NK o.op=false)(hk:o.op.operands.toList.all (known r)=true) :
  execOp a.eval o=execOp (ev r) o :=
 execOp_congr o (fun cs b e=>by rw[e] at hs;cases hs) fun x hx=>h.ev (by
  rw[List.all_eq_true] at hk
  exact hk x (by simpa using hx))
theorem yP{P:Program}{o:Oper}{a:Act}{w:World}{K:Value→World→Prop}{K':Act→World→Prop}{Q:Exit→Act→World→Prop}
  (h:upR P K ((execOp a.eval o).run P w)) (hK:∀v w',K v w'→K' (a.put o.dst v) w'):o.wp P a w K' Q:=by
 unfold Oper.wp
 generalize (execOp a.eval o).run P w=res at *
 cases res with
 | ok x w' =>
  cases x<;>simp only[upR] at h<;>simp only[Oper.upon]
  case value v=>exact hK _ _ h
  case skip=>exact hK _ _ h
  case enter f args =>
   refine h.mono fun e w'' he=>?_
   cases e with
   | returned v=>exact hK _ _ he
   | panicked c=>exact he.elim
   | outgrown=>exact he.elim
 | halt x w'=>simp only[upR] at h
theorem M0.up{P:Program}{s:Sem Next}{K:Value→Prop}(h:M0 P s K)(w:World):upR P (fun v w'=>w'=w∧K v) (s.run P w):=by
 obtain⟨v,h1,h2⟩:=h
 rw[h1 w]
 exact⟨rfl,h2⟩
theorem Y0.up{P:Program}{s:Sem Next}{w:World}{K:Value→Prop}(h:Y0 P s w K):upR P (fun v w'=>w'=w∧K v) (s.run P w):=by
 obtain⟨v,h1,h2⟩:=h
 rw[h1]
 exact⟨rfl,h2⟩
theorem Er0{P:Program}{n:Nat}{o:Oper}{r:Env}{w:World}{K:Env→World→Prop}{a:Act}{K':Act→World→Prop}{Q:Exit→Act→World→Prop}
  (h:wF0 P n o r w K) (hf:Fits n r a) (hK:∀r v w,Fits n r (a.put o.dst v)→K r w→K' (a.put o.dst v) w):o.wp P a w K' Q:=by
 unfold wF0 at h
 cases hd:okd n o.dst with
 | false=>simp [hd] at h
 | true =>
  simp only[hd] at h
  have mv:∀x,known r x=true→(execOp a.eval o)=pure (.value (a.eval x))→K (mH r o.dst (XL r x)) w→o.wp P a w K' Q:=by
   intro x hk he hh
   refine yP (K:=fun v w'=>v=ev r x∧w'=w) ?_ ?_
   ·rw[he,hf.ev hk];exact⟨rfl,rfl⟩
   ·rintro v w' ⟨rfl,rfl⟩;exact hK _ _ _ (hf.put (x:=XL r x) hd) hh
  have gen:NK o.op=false→o.op.operands.toList.all (known r)=true →
    (match kindOf o.op with
     | .pure=>M0 P (execOp (ev r) o) fun v=>K (mH r o.dst (.val v)) w
     | .read=>Y0 P (execOp (ev r) o) w fun v=>K (mH r o.dst (.val v)) w
     | .mover=>upK P (execOp (ev r) o) w fun v w'=>K (mH r o.dst (.val v)) w')→o.wp P a w K' Q:=by
   intro hs hall hh
   have he:=dX hf hs hall
   have fin:∀v w',K (mH r o.dst (.val v)) w'→K' (a.put o.dst v) w':=fun v w' hh=>hK _ _ _ (hf.put (x := .val v) hd) hh
   cases hkd:kindOf o.op<;>rw[hkd] at hh<;>dsimp only at hh
   ·refine yP (K:=fun v w'=>w'=w∧K (mH r o.dst (.val v)) w) ?_ ?_
    ·rw[he];exact hh.up w
    ·rintro v w' ⟨rfl,h2⟩;exact fin _ _ h2
   ·refine yP (K:=fun v w'=>w'=w∧K (mH r o.dst (.val v)) w) ?_ ?_
    ·rw[he];exact hh.up
    ·rintro v w' ⟨rfl,h2⟩;exact fin _ _ h2
   ·refine yP (K:=fun v w'=>K (mH r o.dst (.val v)) w') ?_ fin
    rw[he];exact hh
  obtain⟨dst,op,type,pos,after,guard⟩:=o
  dsimp only at h hd mv gen ⊢
  have gen':NK op=false→(match NK op with
   | true=>False
   | false=>match op.operands.toList.all (known r) with
    | false=>False
    | true=>match kindOf op with
     | .pure=>M0 P (execOp (ev r) ⟨dst,op,type,pos,after,guard⟩) fun v=>K (mH r dst (.val v)) w
     | .read=>Y0 P (execOp (ev r) ⟨dst,op,type,pos,after,guard⟩) w fun v=>K (mH r dst (.val v)) w
     | .mover=>upK P (execOp (ev r) ⟨dst,op,type,pos,after,guard⟩) w fun v w'=>K (mH r dst (.val v)) w')→Oper.wp P ⟨dst,op,type,pos,after,guard⟩ a w K' Q:=by
   intro hs hh
   rw[hs] at hh
   dsimp only at hh
   cases hall:op.operands.toList.all (known r) with
   | false=>simp [hall] at hh
   | true=>rw[hall] at hh;exact gen hs hall hh
  cases op
  case panic x=>exact(h:False).elim
  case move x =>
   dsimp only at h
   cases hk:known r x with
   | false=>simp [hk] at h
   | true=>rw[hk] at h;exact mv x hk rfl h
  case assign x =>
   dsimp only at h
   cases hk:known r x with
   | false=>simp [hk] at h
   | true=>rw[hk] at h;exact mv x hk rfl h
  case pick c x y =>
   dsimp only at h
   cases hk:known r c&&(known r x&&known r y) with
   | false=>simp [hk] at h
   | true =>
    rw[hk] at h
    dsimp only at h
    simp only[Bool.and_eq_true] at hk
    obtain⟨k1,k2,k3⟩:=hk
    have hp:∀b:Bool,ev r c = .bool b→K (mH r dst (if b then XL r x else XL r y)) w→Oper.wp P ⟨dst,.pick c x y,type,pos,after,guard⟩ a w K' Q:=by
     intro b hb hh
     refine yP (K:=fun v w'=>v=(if b then XL r x else XL r y).v∧w'=w) ?_ ?_
     ·have:execOp a.eval (⟨dst,.pick c x y,type,pos,after,guard⟩:Oper)=pure (.value (if b then a.eval x else a.eval y)):=by
       simp only[execOp,hf.ev k1,hb,asBool];rfl
      rw[this,hf.ev k2,hf.ev k3]
      cases b<;>exact⟨rfl,rfl⟩
     ·rintro v w' ⟨rfl,rfl⟩;exact hK _ _ _ (hf.put hd) hh
    cases hc:XL r c with
    | lit b =>
     rw[hc] at h
     cases b
     ·exact hp false (by simp [ev,hc,AV.v]) h
     ·exact hp true (by simp [ev,hc,AV.v]) h
    | val v =>
     rw[hc] at h
     obtain⟨b,rfl,hh⟩:=h
     cases b
     ·exact hp false (by simp [ev,hc,AV.v]) hh
     ·exact hp true (by simp [ev,hc,AV.v]) hh
    | und=>rw[hc] at h;exact h.elim
  case select cs b=>exact h.elim
  all_goals exact gen' rfl h
theorem Zo0{n:Nat}{r:Env}{a:Act}(hf:Fits n r a){ops:Array Oper}{j t:Nat}{b:Bool}(ht:(ops[j]?).bind (·.dst)=some t)(hl:look r t=some (.lit b)) :
  yielded ops a.tmps j=some b:=by
 unfold yielded
 have:=hf.at_ t _ hl
 simp [ht,this,AV.v]
theorem Dm0{n:Nat}{r:Env}{a:Act}(hf:Fits n r a){ops:Array Oper}{o:Oper}{j t:Nat}{want b:Bool}(hg:o.guard=some (j,want))(ht:(ops[j]?).bind (·.dst)=some t)(hl:look r t=some (.lit b)) :
  Region.wanted o (yielded ops a.tmps)=(b == want):=by
 unfold Region.wanted
 simp only[hg,Zo0 hf ht hl]
 cases b<;>cases want<;>rfl
theorem Qj0{n:Nat}{r:Env}{a:Act}(hf:Fits n r a){ops:Array Oper}{o:Oper}{j t:Nat}{want:Bool}(hg:o.guard=some (j,want))(ht:(ops[j]?).bind (·.dst)=some t)(hl:look r t=some .und) :
  Region.wanted o (yielded ops a.tmps)=false:=by
 have:=hf.at_ t _ hl
 have hy:yielded ops a.tmps j=none:=by
  unfold yielded
  simp [ht,this,AV.v,undef]
 unfold Region.wanted
 simp only[hg,hy]
 rfl
theorem In0{n:Nat}{ops:Array Oper}{r:Env}{o:Oper}{run skip:Env→Prop}{a:Act}{C:Prop}(h:nu0 ops r o run skip)(hf:Fits n r a)
  (hrun:∀r,Fits n r a→Region.wanted o (yielded ops a.tmps)=true→run r→C) (hskip:∀r,Fits n r a→Region.wanted o (yielded ops a.tmps)=false→skip r→C):C:=by
 unfold nu0 at h
 cases hg:o.guard with
 | none=>rw[hg] at h;exact hrun r hf (by simp [Region.wanted,hg]) h
 | some gw =>
  obtain⟨j,want⟩:=gw
  rw[hg] at h
  dsimp only at h
  cases ht:(ops[j]?).bind (·.dst) with
  | none=>rw[ht] at h;exact h.elim
  | some t =>
   rw[ht] at h
   dsimp only at h
   have go:∀(r:Env) (b:Bool),Fits n r a→look r t=some (.lit b)→(if b == want then run r else skip r)→C:=by
    intro r b hf hl hh
    have hw:=Dm0 hf hg ht hl
    cases hb:b == want with
    | true=>rw[hb] at hw hh;exact hrun r hf hw hh
    | false=>rw[hb] at hw hh;exact hskip r hf hw (by simpa using hh)
   cases hl:look r t with
   | none=>rw[hl] at h;exact h.elim
   | some x =>
    rw[hl] at h
    cases x with
    | lit b =>
     dsimp only at h
     refine go r b hf hl ?_
     cases hb:b == want<;>rw[hb] at h
     ·simpa using h
     ·simpa using h
    | und=>exact hskip r hf (Qj0 hf hg ht hl) h
    | val v =>
     dsimp only at h
     cases want
     ·obtain⟨b,hv,hh⟩:=h
      have hf':=hf.know hl hv
      refine go ((t,.lit b) :: r) b hf' (by rw[yF];simp) ?_
      cases b<;>simpa using hh
     ·obtain⟨b,hv,hh⟩:=h
      have hf':=hf.know hl hv
      refine go ((t,.lit b) :: r) b hf' (by rw[yF];simp) ?_
      cases b<;>simpa using hh
def lM(t:Nat):List Nat→Bool
 | []=>false
 | x :: l=>match Nat.beq x t with
  | true=>true
  | false=>lM t l
def lH(D:List Nat)(a0 a:Act):Prop:=∀t,lM t D=false→a.tmps[t]? = a0.tmps[t]?
theorem dz0{t:Nat}{D:List Nat}(h:t∈D):lM t D=true:=by
 induction D with
 | nil=>cases h
 | cons x D ih =>
  unfold lM
  cases hb:Nat.beq x t with
  | true=>rfl
  | false =>
   cases h with
   | head=>simp at hb
   | tail _ h=>exact ih h
theorem lH.put{D:List Nat}{a0 a:Act}{d:Option Nat}{v:Value}(h:lH D a0 a)(hd:∀t,d=some t→t∈D):lH D a0 (a.put d v):=by
 cases d with
 | none=>exact h
 | some d =>
  intro t ht
  have hne:d≠t:=by
   rintro rfl
   rw[dz0 (hd d rfl)] at ht
   cases ht
  simp only[Act.put]
  rw[Array.getElem?_setIfInBounds_ne hne]
  exact h t ht
theorem sB0{P:Program}{n:Nat}{ops:Array Oper}{K:Env→World→Prop}{Q:Exit→Act→World→Prop}{D:List Nat}{a0:Act}(hQ:∀r a w,Fits n r a→lH D a0 a→K r w→Q .normal a w)(l:List Oper)
  (hD:∀o∈l,∀t,o.dst=some t→t∈D) :
  ∀(r:Env) (a:Act) (w:World),wpE P n ops K l r w→Fits n r a→lH D a0 a→wpList P ops Q l a w:=by
 induction l with
 | nil=>intro r a w h hf hk;exact hQ r a w hf hk h
 | cons o l ih =>
  intro r a w h hf hkp
  have ih:=ih fun o ho=>hD o (List.mem_cons_of_mem _ ho)
  have hdo:=hD o List.mem_cons_self
  unfold wpE at h
  refine In0 h hf ?_ ?_
  ·intro r hf hw hh
   unfold wpList
   rw[if_pos hw]
   exact .inl (Er0 hh hf fun r v w hf hk=>ih r _ w hk hf (hkp.put hdo))
  ·intro r hf hw hh
   unfold wpList
   rw[if_neg (by simp [hw])]
   cases hd:okd n o.dst with
   | false=>simp [hd] at hh
   | true=>rw[hd] at hh;exact ih _ _ _ hh (hf.put (x := .und) hd) (hkp.put hdo)
def ug0(ops:Array Oper)(i:Nat):List Nat:=match ops[i]? with
 | none=>[]
 | some o=>o.after.toList.filterMap fun e=>match Region.binds .any e with
  | true=>some e.on
  | false=>none
def rj0:List Nat→List Nat→List Nat→(List Nat→List Nat→List Nat)→List Nat
 | [],nw,seen,k=>k nw seen
 | x :: l,nw,seen,k=>match lM x seen with
  | true=>rj0 l nw seen k
  | false=>rj0 l (x :: nw) (x :: seen) k
def reach(ops:Array Oper):Nat→List Nat→List Nat→List Nat
 | 0,_,seen=>seen
 | _+1,[],seen=>seen
 | f+1,x :: fr,seen=>rj0 ((x :: fr).flatMap (ug0 ops)) [] seen (reach ops f)
def dep(ops:Array Oper)(f i j:Nat):Bool:=lM j (reach ops f [i] [])
def FE(ops:Array Oper)(listed:Array Bool):Prop:=∀k o,ops[k]? = some o→listed.getD k false=true→∀e∈o.after,Region.binds .any e=true→listed.getD e.on false=true
theorem aq0{t:Nat}:∀{l:List Nat},lM t l=true→t∈l
 | [],h=>by cases h
 | a :: l,h=>by
  unfold lM at h
  cases hb:Nat.beq a t with
  | true=>rw[Nat.eq_of_beq_eq_true hb];exact List.mem_cons_self
  | false=>rw[hb] at h;exact List.mem_cons_of_mem _ (aq0 h)
theorem zf0{ops:Array Oper}{i y:Nat}(h:y∈ug0 ops i):∃o,ops[i]? = some o∧∃e∈o.after,Region.binds .any e=true∧e.on=y:=by
 unfold ug0 at h
 cases ho:ops[i]? with
 | none=>rw[ho] at h;cases h
 | some o =>
  rw[ho] at h
  dsimp only at h
  obtain⟨e,he,hb⟩:=List.mem_filterMap.1 h
  refine⟨o,rfl,e,by simpa using he,?_⟩
  cases hbb:Region.binds .any e with
  | true=>rw[hbb] at hb;injection hb with hb;exact⟨rfl,hb⟩
  | false=>rw[hbb] at hb;cases hb
theorem NZ{Pr:Nat→Prop}{k:List Nat→List Nat→List Nat}(hk:∀nw seen,(∀x∈nw,Pr x)→(∀x∈seen,Pr x)→∀y∈k nw seen,Pr y):∀(l nw seen:List Nat),(∀x∈l,Pr x)→(∀x∈nw,Pr x)→(∀x∈seen,Pr x)→∀y∈rj0 l nw seen k,Pr y
 | [],nw,seen,_,h2,h3=>hk nw seen h2 h3
 | x :: l,nw,seen,h1,h2,h3=>by
  have hx:=h1 x List.mem_cons_self
  have hl:∀y∈l,Pr y:=fun y hy=>h1 y (List.mem_cons_of_mem _ hy)
  have add:∀{m:List Nat},(∀y∈m,Pr y)→∀y∈x :: m,Pr y:=fun hm y hy=>by
   rcases List.mem_cons.1 hy with rfl | hy
   ·exact hx
   ·exact hm y hy
  unfold rj0
  cases lM x seen with
  | true=>exact NZ hk l nw seen hl h2 h3
  | false=>exact NZ hk l (x :: nw) (x :: seen) hl (add h2) (add h3)
theorem Yb0{ops:Array Oper}{listed:Array Bool}(hc:FE ops listed):∀(f:Nat) (fr seen:List Nat),(∀x∈fr,∀y∈ug0 ops x,listed.getD y false=true)→(∀x∈seen,listed.getD x false=true)→∀y∈reach ops f fr seen,listed.getD y false=true
 | 0,_,seen,_,h2=>h2
 | _+1,[],seen,_,h2=>h2
 | f+1,x :: fr,seen,h1,h2=>by
  unfold reach
  refine NZ (Pr:=fun y=>listed.getD y false=true) (fun nw seen' h3 h4=>Yb0 hc f nw seen' (fun z hz y hy=>?_) h4) _ _ _ (fun y hy=>?_) (fun y hy=>by cases hy) h2
  ·obtain⟨o,ho,e,he,hb,rfl⟩:=zf0 hy
   exact hc z o ho (h3 z hz) e he hb
  ·obtain⟨z,hz,hy⟩:=List.mem_flatMap.1 hy
   exact h1 z hz y hy
theorem Lt0{ops:Array Oper}{listed:Array Bool}(hc:FE ops listed){f:Nat}{i j:Nat}(h:dep ops f i j=true)
  (hi:∀o,ops[i]? = some o→∀e∈o.after,Region.binds .any e=true→listed.getD e.on false=true):listed.getD j false=true:=by
 refine Yb0 hc f [i] [] (fun x hx y hy=>?_) (fun x hx=>by cases hx) j (aq0 h)
 rw[List.mem_singleton.1 hx] at hy
 obtain⟨o,ho,e,he,hb,rfl⟩:=zf0 hy
 exact hi o ho e he hb
theorem FE.set{ops:Array Oper}{listed:Array Bool}{i:Nat}(hc:FE ops listed)(hr:i∈Region.ready .any ops listed):FE ops (listed.setIfInBounds i true):=by
 intro k o ho hk e he hb
 refine getD_set_true ?_
 by_cases hki:i=k
 ·subst hki
  obtain⟨_,o',ho',hall⟩:=mem_ready.1 hr
  rw[ho] at ho'
  cases ho'
  exact hall e he hb
 ·rw[getD_set_ne false hki] at hk
  exact hc k o ho hk e he hb
theorem FE.start(ops:Array Oper)(n:Nat):FE ops (Array.replicate n false):=by
 intro k o ho hk
 exfalso
 simp only[Array.getD] at hk
 split at hk
 ·simp at hk
 ·cases hk
abbrev Held:=List (Nat×(World→Prop))
def PT(ops:Array Oper)(i:Nat)(H:Held)(w:World):Prop:=∀h∈H,dep ops 6 i h.1=true∨h.2 w
def hold(ops:Array Oper)(i:Nat):Held→World→Prop→Prop
 | [],_,R=>Hi R
 | h :: H,w,R=>match dep ops 6 i h.1 with
  | true=>hold ops i H w R
  | false=>h.2 w∧hold ops i H w R
theorem Bz0{ops:Array Oper}{i:Nat}{H:Held}{w:World}{R:Prop}(h:hold ops i H w R):PT ops i H w∧R:=by
 induction H with
 | nil=>exact⟨fun _ h=>(by cases h),h⟩
 | cons x H ih =>
  unfold hold at h
  cases hd:dep ops 6 i x.1 with
  | true =>
   rw[hd] at h
   obtain⟨h1,h2⟩:=ih h
   refine⟨fun y hy=>?_,h2⟩
   cases hy with
   | head=>exact .inl hd
   | tail _ hy=>exact h1 y hy
  | false =>
   rw[hd] at h
   obtain⟨h0,h⟩:=h
   obtain⟨h1,h2⟩:=ih h
   refine⟨fun y hy=>?_,h2⟩
   cases hy with
   | head=>exact .inr h0
   | tail _ hy=>exact h1 y hy
def XO(P:Program)(ops:Array Oper)(Q:Exit→Act→World→Prop)(H:Held):Nat→Array Bool→Act→World→Prop
 | 0,listed,a,w=>Region.ready .any ops listed=[]∧Q .normal a w
 | fuel+1,listed,a,w =>
  (Region.ready .any ops listed=[]→Q .normal a w) ∧
  ∀i∈Region.ready .any ops listed,wpOp P ops Q i (fun a' w'=>(w'=w∨PT ops i H w')∧XO P ops Q H fuel (listed.setIfInBounds i true) a' w') a w
section
variable {P:Program} {ops:Array Oper} {Q:Exit→Act→World→Prop}
theorem bk0{H:Held}:∀(fuel:Nat) (listed:Array Bool) (a:Act) (w:World),XO P ops Q H fuel listed a w→wpAny P .any ops Q fuel listed a w
 | 0,_,_,_,h=>h
 | fuel+1,_,_,_,h=>⟨h.1,fun i hi=>wpOp_mono (fun a' w' h'=>bk0 fuel _ a' w' h'.2) (h.2 i hi)⟩
theorem OU{H H':Held}(hh:∀j w',PT ops j H' w'→PT ops j H w'):∀(fuel:Nat) (listed:Array Bool) (a:Act) (w:World),XO P ops Q H' fuel listed a w→XO P ops Q H fuel listed a w
 | 0,_,_,_,h=>h
 | fuel+1,_,_,_,h=>⟨h.1,fun i hi=>wpOp_mono (fun a' w' h'=>⟨h'.1.imp id (hh i w'),OU hh fuel _ a' w' h'.2⟩) (h.2 i hi)⟩
theorem Wy0{listed:Array Bool}(hc:FE ops listed){j i:Nat}(hj:j∈Region.ready .any ops listed)(hi:i∈Region.ready .any ops listed):dep ops 6 j i=false:=by
 cases hd:dep ops 6 j i with
 | false=>rfl
 | true =>
  obtain⟨_,oj,hoj,hall⟩:=mem_ready.1 hj
  have h1:=Lt0 hc hd fun o ho=>by rw[hoj] at ho;cases ho;exact hall
  have h0:=(mem_ready.1 hi).1
  rcases Nat.lt_or_ge i listed.size with h' | h'
  ·simp [h'] at h0 h1;rw[h0] at h1;cases h1
  ·simp [Array.getElem?_eq_none h'] at h1
theorem Nc0{S:World→Prop}{H H':Held}{i:Nat}{oi:Oper}{v:Value}(hi:ops[i]? = some oi)(hsel:∀(j:Nat) (o:Oper) cs b,ops[j]? = some o→o.op ≠ .select cs b)
  (hQ:∀c a w,Q (.panic c) (a.put oi.dst v) w→Q (.panic c) a w)
  (hw:∀j w',PT ops j H' w'→PT ops j H w') (hH:∀j w',dep ops 6 j i=false→PT ops j H' w'→S w') :
  ∀(fuel:Nat) (listed:Array Bool) (a:Act) (w:World),
   (∀j oj,ops[j]? = some oj→j≠i→listed.getD j true=false→(∀e∈oj.after,Region.binds .any e=true→e.on≠i)→oi.apart ops oj=true) →
   FE ops listed→i∈Region.ready .any ops listed→YieldsIf P ops S oi v a→S w →
   XO P ops Q H' fuel (listed.setIfInBounds i true) (a.put oi.dst v) w→XO P ops Q H (fuel+1) listed a w:=by
 intro fuel
 induction fuel with
 | zero =>
  intro listed a w _ hc hr hy hS Hyp
  refine⟨fun h=>(by rw[h] at hr;cases hr),fun j hj=>?_⟩
  by_cases hji:j=i
  ·subst hji;exact hy.wpOp hi hS ⟨.inl rfl,OU hw _ _ _ _ Hyp⟩
  ·have:=ready_mono hj hji
   rw[Hyp.1] at this
   cases this
 | succ fuel ih =>
  intro listed a w hfree hc hr hy hS Hyp
  refine⟨fun h=>(by rw[h] at hr;cases hr),fun j hj=>?_⟩
  by_cases hji:j=i
  ·subst hji;exact hy.wpOp hi hS ⟨.inl rfl,OU hw _ _ _ _ Hyp⟩
  ·have h1:=Hyp.2 j (ready_mono hj hji)
   obtain⟨hjun,oj,hoj,hall⟩:=mem_ready.1 hj
   have hnot:∀e∈oj.after,Region.binds .any e=true→e.on≠i:=fun e he hb heq=>by
    have h1:=hall e he hb
    have h0:=(mem_ready.1 hr).1
    rw[heq] at h1
    rcases Nat.lt_or_ge i listed.size with h' | h'
    ·simp [h'] at h0 h1;rw[h0] at h1;cases h1
    ·simp [Array.getElem?_eq_none h'] at h1
   have hdir:dep ops 6 j i=false:=Wy0 hc hj hr
   have h2:=wpOp_putIf hoj (hfree j oj hoj hji hjun hnot) (fun cs b=>hsel i oi cs b hi) (fun cs b=>hsel j oj cs b hoj) hQ hy h1
   have hfree':∀k ok,ops[k]? = some ok→k≠i→(listed.setIfInBounds j true).getD k true=false →
     (∀e∈ok.after,Region.binds .any e=true→e.on≠i)→oi.apart ops ok=true:=fun k ok hk hki hun hno=>by
    refine hfree k ok hk hki ?_ hno
    by_cases hjk:j=k
    ·subst hjk;exact hjun
    ·rw[getD_set_ne true hjk] at hun;exact hun
   refine wpOp_mono (fun a' w' h3=>?_) h2
   obtain⟨hy',hhold,hrest⟩:=h3
   have hS':S w':=by
    rcases hhold with rfl | hh
    ·exact hS
    ·exact hH j w' hdir hh
   refine⟨hhold.imp id (hw j w'),ih (listed.setIfInBounds j true) a' w' hfree' (hc.set hj) (ready_mono hr (Ne.symm hji)) hy' hS' ?_⟩
   rw[Array.setIfInBounds_comm _ _ hji]
   exact hrest
end
def vV(ops:Array Oper)(r:Env)(o:Oper):Option Bool :=
 match o.guard with
 | none=>some true
 | some (j,want)=>match (ops[j]?).bind (·.dst) with
  | none=>none
  | some t=>match look r t with
   | some (.lit b)=>some (b == want)
   | some .und=>some false
   | _=>none
def undecided(ops:Array Oper)(r:Env):List Nat→Option (Nat×Value)
 | []=>none
 | i :: l=>match ops[i]? with
  | none=>undecided ops r l
  | some o=>match o.guard with
   | none=>undecided ops r l
   | some (j,_)=>match (ops[j]?).bind (·.dst) with
    | none=>undecided ops r l
    | some t=>match look r t with
     | some (.val v)=>some (t,v)
     | _=>undecided ops r l
def WK(ops:Array Oper)(r:Env)(listed:Array Bool):List Nat→Option Nat
 | []=>none
 | i :: l=>match ops[i]? with
  | none=>WK ops r listed l
  | some o=>match vV ops r o with
   | some false=>match Region.free .any ops listed i with
    | true=>some i
    | false=>WK ops r listed l
   | some true=>match kindOf o.op with
    | .mover=>WK ops r listed l
    | _=>match Region.free .any ops listed i with
     | true=>some i
     | false=>WK ops r listed l
   | none=>WK ops r listed l
def allM(f:Nat→Prop):List Nat→Prop
 | []=>Hi True
 | [i]=>f i
 | i :: l=>f i∧allM f l
def Fv0(P:Program)(n:Nat)(ops:Array Oper)(i:Nat)(r:Env)(H:Held)(w:World)(K:Env→Held→Prop):Prop :=
 match ops[i]? with
 | none=>Hi False
 | some o=>match okd n o.dst with
  | false=>False
  | true=>match vV ops r o with
   | none=>False
   | some false=>K (mH r o.dst .und) H
   | some true=>match o.op with
    | .move x=>match known r x with
     | true=>K (mH r o.dst (XL r x)) H
     | false=>False
    | .assign x=>match known r x with
     | true=>K (mH r o.dst (XL r x)) H
     | false=>False
    | .pick c a b=>match known r c&&(known r a&&known r b) with
     | false=>False
     | true=>match XL r c with
      | .lit true=>K (mH r o.dst (XL r a)) H
      | .lit false=>K (mH r o.dst (XL r b)) H
      | .val v=>ifB v (K (mH r o.dst (XL r a)) H) (K (mH r o.dst (XL r b)) H)
      | .und=>False
    | op=>match NK op with
     | true=>False
     | false=>match op.operands.toList.all (known r) with
      | false=>False
      | true=>match kindOf op with
       | .pure=>M0 P (execOp (ev r) o) fun v=>K (mH r o.dst (.val v)) H
       | .read=>Y0 P (execOp (ev r) o) w fun v=>K (mH r o.dst (.val v)) ((i,Is P (execOp (ev r) o) v) :: H)
       | .mover=>False
def Qu0(P:Program)(n:Nat)(ops:Array Oper)(r:Env)(H:Held)(w:World)(K:Nat→Env→World→Prop)(i:Nat):Prop :=
 match ops[i]? with
 | none=>False
 | some o=>match okd n o.dst with
  | false=>False
  | true=>match vV ops r o with
   | some true=>match NK o.op with
    | true=>False
    | false=>match o.op.operands.toList.all (known r) with
     | false=>False
     | true=>upK P (execOp (ev r) o) w fun v w'=>hold ops i H w' (K i (mH r o.dst (.val v)) w')
   | _=>False
def Dn0:List Bool→(List Bool→Prop)→Prop
 | [],k=>Hi (k [])
 | b :: l,k=>match b with
  | true=>Dn0 l fun m=>k (true :: m)
  | false=>Dn0 l fun m=>k (false :: m)
theorem zd0:∀(l:List Bool) (k:List Bool→Prop),Dn0 l k=k l
 | [],_=>rfl
 | true :: l,k=>zd0 l fun m=>k (true :: m)
 | false :: l,k=>zd0 l fun m=>k (false :: m)
def WD(P:Program)(n:Nat)(ops:Array Oper)(K:Env→World→Prop):Nat→Array Bool→Held→Env→World→Prop
 | 0,_,_,_,_=>False
 | f+1,listed,H,r,w=>Dn0 listed.toList fun l0 =>
  match Region.ready .any ops ⟨l0⟩ with
  | []=>K r w
  | i :: l=>match undecided ops r (i :: l) with
   | some (t,v)=>ifB v (WD P n ops K f ⟨l0⟩ H ((t,.lit true) :: r) w) (WD P n ops K f ⟨l0⟩ H ((t,.lit false) :: r) w)
   | none=>match WK ops r ⟨l0⟩ (i :: l) with
    | some i=>Fv0 P n ops i r H w fun r H=>WD P n ops K f ((⟨l0⟩:Array Bool).setIfInBounds i true) H r w
    | none=>allM (Qu0 P n ops r H w fun i r w=>WD P n ops K f ((⟨l0⟩:Array Bool).setIfInBounds i true) H r w) (i :: l)
def cnt(listed:Array Bool):Nat:=listed.toList.count false
theorem yg0{listed:Array Bool}{i:Nat}(h:listed.getD i true=false):cnt listed=cnt (listed.setIfInBounds i true)+1:=by
 have hlt:i<listed.size:=by
  rcases Nat.lt_or_ge i listed.size with h' | h'
  ·exact h'
  ·simp [Array.getElem?_eq_none h'] at h
 have hv:listed.toList[i]? = some false:=by
  simp [hlt] at h
  simp [hlt,h]
 unfold cnt
 simp only[Array.toList_setIfInBounds]
 clear h hlt
 revert hv
 generalize listed.toList=l
 induction l generalizing i with
 | nil=>intro hv;simp at hv
 | cons x l ih =>
  intro hv
  cases i with
  | zero =>
   simp at hv
   subst hv
   simp
  | succ i =>
   have:=ih (i:=i) (by simpa using hv)
   simp only[List.set_cons_succ,List.count_cons]
   omega
theorem Jk0{ops:Array Oper}{r:Env}{l:List Nat}{t:Nat}{v:Value}(h:undecided ops r l=some (t,v)):look r t=some (.val v):=by
 induction l with
 | nil=>simp [undecided] at h
 | cons i l ih =>
  simp only[undecided] at h
  split at h
  ·exact ih h
  ·split at h
   ·exact ih h
   ·split at h
    ·exact ih h
    ·split at h
     ·rename_i hl
      simp only[Option.some.injEq,Prod.mk.injEq] at h
      obtain⟨rfl,rfl⟩:=h
      exact hl
     ·exact ih h
theorem Zn0{ops:Array Oper}{r:Env}{listed:Array Bool}{l:List Nat}{i:Nat}(h:WK ops r listed l=some i):i∈l∧Region.free .any ops listed i=true:=by
 induction l with
 | nil=>simp [WK] at h
 | cons k l ih =>
  have tl:WK ops r listed l=some i→i∈k :: l∧Region.free .any ops listed i=true:=fun h=>⟨List.mem_cons_of_mem _ (ih h).1,(ih h).2⟩
  simp only[WK] at h
  split at h
  ·exact tl h
  ·split at h
   ·split at h
    ·rename_i hf;simp only[Option.some.injEq] at h;subst h;exact⟨List.mem_cons_self,hf⟩
    ·exact tl h
   ·split at h
    ·exact tl h
    ·split at h
     ·rename_i hf;simp only[Option.some.injEq] at h;subst h;exact⟨List.mem_cons_self,hf⟩
     ·exact tl h
   ·exact tl h
theorem wy0{f:Nat→Prop}{l:List Nat}(h:allM f l):∀i∈l,f i:=by
 induction l with
 | nil=>intro i hi;cases hi
 | cons x l ih =>
  cases l with
  | nil=>intro i hi;simp at hi;subst hi;exact h
  | cons y l =>
   intro i hi
   obtain⟨h1,h2⟩:=h
   cases hi with
   | head=>exact h1
   | tail _ hi=>exact ih h2 i hi
theorem Nf0{n:Nat}{ops:Array Oper}{r:Env}{o:Oper}{a:Act}{b:Bool}(hf:Fits n r a)(h:vV ops r o=some b):Region.wanted o (yielded ops a.tmps)=b:=by
 unfold vV at h
 cases hg:o.guard with
 | none=>rw[hg] at h;simp at h;subst h;simp [Region.wanted,hg]
 | some gw =>
  obtain⟨j,want⟩:=gw
  rw[hg] at h
  dsimp only at h
  cases ht:(ops[j]?).bind (·.dst) with
  | none=>rw[ht] at h;simp at h
  | some t =>
   rw[ht] at h
   dsimp only at h
   split at h
   ·rename_i b' hl
    simp at h
    subst h
    exact Dm0 hf hg ht hl
   ·rename_i hl
    simp at h
    subst h
    exact Qj0 hf hg ht hl
   ·cases h
theorem Qo0{P:Program}{n:Nat}{ops:Array Oper}{i:Nat}{r:Env}{H:Held}{w:World}{K:Env→Held→Prop}{Q:Exit→Act→World→Prop}{f:Nat}{listed:Array Bool}{a:Act}
  (hs:Region.noSelect ops=true) (hQp:∀c a w,¬Q (.panic c) a w) (h:Fv0 P n ops i r H w K) (hf:Fits n r a) (hfree:Region.free .any ops listed i=true)
  (hc:FE ops listed) (hr:i∈Region.ready .any ops listed)
  (hK:∀r H o v,ops[i]? = some o→Fits n r (a.put o.dst v)→K r H→XO P ops Q H f (listed.setIfInBounds i true) (a.put o.dst v) w):XO P ops Q H (f+1) listed a w:=by
 unfold Fv0 at h
 cases ho:ops[i]? with
 | none=>rw[ho] at h;exact h.elim
 | some o =>
  rw[ho] at h
  dsimp only at h
  cases hd:okd n o.dst with
  | false=>rw[hd] at h;exact h.elim
  | true =>
   rw[hd] at h
   dsimp only at h
   have first:∀(x:AV),YieldsIf P ops (fun _=>True) o x.v a→K (mH r o.dst x) H→XO P ops Q H (f+1) listed a w:=by
    intro x hy hk
    exact Nc0 (S:=fun _=>True) (H':=H) ho (Region.noSelect_spec hs) (fun c a w hh=>absurd hh (hQp c _ w)) (fun _ _ h=>h) (fun _ _ _ _=>trivial)
     f listed a w (Region.free_spec ho hfree) hc hr hy trivial (hK _ _ _ _ ho (hf.put hd) hk)
   cases hst:vV ops r o with
   | none=>rw[hst] at h;exact h.elim
   | some b =>
    rw[hst] at h
    have hwant:=Nf0 hf hst
    cases b with
    | false=>exact first .und (.inr ⟨hwant,rfl⟩) h
    | true =>
     dsimp only at h
     have mv:∀x,known r x=true→(execOp a.eval o)=pure (.value (a.eval x))→K (mH r o.dst (XL r x)) H→XO P ops Q H (f+1) listed a w:=by
      intro x hk he hh
      refine first (XL r x) (.inl ⟨hwant,fun w _=>?_⟩) hh
      rw[he,hf.ev hk];rfl
     have gen:NK o.op=false→o.op.operands.toList.all (known r)=true→(match kindOf o.op with
       | .pure=>M0 P (execOp (ev r) o) fun v=>K (mH r o.dst (.val v)) H
       | .read=>Y0 P (execOp (ev r) o) w fun v=>K (mH r o.dst (.val v)) ((i,Is P (execOp (ev r) o) v) :: H)
       | .mover=>False)→XO P ops Q H (f+1) listed a w:=by
      intro hsl hall hh
      have he:=dX hf hsl hall
      cases hkd:kindOf o.op<;>rw[hkd] at hh<;>dsimp only at hh
      ·obtain⟨v,h1,h2⟩:=hh
       exact first (.val v) (.inl ⟨hwant,fun w _=>by rw[he];exact h1 w⟩) h2
      ·obtain⟨v,h1,h2⟩:=hh
       refine Nc0 (S:=Is P (execOp (ev r) o) v) (H':=(i,Is P (execOp (ev r) o) v) :: H) (v:=v) ho (Region.noSelect_spec hs) (fun c a w hh=>absurd hh (hQp c _ w)) ?_ ?_
        f listed a w (Region.free_spec ho hfree) hc hr (.inl ⟨hwant,fun w hw=>by rw[he];exact hw⟩) h1 (hK _ _ _ _ ho (hf.put (x := .val v) hd) h2)
       ·intro j w' hh y hy;exact hh y (List.mem_cons_of_mem _ hy)
       ·intro j w' hdir hh
        rcases hh _ List.mem_cons_self with h | h
        ·dsimp only at h;rw[hdir] at h;cases h
        ·exact h
     obtain⟨dst,op,type,pos,after,guard⟩:=o
     dsimp only at h hd mv gen first
     have gen':NK op=false→(match NK op with
      | true=>False
      | false=>match op.operands.toList.all (known r) with
       | false=>False
       | true=>match kindOf op with
        | .pure=>M0 P (execOp (ev r) ⟨dst,op,type,pos,after,guard⟩) fun v=>K (mH r dst (.val v)) H
        | .read=>Y0 P (execOp (ev r) ⟨dst,op,type,pos,after,guard⟩) w fun v=>K (mH r dst (.val v)) ((i,Is P (execOp (ev r) ⟨dst,op,type,pos,after,guard⟩) v) :: H)
        | .mover=>False)→XO P ops Q H (f+1) listed a w:=by
      intro hsl hh
      rw[hsl] at hh
      dsimp only at hh
      cases hall:op.operands.toList.all (known r) with
      | false=>simp [hall] at hh
      | true=>rw[hall] at hh;exact gen hsl hall hh
     cases op
     case move x =>
      dsimp only at h
      cases hk:known r x with
      | false=>simp [hk] at h
      | true=>rw[hk] at h;exact mv x hk rfl h
     case assign x =>
      dsimp only at h
      cases hk:known r x with
      | false=>simp [hk] at h
      | true=>rw[hk] at h;exact mv x hk rfl h
     case pick c x y =>
      dsimp only at h
      cases hk:known r c&&(known r x&&known r y) with
      | false=>simp [hk] at h
      | true =>
       rw[hk] at h
       dsimp only at h
       simp only[Bool.and_eq_true] at hk
       obtain⟨k1,k2,k3⟩:=hk
       have hp:∀b:Bool,ev r c = .bool b→K (mH r dst (if b then XL r x else XL r y)) H→XO P ops Q H (f+1) listed a w:=by
        intro b hb hh
        refine first (if b then XL r x else XL r y) (.inl ⟨hwant,fun w _=>?_⟩) hh
        have:execOp a.eval (⟨dst,.pick c x y,type,pos,after,guard⟩:Oper)=pure (.value (if b then a.eval x else a.eval y)):=by
         simp only[execOp,hf.ev k1,hb,asBool];rfl
        rw[this,hf.ev k2,hf.ev k3]
        cases b<;>rfl
       cases hc:XL r c with
       | lit b =>
        rw[hc] at h
        cases b
        ·exact hp false (by simp [ev,hc,AV.v]) h
        ·exact hp true (by simp [ev,hc,AV.v]) h
       | val v =>
        rw[hc] at h
        obtain⟨b,rfl,hh⟩:=h
        cases b
        ·exact hp false (by simp [ev,hc,AV.v]) hh
        ·exact hp true (by simp [ev,hc,AV.v]) hh
       | und=>rw[hc] at h;exact h.elim
     case select cs b=>exact h.elim
     all_goals exact gen' rfl h
theorem ao0{P:Program}{n:Nat}{ops:Array Oper}{i:Nat}{r:Env}{H:Held}{w:World}{K:Nat→Env→World→Prop}{Q:Exit→Act→World→Prop}{a:Act}{K':Act→World→Prop}
  (h:Qu0 P n ops r H w K i) (hf:Fits n r a) (hK:∀r o v w',ops[i]? = some o→Fits n r (a.put o.dst v)→PT ops i H w'→K i r w'→K' (a.put o.dst v) w'):wpOp P ops Q i K' a w:=by
 unfold Qu0 at h
 unfold wpOp
 cases ho:ops[i]? with
 | none=>rw[ho] at h;exact h.elim
 | some o =>
  rw[ho] at h
  dsimp only at h ⊢
  cases hd:okd n o.dst with
  | false=>rw[hd] at h;exact h.elim
  | true =>
   rw[hd] at h
   dsimp only at h
   split at h
   ·rename_i hst
    rw[if_pos (Nf0 hf hst)]
    cases hsl:NK o.op with
    | true=>rw[hsl] at h;exact h.elim
    | false =>
     rw[hsl] at h
     dsimp only at h
     cases hall:o.op.operands.toList.all (known r) with
     | false=>rw[hall] at h;exact h.elim
     | true =>
      rw[hall] at h
      dsimp only at h
      have he:=dX hf hsl hall
      refine .inl (yP (K:=fun v w'=>hold ops i H w' (K i (mH r o.dst (.val v)) w')) ?_ ?_)
      ·rw[he];exact h
      ·intro v w' hh
       obtain⟨h1,h2⟩:=Bz0 hh
       exact hK _ _ _ _ ho (hf.put (x := .val v) hd) h1 h2
   ·exact h.elim
theorem SB0{P:Program}{n:Nat}{ops:Array Oper}{K:Env→World→Prop}{Q:Exit→Act→World→Prop}(hs:Region.noSelect ops=true)(hQp:∀c a w,¬Q (.panic c) a w)
  {D:List Nat} {a0:Act} (hQ:∀r a w,Fits n r a→lH D a0 a→K r w→Q .normal a w) (hD:∀(i:Nat) (o:Oper),ops[i]? = some o→∀t,o.dst=some t→t∈D) (f:Nat) :
  ∀(listed:Array Bool) (H:Held) (r:Env) (a:Act) (w:World),WD P n ops K f listed H r w→Fits n r a→lH D a0 a→FE ops listed→XO P ops Q H (cnt listed) listed a w:=by
 induction f with
 | zero=>intro listed H r a w h _ _ _;exact h.elim
 | succ f ih =>
  intro listed H r a w h hf hkp hcl
  unfold WD at h
  rw[zd0] at h
  rw[show (Array.mk listed.toList)=listed from rfl] at h
  cases hr:Region.ready .any ops listed with
  | nil =>
   rw[hr] at h
   have hq:=hQ r a w hf hkp h
   cases hc:cnt listed with
   | zero=>exact⟨hr,hq⟩
   | succ k=>exact⟨fun _=>hq,by rw[hr];simp⟩
  | cons i l =>
   rw[hr] at h
   dsimp only at h
   cases hu:undecided ops r (i :: l) with
   | some tv =>
    obtain⟨t,v⟩:=tv
    rw[hu] at h
    obtain⟨b,hv,hh⟩:=h
    have hf':=hf.know (Jk0 hu) hv
    cases b
    ·exact ih _ _ _ _ _ hh hf' hkp hcl
    ·exact ih _ _ _ _ _ hh hf' hkp hcl
   | none =>
    rw[hu] at h
    dsimp only at h
    cases ht:WK ops r listed (i :: l) with
    | some k =>
     rw[ht] at h
     obtain⟨hm,hfree⟩:=Zn0 ht
     have hready:k∈Region.ready .any ops listed:=hr ▸ hm
     rw[yg0 (mem_ready.1 hready).1]
     exact Qo0 hs hQp h hf hfree hcl hready fun r H o v ho hf hk=>ih _ _ _ _ _ hk hf (hkp.put (hD _ o ho)) (hcl.set hready)
    | none =>
     rw[ht] at h
     dsimp only at h
     have hi0:i∈Region.ready .any ops listed:=hr ▸ List.mem_cons_self
     rw[yg0 (mem_ready.1 hi0).1]
     refine⟨fun h0=>(by rw[h0] at hr;cases hr),fun k hk=>?_⟩
     have hc:cnt (listed.setIfInBounds i true)=cnt (listed.setIfInBounds k true):=by
      have h1:=yg0 (mem_ready.1 hi0).1
      have h2:=yg0 (mem_ready.1 hk).1
      omega
     rw[hc]
     exact ao0 (wy0 h k (hr ▸ hk)) hf fun r o v w' ho hf hh hk'=>⟨.inr hh,ih _ _ _ _ _ hk' hf (hkp.put (hD _ o ho)) (hcl.set hk)⟩
def ZO:Code→List Nat
 | .region _ ops _=>ops.toList.filterMap (·.dst)
 | .seq a b=>ZO a++ZO b
 | .cond _ a b=>ZO a++ZO b
 | .block _ b=>ZO b
 | .loop b=>ZO b
 | .scope b=>ZO b
 | _=>[]
def carried(r:Env):List Nat→List Nat→List Nat
 | _,[]=>[]
 | seen,t :: l=>match PK r t&&!lM t seen with
  | true=>t :: carried r (t :: seen) l
  | false=>carried r seen l
def Tup:List Nat→Type
 | []=>Unit
 | _ :: l=>Value×Tup l
def nZ:(L:List Nat)→Tup L→Env
 | [],_=>[]
 | t :: l,x=>(t,.val x.1) :: nZ l x.2
def QX(r:Env):(L:List Nat)→Tup L
 | []=>()
 | t :: l=>(ev r (.tmp t),QX r l)
def without(r:Env)(D:List Nat):Env :=
 match r with
 | []=>[]
 | p :: r=>match lM p.1 D with
  | true=>without r D
  | false=>p :: without r D
def rK0:Code→Bool
 | .region ..=>true
 | _=>false
def AV.plain:AV→AV
 | .lit b => .val (.bool b)
 | x=>x
theorem AV.JI0(x:AV):x.plain.v=x.v:=by cases x<;>rfl
def Vh0:Env→Env
 | []=>[]
 | (t,x) :: r=>(t,x.plain) :: Vh0 r
theorem Ou0{r:Env}{t:Nat}{x:AV}(h:look (Vh0 r) t=some x):∃y,look r t=some y∧y.v=x.v:=by
 induction r with
 | nil=>cases h
 | cons p r ih =>
  obtain⟨k,y⟩:=p
  unfold Vh0 at h
  rw[yF] at h ⊢
  split at h
  ·rename_i e
   simp only[Option.some.injEq] at h
   subst h
   exact⟨y,by simp [e],(AV.JI0 y).symm⟩
  ·rename_i e
   simpa [e] using ih h
theorem Fits.Vh0{n:Nat}{r:Env}{a:Act}(h:Fits n r a):Fits n (Vh0 r) a :=
 ⟨h.defers,h.size,fun t x hx=>by
  obtain⟨y,hy,he⟩:=Ou0 hx
  rw[←he]
  exact h.at_ t y hy⟩
def TE{X:Type}(f:X→World→Prop)(g:(X→World→Prop)→Prop):Prop:=g f
theorem Q6{X:Type}{f:X→World→Prop}{g:(X→World→Prop)→Prop}(h:∀J:X→World→Prop,(∀x w,f x w→J x w)→g J):TE f g:=h f fun _ _ h=>h
inductive ga0 where
 | leaf
 | node (j:Option (List Nat)) (l r:ga0)
def ga0.j:ga0→Option (List Nat)
 | .leaf=>none
 | .node j _ _=>j
def ga0.l:ga0→ga0
 | .leaf => .leaf
 | .node _ l _=>l
def ga0.r:ga0→ga0
 | .leaf => .leaf
 | .node _ _ r=>r
def WP(P:Program)(n:Nat)(dead:List Nat)(pl:ga0):Code→(Exit→Env→World→Prop)→Env→World→Prop
 | .skip,Q,r,w=>Q .normal r w
 | .region _ ops false,Q,r,w=>wpE P n ops (Q .normal) ops.toList r w
 | .region _ ops true,Q,r,w=>match P.follows .mixedOrders&&Region.noSelect ops with
  | true=>WD P n ops (Q .normal) (3 * ops.size+3) (Array.replicate ops.size false) [] r (tick w)
  | false=>False
 | .seq a b,Q,r,w=>match pl.j with
  | none=>WP P n dead pl.l a (fun e r w=>match e with
   | .normal=>match rK0 a with
    | true=>WP P n dead pl.r b Q r w
    | false=>WP P n dead pl.r b Q (Vh0 r) w
   | e=>Q e r w) r w
  | some L=>TE (X:=Tup L) (fun x w=>WP P n dead pl.r b Q (nZ L x++without r (ZO a)) w) (fun J=>WP P n dead pl.l a (fun e r w=>match e with
   | .normal=>match L.all (PK r) with
    | true=>J (QX r L) w
    | false=>False
   | e=>Q e r w) r w)
 | .cond c a b,Q,r,w=>match known r c with
  | false=>False
  | true=>match XL r c with
   | .lit true=>WP P n dead pl.l a Q r w
   | .lit false=>WP P n dead pl.r b Q r w
   | .val v=>ifB v (WP P n dead pl.l a Q r w) (WP P n dead pl.r b Q r w)
   | .und=>False
 | .block id c,Q,r,w=>WP P n dead pl.l c (fun e r w=>match e with
   | .exit k=>match Nat.beq k id with
    | true=>Q .normal r w
    | false=>Q (.exit k) r w
   | e=>Q e r w) r w
 | .exit id,Q,r,w=>Q (.exit id) r w
 | .label _,Q,r,w=>Q .normal r w
 | .scope c,Q,r,w=>WP P n dead pl.l c (fun e r w=>match e with
   | .goto _=>False
   | e=>Q e r w) r w
 | .ret,Q,r,w=>Q .ret r w
 | .loop c,Q,r,w =>
  LOOP (X:=Tup (carried r dead (ZO c))) (fun x w next =>
   WP P n dead pl.l c (fun e r' w=>match e with
    | .normal=>match (carried r dead (ZO c)).all (PK r') with
     | true=>next (QX r' (carried r dead (ZO c))) w
     | false=>False
    | e=>Q e r' w) (nZ (carried r dead (ZO c)) x++without r (ZO c)) w) (QX r (carried r dead (ZO c))) w
 | _,_,_,_=>False
theorem Vq0(r s:Env)(t:Nat):look (r++s) t=(look r t).or (look s t):=by
 induction r with
 | nil=>simp [look]
 | cons p r ih =>
  obtain⟨k,x⟩:=p
  rw[List.cons_append,yF,yF,ih]
  split<;>simp
theorem Vn0{r:Env}{D:List Nat}{t:Nat}{x:AV}(h:look (without r D) t=some x):look r t=some x:=by
 induction r with
 | nil=>exact h
 | cons p r ih =>
  obtain⟨k,y⟩:=p
  unfold without at h
  rw[yF]
  cases he:lM k D with
  | true =>
   rw[he] at h
   dsimp only at h
   by_cases e:k=t
   ·
    exfalso
    subst e
    have:∀r:Env,look (without r D) k=none:=by
     intro r
     induction r with
     | nil=>rfl
     | cons q r ih =>
      unfold without
      cases hq:lM q.1 D with
      | true=>exact ih
      | false =>
       dsimp only
       obtain⟨m,z⟩:=q
       rw[yF]
       have hne:m≠k:=by rintro rfl;rw[he] at hq;cases hq
       simp [hne,ih]
    rw[this] at h;cases h
   ·simp [e,ih h]
  | false =>
   rw[he] at h
   dsimp only at h
   rw[yF] at h
   split at h
   ·rename_i e;simp [e,h]
   ·rename_i e;simp [e,ih h]
theorem Pu0{L:List Nat}{r:Env}{t:Nat}{x:AV}(hall:L.all (PK r)=true)(h:look (nZ L (QX r L)) t=some x):∃y,look r t=some y∧y.v=x.v:=by
 induction L with
 | nil=>simp [nZ,look] at h
 | cons k L ih =>
  simp only[List.all_cons,Bool.and_eq_true] at hall
  simp only[nZ,QX] at h
  rw[yF] at h
  split at h
  ·rename_i e
   subst e
   simp only[Option.some.injEq] at h
   subst h
   have:=hall.1
   unfold PK at this
   cases hl:look r k with
   | none=>rw[hl] at this;cases this
   | some y=>exact⟨y,rfl,by simp [AV.v,ev,XL,hl]⟩
  ·exact ih hall.2 h
theorem lk0(r:Env)(l seen:List Nat):(carried r seen l).all (PK r)=true:=by
 induction l generalizing seen with
 | nil=>rfl
 | cons t l ih =>
  unfold carried
  cases h:PK r t&&!lM t seen with
  | true =>
   simp only[List.all_cons,Bool.and_eq_true]
   simp only[Bool.and_eq_true] at h
   exact⟨h.1,ih _⟩
  | false=>exact ih _
theorem Sd0{r:Env}{D:List Nat}{t:Nat}(h:lM t D=true):look (without r D) t=none:=by
 induction r with
 | nil=>rfl
 | cons q r ih =>
  unfold without
  cases hq:lM q.1 D with
  | true=>exact ih
  | false =>
   dsimp only
   obtain⟨m,z⟩:=q
   rw[yF]
   have hne:m≠t:=by rintro rfl;rw[h] at hq;cases hq
   simp [hne,ih]
theorem Fits.round{n:Nat}{r r':Env}{a a':Act}{L D:List Nat}(hf:Fits n r a)(hf':Fits n r' a')(hk:lH D a a')(hall:L.all (PK r')=true) :
  Fits n (nZ L (QX r' L)++without r D) a':=by
 refine⟨hf'.defers,hf'.size,fun t x h=>?_⟩
 rw[Vq0] at h
 cases h1:look (nZ L (QX r' L)) t with
 | some y =>
  rw[h1] at h
  simp only[Option.some_or,Option.some.injEq] at h
  subst h
  obtain⟨z,hz,he⟩:=Pu0 hall h1
  rw[←he]
  exact hf'.at_ t z hz
 | none =>
  rw[h1] at h
  simp only[Option.none_or] at h
  cases ht:lM t D with
  | true=>rw[Sd0 ht] at h;cases h
  | false=>rw[hk t ht];exact hf.at_ t x (Vn0 h)
theorem exists_least{p:Nat→Prop}(h:∃k,p k):∃k,p k∧∀j,p j→k≤j:=by
 obtain⟨k,hk⟩:=h
 induction k using Nat.strongRecOn with
 | _ k ih =>
  by_cases hx:∃j,j<k∧p j
  ·obtain⟨j,hj,hp⟩:=hx
   exact ih j hj hp
  ·refine⟨k,hk,fun j hp=>?_⟩
   rcases Nat.lt_or_ge j k with h | h
   ·exact absurd ⟨j,h,hp⟩ hx
   ·exact h
open Classical in
noncomputable def least(p:Nat→Prop):Nat:=if h:∃k,p k then Classical.choose (exists_least h) else 0
theorem Ri0{p:Nat→Prop}(h:∃k,p k):p (least p)∧∀j,p j→least p≤j:=by
 unfold least
 rw[dif_pos h]
 exact Classical.choose_spec (exists_least h)
def QK(n:Nat)(D:List Nat)(a0:Act)(Q:Exit→Env→World→Prop):Exit→Act→World→Prop
 | .panic _,_,_=>False
 | .outgrown,_,_=>False
 | e,a,w=>lH D a0 a∧∃r,Fits n r a∧Q e r w
theorem Ia0{t:Nat}{l m:List Nat}:lM t (l++m)=(lM t l||lM t m):=by
 induction l with
 | nil=>rfl
 | cons x l ih =>
  simp only[List.cons_append,lM]
  split<;>simp [ih]
theorem lH.refl(D:List Nat)(a:Act):lH D a a:=fun _ _=>rfl
theorem lH.trans{D:List Nat}{a b c:Act}(h:lH D a b)(h':lH D b c):lH D a c:=fun t ht=>(h' t ht).trans (h t ht)
theorem lH.left{D E:List Nat}{a b:Act}(h:lH D a b):lH (D++E) a b:=fun t ht=>h t (by rw[Ia0] at ht;simp at ht;exact ht.1)
theorem lH.right{D E:List Nat}{a b:Act}(h:lH E a b):lH (D++E) a b:=fun t ht=>h t (by rw[Ia0] at ht;simp at ht;exact ht.2)
theorem QK.mono{n:Nat}{D D':List Nat}{a0 a0':Act}{Q Q':Exit→Env→World→Prop}{e:Exit}{a:Act}{w:World}(h:QK n D a0 Q e a w)
  (hk:lH D a0 a→lH D' a0' a) (hq:∀r,Q e r w→Q' e r w):QK n D' a0' Q' e a w:=by
 cases e<;>first | exact h.elim | exact⟨hk h.1,let ⟨r,hf,hh⟩:=h.2;⟨r,hf,hq r hh⟩⟩
theorem TB0{P:Program}{n:Nat}{dead:List Nat}(c:Code):∀(pl:ga0) (Q:Exit→Env→World→Prop) (r:Env) (a:Act) (w:World),WP P n dead pl c Q r w→Fits n r a→c.wp P (QK n (ZO c) a Q) a w:=by
 induction c with
 | skip=>intro pl Q r a w h hf;exact wp_skip ⟨lH.refl _ _,r,hf,h⟩
 | exit id=>intro pl Q r a w h hf;exact wp_exit ⟨lH.refl _ _,r,hf,h⟩
 | ret=>intro pl Q r a w h hf;exact wp_ret ⟨lH.refl _ _,r,hf,h⟩
 | region id ops draw =>
  intro pl Q r a w h hf
  have hD:∀(i:Nat) (o:Oper),ops[i]? = some o→∀t,o.dst=some t→t∈ZO (.region id ops draw):=fun i o ho t ht =>
   List.mem_filterMap.2 ⟨o,by simpa using Array.mem_of_getElem? ho,ht⟩
  cases draw with
  | false =>
   refine wp_region_list (sB0 (D:=ZO (.region id ops false)) (a0:=a) ?_ ops.toList ?_ r a w h hf (lH.refl _ _))
   ·intro r a w hf hk hq;exact⟨hk,r,hf,hq⟩
   ·intro o ho t ht;exact List.mem_filterMap.2 ⟨o,ho,ht⟩
  | true =>
   unfold WP at h
   cases hm:P.follows .mixedOrders&&Region.noSelect ops with
   | false=>rw[hm] at h;exact h.elim
   | true =>
    rw[hm] at h
    simp only[Bool.and_eq_true] at hm
    have hc:cnt (Array.replicate ops.size false)=ops.size:=by simp [cnt]
    have:=SB0 (Q:=QK n (ZO (.region id ops true)) a Q) (D:=ZO (.region id ops true)) (a0:=a) hm.2 (fun _ _ _ h=>h) (fun r a w hf hk hq=>⟨hk,r,hf,hq⟩) hD _ _ _ _ _ _ h hf (lH.refl _ _) (FE.start ops _)
    rw[hc] at this
    exact wp_region_any hm.1 (bk0 _ _ _ _ this)
 | seq x y ihx ihy =>
  intro pl Q r a w h hf
  have out:∀(e:Exit) (a':Act) (w':World) (Q':Exit→Env→World→Prop),(∀e r w,e ≠ .normal→Q' e r w→Q e r w)→e ≠ .normal→QK n (ZO x) a Q' e a' w'→QK n (ZO (.seq x y)) a Q e a' w':=by
   intro e a' w' Q' hQ hne hq
   cases e with
   | normal=>exact absurd rfl hne
   | panic c=>exact hq.elim
   | outgrown=>exact hq.elim
   | exit id=>exact QK.mono (e := .exit id) hq lH.left fun r h=>hQ _ r _ hne h
   | goto l=>exact QK.mono (e := .goto l) hq lH.left fun r h=>hQ _ r _ hne h
   | ret=>exact QK.mono (e := .ret) hq lH.left fun r h=>hQ _ r _ hne h
  unfold WP at h
  cases hj:pl.j with
  | none =>
   rw[hj] at h
   dsimp only at h
   refine wp_seq (Code.wp_mono (fun e a' w' hq=>?_) (ihx pl.l _ r a w h hf))
   by_cases hne:e = .normal
   ·subst hne
    obtain⟨hk,r',hf',hh⟩:=hq
    have hy:y.wp P (QK n (ZO y) a' Q) a' w':=by
     dsimp only at hh
     cases hreg:rK0 x with
     | true=>rw[hreg] at hh;exact ihy pl.r Q r' a' w' hh hf'
     | false=>rw[hreg] at hh;exact ihy pl.r Q _ a' w' hh hf'.Vh0
    refine Code.wp_mono (fun e a'' w'' hq=>?_) hy
    exact hq.mono (fun hk'=>(lH.left hk).trans (lH.right hk')) (fun _ h=>h)
   ·have:=out e a' w' _ (fun e r w hne h=>by cases e<;>first | exact absurd rfl hne | exact h) hne hq
    cases e<;>first | exact absurd rfl hne | exact this
  | some L =>
   rw[hj] at h
   dsimp only at h
   refine wp_seq (Code.wp_mono (fun e a' w' hq=>?_) (ihx pl.l _ r a w h hf))
   by_cases hne:e = .normal
   ·subst hne
    obtain⟨hk,r',hf',hh⟩:=hq
    dsimp only at hh
    cases hall:L.all (PK r') with
    | false=>rw[hall] at hh;exact hh.elim
    | true =>
     rw[hall] at hh
     have hy:y.wp P (QK n (ZO y) a' Q) a' w':=ihy pl.r Q _ a' w' hh (hf.round hf' hk hall)
     refine Code.wp_mono (fun e a'' w'' hq=>?_) hy
     exact hq.mono (fun hk'=>(lH.left hk).trans (lH.right hk')) (fun _ h=>h)
   ·have:=out e a' w' _ (fun e r w hne h=>by cases e<;>first | exact absurd rfl hne | exact h) hne hq
    cases e<;>first | exact absurd rfl hne | exact this
 | cond c x y ihx ihy =>
  intro pl Q r a w h hf
  unfold WP at h
  cases hk:known r c with
  | false=>rw[hk] at h;exact h.elim
  | true =>
   rw[hk] at h
   dsimp only at h
   have go:∀b:Bool,ev r c = .bool b→(if b then WP P n dead pl.l x Q r w else WP P n dead pl.r y Q r w)→(Code.cond c x y).wp P (QK n (ZO (.cond c x y)) a Q) a w:=by
    intro b hb hh
    refine wp_cond (t:=b) (by rw[hf.ev hk,hb]) ?_
    cases b with
    | true=>exact Code.wp_mono (fun e a' w' hq=>hq.mono lH.left fun _ h=>h) (ihx pl.l Q r a w hh hf)
    | false=>exact Code.wp_mono (fun e a' w' hq=>hq.mono lH.right fun _ h=>h) (ihy pl.r Q r a w hh hf)
   cases hc:XL r c with
   | lit b =>
    rw[hc] at h
    cases b
    ·exact go false (by simp [ev,hc,AV.v]) h
    ·exact go true (by simp [ev,hc,AV.v]) h
   | val v =>
    rw[hc] at h
    obtain⟨b,rfl,hh⟩:=h
    cases b
    ·exact go false (by simp [ev,hc,AV.v]) hh
    ·exact go true (by simp [ev,hc,AV.v]) hh
   | und=>rw[hc] at h;exact h.elim
 | block id c ih =>
  intro pl Q r a w h hf
  refine wp_block (Code.wp_mono (fun e a' w' hq=>?_) (ih pl.l _ r a w h hf))
  cases e with
  | exit k =>
   obtain⟨hk,r',hf',hh⟩:=hq
   dsimp only at hh
   cases hb:Nat.beq k id with
   | true =>
    rw[hb] at hh
    have:=Nat.eq_of_beq_eq_true hb
    subst this
    simp only[Exit.inBlock,if_true]
    exact⟨hk,r',hf',hh⟩
   | false =>
    rw[hb] at hh
    have:k≠id:=by rintro rfl;simp at hb
    simp only[Exit.inBlock,this,if_false]
    exact⟨hk,r',hf',hh⟩
  | panic c=>exact hq.elim
  | outgrown=>exact hq.elim
  | normal=>exact hq
  | goto l=>exact hq
  | ret=>exact hq
 | loop c ih =>
  intro pl Q r a w h hf
  unfold WP at h
  obtain⟨k0,hk0⟩:=h
  let L:=carried r dead (ZO c)
  let B:=fun(x:Tup L) (w:World) (next:Tup L→World→Prop) =>
   WP P n dead pl.l c (fun e r' w=>match e with
    | .normal=>match L.all (PK r') with
     | true=>next (QX r' L) w
     | false=>False
    | e=>Q e r' w) (nZ L x++without r (ZO c)) w
  let p:=fun(a':Act) (w':World) (k:Nat)=>lH (ZO c) a a'∧∃x:Tup L,iter B k x w'∧Fits n (nZ L x++without r (ZO c)) a'
  have hstart:∃k,p a w k:=⟨k0,lH.refl _ _,QX r L,hk0,hf.round hf (lH.refl _ _) (lk0 r _ _)⟩
  refine wp_loop (fun a' w'=>∃k,p a' w' k) (fun a' w'=>least (p a' w')) hstart ?_
  intro a1 w1 hex
  obtain⟨⟨hkp,x,hit,hfx⟩,hleast⟩:=Ri0 hex
  cases hl:least (p a1 w1) with
  | zero=>rw[hl] at hit;exact hit.elim
  | succ k =>
   rw[hl] at hit
   have hb:B x w1 (iter B k):=hit
   refine Code.wp_mono (fun e a2 w2 hq=>?_) (ih pl.l _ _ a1 w1 hb hfx)
   cases e with
   | normal =>
    obtain⟨hk2,r',hf',hh⟩:=hq
    dsimp only at hh
    cases hall:L.all (PK r') with
    | false=>rw[hall] at hh;exact hh.elim
    | true =>
     rw[hall] at hh
     have hp:p a2 w2 k:=⟨hkp.trans hk2,QX r' L,hh,hf.round hf' (hkp.trans hk2) hall⟩
     refine⟨⟨k,hp⟩,?_⟩
     have:=(Ri0 ⟨k,hp⟩).2 k hp
     show least (p a2 w2)<k+1
     omega
   | panic c=>exact hq.elim
   | outgrown=>exact hq.elim
   | exit id=>exact QK.mono (e := .exit id) hq (fun h=>hkp.trans h) fun _ h=>h
   | goto l=>exact QK.mono (e := .goto l) hq (fun h=>hkp.trans h) fun _ h=>h
   | ret=>exact QK.mono (e := .ret) hq (fun h=>hkp.trans h) fun _ h=>h
 | rangeFunc f ps x y ihx ihy=>intro pl Q r a w h hf;exact h.elim
 | scope c ih =>
  intro pl Q r a w h hf
  refine wp_scope_straight (Code.wp_mono (fun e a' w' hq=>?_) (ih pl.l _ r a w h hf))
  cases e with
  | goto l=>obtain⟨_,_,_,hh⟩:=hq;exact hh.elim
  | panic c=>exact hq.elim
  | outgrown=>exact hq.elim
  | normal=>exact hq
  | exit id=>exact hq
  | ret=>exact hq
 | label l=>intro pl Q r a w h hf;exact wp_label ⟨lH.refl _ _,r,hf,h⟩
 | goto l=>intro pl Q r a w h hf;exact h.elim
 | refuse y=>intro pl Q r a w h hf;exact h.elim
def S9(P:Program)(s:Sem Value)(w:World)(K:Value→Prop):Prop:=∃v,s.run P w = .ok v w∧K v
def Br0(P:Program)(r:Env)(w:World):List ResultVar→(List Value→Prop)→Prop
 | [],K=>K []
 | .tmp t :: l,K=>match PK r t with
  | true=>Br0 P r w l fun vs=>K (ev r (.tmp t) :: vs)
  | false=>False
 | .cell a T :: l,K=>match PK r a with
  | true=>S9 P (do loadVar T (←asAddr (ev r (.tmp a)))) w fun v=>Br0 P r w l fun vs=>K (v :: vs)
  | false=>False
def sF0:List Value→Value
 | [v]=>v
 | vs => .tuple vs.toArray
def inits:Nat→List Value→Env
 | _,[]=>[]
 | k,v :: l=>(k,.val v) :: inits (k+1) l
def FN(P:Program)(fn:Func)(c:Code)(dead:List Nat)(pl:ga0)(args:List Value)(w:World)(K:Value→World→Prop):Prop :=
 match Nat.ble args.length fn.ntmps with
 | false=>False
 | true=>WP P fn.ntmps dead pl c (fun e r w=>match e with
  | .normal=>Br0 P r w fn.results.toList fun vs=>K (sF0 vs) w
  | .ret=>Br0 P r w fn.results.toList fun vs=>K (sF0 vs) w
  | _=>False) (inits 0 args) w
def so0(tmps:Array Value):ResultVar→Sem Value
 | .tmp t=>pure (tmps.getD t undef)
 | .cell a t=>do loadVar t (←asAddr (tmps.getD a undef))
theorem dv0{P:Program}{n:Nat}{r:Env}{a:Act}{w:World}(hf:Fits n r a)(l:List ResultVar):∀(K:List Value→Prop),Br0 P r w l K →
  ∃vs,K vs∧(l.mapM (so0 a.tmps)).run P w = .ok vs w:=by
 induction l with
 | nil=>intro K h;exact⟨[],h,rfl⟩
 | cons x l ih =>
  intro K h
  cases x with
  | tmp t =>
   unfold Br0 at h
   cases hk:PK r t with
   | false=>rw[hk] at h;exact h.elim
   | true =>
    rw[hk] at h
    obtain⟨vs,h1,h2⟩:=ih _ h
    refine⟨_,h1,?_⟩
    have he:a.tmps.getD t undef=ev r (.tmp t):=hf.ev (x := .tmp t) hk
    rw[List.mapM_cons]
    simp only[so0,he]
    simp [h2]
  | cell x T =>
   unfold Br0 at h
   cases hk:PK r x with
   | false=>rw[hk] at h;exact h.elim
   | true =>
    rw[hk] at h
    obtain⟨v,hrun,hh⟩:=h
    obtain⟨vs,h1,h2⟩:=ih _ hh
    refine⟨_,h1,?_⟩
    have he:a.tmps.getD x undef=ev r (.tmp x):=hf.ev (x := .tmp x) hk
    rw[List.mapM_cons]
    simp only[so0,he]
    rw[Sem.run_bind,hrun]
    simp [h2]
theorem aJ0(vs:List Value):(if h:vs.toArray.size=1 then vs.toArray[0] else .tuple vs.toArray)=sF0 vs:=by
 match vs with
 | []=>rfl
 | [v]=>rfl
 | v :: u :: l=>rw[dif_neg (by simp)];rfl
theorem Gf0{P:Program}{fn:Func}{n:Nat}{r:Env}{a:Act}{w:World}{K:Value→Prop}(hf:Fits n r a)(h:Br0 P r w fn.results.toList fun vs=>K (sF0 vs)) :
  ∃v,(results fn a.tmps).run P w = .ok v w∧K v:=by
 obtain⟨vs,h1,h2⟩:=dv0 hf _ _ h
 refine⟨sF0 vs,?_,h1⟩
 have he:results fn a.tmps=(do let vs ←fn.results.mapM (so0 a.tmps);pure (if h:vs.size=1 then vs[0] else .tuple vs)):=by
  unfold results
  congr 1
 rw[he,Array.mapM_eq_mapM_toList]
 simp only[bind_map_left]
 rw[Sem.run_bind,h2]
 simp only[Result.andThen_ok]
 show Result.ok (if h:vs.toArray.size=1 then vs.toArray[0] else .tuple vs.toArray) w=_
 rw[aJ0]
theorem uu0(l:List Value):∀(k t:Nat) (x:AV),look (inits k l) t=some x→k≤t∧∃v,x = .val v∧l[t-k]? = some v:=by
 induction l with
 | nil=>intro k t x h;simp [inits,look] at h
 | cons v l ih =>
  intro k t x h
  unfold inits at h
  rw[yF] at h
  split at h
  ·rename_i e
   subst e
   simp only[Option.some.injEq] at h
   exact⟨Nat.le_refl _,v,h.symm,by simp⟩
  ·rename_i e
   obtain⟨h1,u,h2,h3⟩:=ih _ _ _ h
   refine⟨by omega,u,h2,?_⟩
   rw[show t-k=(t-(k+1))+1 by omega]
   simpa using h3
theorem jM{P:Program}{f:FuncId}{fn:Func}{c:Code}{dead:List Nat}{pl:ga0}{args:List Value}{w:World}{K:Value→World→Prop}(hf:P.funcs[f]? = some fn)(hb:fn.body=some c)
  (h:FN P fn c dead pl args w K):Calls P f args.toArray w (EP K):=by
 unfold FN at h
 cases hle:Nat.ble args.length fn.ntmps with
 | false=>rw[hle] at h;exact h.elim
 | true =>
  rw[hle] at h
  have hle:=Nat.le_of_ble_eq_true hle
  refine calls_of_wp hf hb ?_
  have fits:Fits fn.ntmps (inits 0 args) { tmps:=args.toArray++Array.replicate (fn.ntmps-args.toArray.size) undef,defers:=[] }:=by
   refine⟨rfl,by simp;omega,fun t x hx=>?_⟩
   obtain⟨_,v,rfl,hv⟩:=uu0 _ _ _ _ hx
   have hv:args[t]? = some v:=by simpa using hv
   have hlt:t<args.length:=by
    rcases Nat.lt_or_ge t args.length with h | h
    ·exact h
    ·simp [List.getElem?_eq_none h] at hv
   rw[Array.getElem?_append_left (by simpa using hlt)]
   simpa [AV.v] using hv
  refine Code.wp_mono (fun e a w' hq=>?_) (TB0 c _ _ _ _ w h fits)
  cases e with
  | normal =>
   obtain⟨_,r,hfr,hh⟩:=hq
   obtain⟨v,h1,h2⟩:=Gf0 (K:=fun v=>K v w') hfr hh
   exact⟨hfr.defers,v,h1,h2⟩
  | ret =>
   obtain⟨_,r,hfr,hh⟩:=hq
   obtain⟨v,h1,h2⟩:=Gf0 (K:=fun v=>K v w') hfr hh
   exact⟨hfr.defers,v,h1,h2⟩
  | exit id=>obtain⟨_,r,hfr,hh⟩:=hq;exact hh.elim
  | goto l=>obtain⟨_,r,hfr,hh⟩:=hq;exact hh.elim
  | panic c=>exact hq.elim
  | outgrown=>exact hq.elim
end Go.Proofs.YtngbebnhegcokaaGreatDoor
namespace Go.Proofs.YtngbebnhegcokaaGreatDoor
open Go.Proofs.Tryz (prog)
def vN(s:Sem Value):Sem Next:=do pure (.value (←s))
def uN(s:Sem Unit):Sem Next:=do s;pure .skip
def Y3(op:BinOp)(T:TypeId)(xo yo:Operand)(x y:Value):Sem Next:=vN (do eqGuard op T xo yo x y;binOp op T x y)
def sUn(op:UnOp)(x:Value):Sem Next:=vN (Op.unary op x)
def X0(T:TypeId)(a:Value):Sem Next:=vN (Instr.loadAt T a)
def F4(T:TypeId)(a v:Value):Sem Next:=uN (Instr.storeAt T a v)
def X4(x:Value):Sem Next:=execOp (fun _=>x) ⟨none,.nilCheck (.tmp 0),0, "",#[],none⟩
def jv0(T:TypeId)(x:Value)(f:Nat):Sem Next:=vN (Instr.field T x f)
def O0(T:TypeId)(x:Value)(f:Nat):Sem Next:=vN (Instr.fieldAt T x f)
def Y4(T:TypeId)(x i:Value):Sem Next:=vN (Instr.indexAt T x i)
def RZ(T:TypeId)(x i:Value):Sem Next:=vN (Instr.index T x i)
def R5(t:Value)(i:Nat):Sem Next:=vN (Instr.extract t i)
def d9(T:TypeId)(x:Value)(lo hi mx:Option Value):Sem Next:=vN (Instr.sliceAt T x lo hi mx)
def I7(T:TypeId):Sem Next:=vN (Instr.alloc T true (.tuple #[]))
def yC(T:TypeId)(v:Value):Sem Next:=vN (Instr.box T v)
def G6(T:TypeId)(ps:Array (Nat×Value)):Sem Next:=vN (Instr.build T ps)
def P6(T:TypeId)(n:Nat)(ps:Array (Nat×Value)):Sem Next:=vN (Instr.buildSlice T n ps)
def iU(S D:TypeId)(x:Value):Sem Next:=vN (convert S D x)
def iG(fn:Fn)(a b:Array Value):Sem Next:=vN (Instr.makeFunc fn a b)
def Aj0(T:TypeId)(r:Option Value):Sem Next:=vN (Instr.makeMap T r)
def IQ(T:TypeId)(l c:Value):Sem Next:=vN (Instr.makeSlice T l c)
def lK(T:TypeId)(x i:Value)(ok:Bool):Sem Next:=vN (Instr.lookup T x i ok)
def tY(T:TypeId)(m k x:Value):Sem Next:=uN (Instr.mapUpdate T m k x)
def uo0(it:Value):Sem Next:=vN (Instr.entry it)
def km0(T:TypeId)(m k:Value):Sem Next:=vN (Instr.mapEntry T m k)
def Kf0(T:TypeId)(m s x:Value):Sem Next:=uN (Instr.entryStore T m s x)
def vo0(T:TypeId)(x:Value):Sem Next:=vN (Instr.range T x)
def Gx0(it:Value)(s:Bool)(T:TypeId):Sem Next:=vN (Instr.next it s T)
def Z0(f:FuncId)(args:Array Value):Sem Next:=callFunc f args
def aA(v:Value)(args:Array Value):Sem Next:=do let d ←Deferred.ofValue v args;invoke d.target d.args
def J5(b:Builtin)(ts:Array TypeId)(T:TypeId)(cs:Array Bool)(args:Array Value):Sem Next:=builtin b ts T cs args
def WS(fn:Func):Code:=match fn.body with
 | some c=>c
 | none => .skip
theorem VH{P:Program}{f:FuncId}{fn:Func}{args:Array Value}{w:World}{K:PtK}(hf:P.funcs[f]? = some fn)
  (hb:fn.body.isNone=false) (hn:(fn.name == "runtime.NumGoroutine")=false) (h:Calls P f args w (EP K)):upK P (Z0 f args) w K:=by
 unfold upK Z0 callFunc
 have:(program).run P w = .ok P w:=rfl
 rw[Sem.run_bind,this]
 simp only[Result.andThen_ok,hf,hn,hb,Bool.false_eq_true,if_false]
 exact h
end Go.Proofs.YtngbebnhegcokaaGreatDoor
namespace Go.Proofs.YtngbebnhegcokaaGreatDoor
open Go.Proofs.Tryz (prog)
open Go.RowKit
theorem cy0(w:World):tick w=w.drew:=rfl
structure Step (T:Nat→Prop) (c:Nat→Nat) (w:World) (c':Nat→Nat) (w':World):Prop where
 os:w'.os=w.os
 tape:w'.tape=w.tape
 output:w'.output=w.output
 size:w.heap.size≤w'.heap.size
 old:∀k,k<w.heap.size→c' k=c k
 same:∀k,k<w.heap.size→¬T (c k)→w'.heap[k]? = w.heap[k]?
def only(t:Nat):Nat→Prop:=fun x=>x=t
def two(t u:Nat):Nat→Prop:=fun x=>x=t∨x=u
def nobody:Nat→Prop:=fun _=>False
def jG(c:Nat→Nat)(s n:Nat):Nat→Nat:=fun k=>if k<s then c k else n
section
variable {T T':Nat→Prop} {c c' c1 c2:Nat→Nat} {w w' w1 w2:World} {t u n:Nat}
theorem Step.refl(T:Nat→Prop)(c:Nat→Nat)(w:World):Step T c w c w :=
 ⟨rfl,rfl,rfl,Nat.le_refl _,fun _ _=>rfl,fun _ _ _=>rfl⟩
theorem Step.trans(h:Step T c w c1 w1)(h':Step T c1 w1 c2 w2):Step T c w c2 w2:=by
 refine⟨h'.os.trans h.os,h'.tape.trans h.tape,h'.output.trans h.output,Nat.le_trans h.size h'.size,fun k hk=>?_,fun k hk ht=>?_⟩
 ·rw[h'.old k (Nat.lt_of_lt_of_le hk h.size),h.old k hk]
 ·rw[h'.same k (Nat.lt_of_lt_of_le hk h.size) (by rw[h.old k hk];exact ht),h.same k hk ht]
theorem Step.mono(h:Step T c w c' w')(hT:∀x,T x→T' x):Step T' c w c' w' :=
 ⟨h.os,h.tape,h.output,h.size,h.old,fun k hk ht=>h.same k hk fun hh=>ht (hT _ hh)⟩
theorem Step.none(h:Step nobody c w c' w'):Step T c w c' w':=h.mono fun _ h=>h.elim
theorem Step.tick(T:Nat→Prop)(c:Nat→Nat)(w:World):Step T c w c (tick w) :=
 ⟨rfl,rfl,rfl,Nat.le_refl _,fun _ _=>rfl,fun _ _ _=>rfl⟩
theorem Step.alloc(T:Nat→Prop)(c:Nat→Nat)(w:World)(n:Nat)(o:Obj):Step T c w (jG c w.heap.size n) (w.alloc o) :=
 ⟨rfl,rfl,rfl,by simp,fun k hk=>by simp [jG,hk],fun k hk _=>Below.heap_alloc w o k hk⟩
theorem Step.below(h:Step T c w c' w')(h0:∀k,k<w.heap.size→¬T (c k)):Below w.heap.size w w' :=
 ⟨h.os,h.tape,h.output,h.size,fun k hk=>h.same k hk (h0 k hk)⟩
def Blk(c:Nat→Nat)(t:Nat)(w:World)(b:Nat)(E:TypeId)(cs:Array Value):Prop:=c b=t∧w.heap[b]? = some (.cells cs E (0,0))
theorem Blk.lt{b E cs}(h:Blk c t w b E cs):b<w.heap.size:=(Array.getElem?_eq_some_iff.1 h.2).1
theorem Blk.frame{b E cs}(h:Blk c t w b E cs)(s:Step T c w c' w')(ht:¬T t):Blk c' t w' b E cs :=
 ⟨(s.old b h.lt).trans h.1,(s.same b h.lt (by rw[h.1];exact ht)).trans h.2⟩
theorem Blk.tick{b E cs}(h:Blk c t w b E cs):Blk c t (Go.Proofs.YtngbebnhegcokaaGreatDoor.tick w) b E cs:=h
theorem Blk.cell{b E cs}(h:Blk c t w b E cs){o:Nat}{v:Value}(hv:cs[o]? = some v):w.cell? ⟨b,o,none⟩=some v:=by
 simp only[World.cell?,h.2]
 simpa using hv
theorem Blk.free{b E cs}(h:Blk c t w b E cs)(o:Nat):w.frozen? ⟨b,o,none⟩=false:=by
 simp [World.frozen?,h.2]
theorem Blk.alloc{n:Nat}(c:Nat→Nat)(w:World)(E:TypeId)(cs:Array Value):Blk (jG c w.heap.size n) n (w.alloc (.cells cs E)) w.heap.size E cs :=
 ⟨by simp [jG],heap_alloc_new w _⟩
theorem Blk.set{b E cs}(h:Blk c t w b E cs)(o:Nat)(v:Value):Blk c t (w.setCell ⟨b,o,none⟩ v) b E (cs.setIfInBounds o v):=by
 refine⟨h.1,?_⟩
 simp [World.setCell,Array.getElem?_modify,h.2]
theorem Blk.step{b E cs}(h:Blk c t w b E cs)(o:Nat)(v:Value):Step (only t) c w c (w.setCell ⟨b,o,none⟩ v) :=
 ⟨rfl,rfl,rfl,by simp [World.setCell],fun _ _=>rfl,
  fun k hk hT=>Below.heap_setCell w ⟨b,o,none⟩ v k (by rintro rfl;exact hT h.1)⟩
theorem Blk.setRow{b E cs}(h:Blk c t w b E cs)(ds:Array Value):Blk c t (w.setRow b ds) b E ds:=by
 refine⟨h.1,?_⟩
 have hlt:=h.lt
 simp [World.setRow,Array.getElem?_modify,h.2]
theorem Blk.uc0{b E cs}(h:Blk c t w b E cs)(ds:Array Value):Step (only t) c w c (w.setRow b ds):=by
 refine⟨rfl,rfl,rfl,by simp [World.setRow],fun _ _=>rfl,fun k hk hT=>?_⟩
 have:k≠b:=by rintro rfl;exact hT h.1
 simp only[World.setRow,Array.getElem?_modify]
 rw[if_neg (fun e=>this e.symm)]
def Cells(c:Nat→Nat)(t:Nat)(w:World)(g o:Nat)(xs:List Value):Prop :=
 c g=t∧g<w.heap.size∧∀j v,xs[j]? = some v→w.cell? ⟨g,o+j,none⟩=some v
theorem Cells.frame{g o xs}(h:Cells c t w g o xs)(s:Step T c w c' w')(ht:¬T t):Cells c' t w' g o xs:=by
 refine⟨(s.old g h.2.1).trans h.1,Nat.lt_of_lt_of_le h.2.1 s.size,fun j v hv=>?_⟩
 rw[World.cell?_of_block (w:=w) (s.same g h.2.1 (by rw[h.1];exact ht))]
 exact h.2.2 j v hv
theorem Blk.cells{b E cs}(h:Blk c t w b E cs):Cells c t w b 0 cs.toList :=
 ⟨h.1,h.lt,fun j v hv=>by rw[Nat.zero_add];exact h.cell (by simpa using hv)⟩
theorem Cells.drop{g o xs}(h:Cells c t w g o xs)(k:Nat):Cells c t w g (o+k) (xs.drop k) :=
 ⟨h.1,h.2.1,fun j v hv=>by rw[Nat.add_assoc];exact h.2.2 (k+j) v (by rw[List.getElem?_drop] at hv;exact hv)⟩
theorem Cells.take{g o xs}(h:Cells c t w g o xs)(k:Nat):Cells c t w g o (xs.take k) :=
 ⟨h.1,h.2.1,fun j v hv=>h.2.2 j v (by rw[List.getElem?_take] at hv;split at hv;exact hv;cases hv)⟩
end
class Enc (α:Type) where
 sz:Nat
 cells:α→List Value
 val:α→Value
 pos:0<sz
 len:∀a,(cells a).length=sz
 one:∀a,∀v∈cells a,v.oneCell'=true
 cells_val:∀a,(val a).cells=(cells a).toArray
def flat{α:Type}[Enc α](l:List α):List Value:=l.flatMap Enc.cells
section
variable {α:Type} [Enc α] {T:Nat→Prop} {c c':Nat→Nat} {w w':World} {t u:Nat}
theorem M7(l:List α):(flat l).length=l.length * Enc.sz α:=by
 induction l with
 | nil=>simp [flat]
 | cons a l ih =>
  have:flat (a :: l)=Enc.cells a++flat l:=by simp [flat]
  rw[this,List.length_append,ih,Enc.len,List.length_cons,Nat.add_mul,Nat.one_mul,Nat.add_comm]
theorem sF(l m:List α):flat (l++m)=flat l++flat m:=by simp [flat]
theorem pI(a:α)(l:List α):flat (a :: l)=Enc.cells a++flat l:=by simp [flat]
theorem oi0(l:List α):∀v∈flat l,v.oneCell'=true:=by
 intro v hv
 obtain⟨a,_,h⟩:=List.mem_flatMap.1 hv
 exact Enc.one a v h
theorem uL(l:List α)(k:Nat):(flat l).drop (k * Enc.sz α)=flat (l.drop k):=by
 induction k generalizing l with
 | zero=>simp
 | succ k ih =>
  cases l with
  | nil=>simp [flat]
  | cons a l =>
   rw[pI,List.drop_succ_cons,←ih l,Nat.add_mul,Nat.one_mul,Nat.add_comm,←List.drop_drop]
   congr 1
   rw[List.drop_append_of_le_length (by rw[Enc.len];exact Nat.le_refl _),List.drop_of_length_le (by rw[Enc.len];exact Nat.le_refl _),List.nil_append]
theorem wF(l:List α)(k:Nat):(flat l).take (k * Enc.sz α)=flat (l.take k):=by
 induction k generalizing l with
 | zero=>simp [flat]
 | succ k ih =>
  cases l with
  | nil=>simp [flat]
  | cons a l =>
   rw[pI,List.take_succ_cons,pI,←ih l,Nat.add_mul,Nat.one_mul,Nat.add_comm,List.take_append]
   rw[List.take_of_length_le (by rw[Enc.len];omega),Enc.len]
   congr 2
   omega
theorem flat_get{l:List α}{i:Nat}(hi:i<l.length){f:Nat}{v:Value}(hv:(Enc.cells l[i])[f]? = some v):(flat l)[i * Enc.sz α+f]? = some v:=by
 have h1:=uL l i
 rw[←List.getElem?_drop,h1,List.drop_eq_getElem_cons hi,pI]
 rw[List.getElem?_append_left (by
  rcases Nat.lt_or_ge f (Enc.cells l[i]).length with h | h
  ·exact h
  ·rw[List.getElem?_eq_none h] at hv;cases hv)]
 exact hv
def kN(c:Nat→Nat)(t:Nat)(w:World)(v:Value)(l:List α):Prop :=
 ∃a cap,v = .slice a l.length cap∧l.length≤cap∧(l=[]∨∃g o,a=some ⟨g,o,none⟩∧Cells c t w g o (flat l))
def nC(c:Nat→Nat)(t:Nat)(w:World)(E:TypeId)(v:Value)(l:List α):Prop :=
 w.ownsRow 0 E (Enc.sz α) v l.length (flat l)∧∀g,v.ownBlock=some g→c g=t
theorem kN.frame{v:Value}{l:List α}(h:kN c t w v l)(s:Step T c w c' w')(ht:¬T t):kN c' t w' v l:=by
 obtain⟨a,cap,rfl,hc,h⟩:=h
 refine⟨a,cap,rfl,hc,?_⟩
 rcases h with h | ⟨g,o,rfl,h⟩
 ·exact .inl h
 ·exact .inr ⟨g,o,rfl,h.frame s ht⟩
theorem nC.frame{v:Value}{l:List α}{E:TypeId}(h:nC c t w E v l)(s:Step T c w c' w')(ht:¬T t):nC c' t w' E v l:=by
 obtain⟨⟨h1,h2⟩,h3⟩:=h
 rcases h2 with⟨rfl,h2⟩ | ⟨g,cap,cur,rfl,hb,hg,hr⟩
 ·exact⟨⟨h1,.inl ⟨rfl,h2⟩⟩,fun g hg=>by simp [Value.ownBlock] at hg⟩
 ·have hb':Blk c t w g E cur:=⟨h3 g rfl,hg⟩
  have:=hb'.frame s ht
  refine⟨⟨h1,.inr ⟨g,cap,cur,rfl,hb,this.2,hr⟩⟩,fun g' hg'=>?_⟩
  simp [Value.ownBlock] at hg'
  subst hg'
  exact this.1
theorem nC.nil(c:Nat→Nat)(t:Nat)(w:World)(E:TypeId):nC c t w E (.slice none 0 0) ([]:List α) :=
 ⟨World.ownsRow_nil w 0 E _,fun g hg=>by simp [Value.ownBlock] at hg⟩
theorem nC.cases{v:Value}{l:List α}{E:TypeId}(h:nC c t w E v l) :
  (v = .slice none 0 0∧l=[])∨∃g cap cur,v = .slice (some ⟨g,0,none⟩) l.length cap∧Blk c t w g E cur∧l.length≤cap∧cap≤maxLen∧cur.size=cap * Enc.sz α∧cur.toList.take (l.length * Enc.sz α)=flat l:=by
 obtain⟨⟨h1,h2⟩,h3⟩:=h
 rcases h2 with⟨rfl,h2⟩ | ⟨g,cap,cur,rfl,hb,hg,hr1,hr2,hr3,hr4⟩
 ·exact .inl ⟨rfl,List.eq_nil_of_length_eq_zero h2⟩
 ·exact .inr ⟨g,cap,cur,rfl,⟨h3 g rfl,hg⟩,hr1,hr2,hr3,hr4⟩
theorem nC.mk_{l:List α}{E:TypeId}{g n cap:Nat}{cur:Array Value}(hb:Blk c t w g E cur)(hn:n=l.length)(h1:n≤cap)(h2:cap≤maxLen)(h3:cur.size=cap * Enc.sz α)(h4:cur.toList.take (n * Enc.sz α)=flat l) :
  nC c t w E (.slice (some ⟨g,0,none⟩) n cap) l:=by
 subst hn
 refine⟨⟨by rw[M7],.inr ⟨g,cap,cur,rfl,Nat.zero_le _,hb.2,h1,h2,h3,h4⟩⟩,fun g' hg=>?_⟩
 simp [Value.ownBlock] at hg
 subst hg
 exact hb.1
theorem nC.slice{v:Value}{l:List α}{E:TypeId}(h:nC c t w E v l):∃a cap,v = .slice a l.length cap∧l.length≤cap:=by
 rcases h.cases with⟨rfl,rfl⟩ | ⟨g,cap,cur,rfl,_,h,_⟩
 ·exact⟨none,0,rfl,Nat.le_refl _⟩
 ·exact⟨_,cap,rfl,h⟩
theorem nC.read{v:Value}{l:List α}{E:TypeId}(h:nC c t w E v l):kN c t w v l:=by
 rcases h.cases with⟨rfl,rfl⟩ | ⟨g,cap,cur,rfl,hb,hc,_,hs,ht⟩
 ·exact⟨none,0,rfl,Nat.le_refl _,.inl rfl⟩
 ·refine⟨_,cap,rfl,hc,.inr ⟨g,0,rfl,?_⟩⟩
  rw[←ht]
  exact hb.cells.take _
theorem kN.len{v:Value}{l:List α}(h:kN c t w v l):∃a cap,v = .slice a l.length cap:=by
 obtain⟨a,cap,h,_⟩:=h
 exact⟨a,cap,h⟩
theorem kN.tick{v:Value}{l:List α}(h:kN c t w v l):kN c t (Go.Proofs.YtngbebnhegcokaaGreatDoor.tick w) v l:=h.frame (Step.tick nobody c w) (fun h=>h)
theorem nC.tick{v:Value}{l:List α}{E:TypeId}(h:nC c t w E v l):nC c t (Go.Proofs.YtngbebnhegcokaaGreatDoor.tick w) E v l:=h.frame (Step.tick nobody c w) (fun h=>h)
end
section
variable {P:Program} {K:Value→Prop} {w:World}
theorem V4{s:Sem Next}{v:Value}(h:∀w,s.run P w = .ok (.value v) w):M0 P s K=K v :=
 propext ⟨fun⟨u,h1,h2⟩=>by
  have e1:=h1 default
  rw[h default] at e1
  injection e1 with e1
  injection e1 with e1
  exact e1 ▸ h2,fun h2=>⟨v,h,h2⟩⟩
theorem FQ{s:Sem Next}{v:Value}(h:s.run P w = .ok (.value v) w):Y0 P s w K=K v :=
 propext ⟨fun⟨u,h1,h2⟩=>by
  rw[h] at h1
  injection h1 with e1
  injection e1 with e1
  exact e1 ▸ h2,fun h2=>⟨v,h,h2⟩⟩
theorem V9{s:Sem Value}{v:Value}{w':World}(h:s.run P w = .ok v w'):(vN s).run P w = .ok (.value v) w':=by
 unfold vN
 rw[Sem.run_bind,h]
 rfl
theorem So0{s:Sem Unit}{w':World}(h:s.run P w = .ok () w'):(uN s).run P w = .ok .skip w':=by
 unfold uN
 rw[Sem.run_bind,h]
 rfl
theorem Q5{b:Bool}{A B:Prop}:ifB (.bool b) A B=((b=true→A)∧(b=false→B)) :=
 propext ⟨fun⟨c,e,h⟩=>by
  injection e with e
  subst e
  cases b<;>exact⟨fun hb=>by simp_all,fun hb=>by simp_all⟩,fun⟨h1,h2⟩=>⟨b,rfl,by cases b;exact h2 rfl;exact h1 rfl⟩⟩
theorem VC{A B:Prop}:ifB (.bool true) A B=A:=by rw[Q5];simp
theorem t_{A B:Prop}:ifB (.bool false) A B=B:=by rw[Q5];simp
theorem K3{p:Prop}[Decidable p]{A B:Prop}:ifB (.bool (decide p)) A B=((p→A)∧(¬p→B)):=by rw[Q5];simp
theorem K5{b:Bool}{A B:Prop}:ifB (.bool (!b)) A B=ifB (.bool b) B A:=by
 rw[Q5,Q5];cases b<;>simp
variable {T:TypeId} {xo yo:Operand} {k:IntKind} {a b:Int} {s t:ByteArray} {p q:Bool}
theorem V5:M0 P (Y3 .add T xo yo (.int k a) (.int k b)) K=K (.int k (k.wrap (a+b))):=V4 fun w=>by cases k<;>rfl
theorem eF:M0 P (Y3 .sub T xo yo (.int k a) (.int k b)) K=K (.int k (k.wrap (a-b))):=V4 fun w=>by cases k<;>rfl
theorem dw0:M0 P (Y3 .mul T xo yo (.int k a) (.int k b)) K=K (.int k (k.wrap (a * b))):=V4 fun w=>by cases k<;>rfl
theorem ew0(h:b≠0):M0 P (Y3 .quo T xo yo (.int k a) (.int k b)) K=K (.int k (k.wrap (a.tdiv b))):=V4 fun w=>by
 have:(Op.intDiv .quo k a b:Sem Value)=pure (.int k (k.wrap (a.tdiv b))):=by simp [Op.intDiv,h]
 cases k<;>(show (vN (Op.intDiv .quo _ a b)).run P w=_;rw[this];rfl)
theorem gw0(h:b≠0):M0 P (Y3 .rem T xo yo (.int k a) (.int k b)) K=K (.int k (a.tmod b)):=V4 fun w=>by
 have:(Op.intDiv .rem k a b:Sem Value)=pure (.int k (a.tmod b)):=by simp [Op.intDiv,h]
 cases k<;>(show (vN (Op.intDiv .rem _ a b)).run P w=_;rw[this];rfl)
theorem D6:M0 P (Y3 .lss T xo yo (.int k a) (.int k b)) K=K (.bool (decide (a<b))):=V4 fun w=>by cases k<;>rfl
theorem gD:M0 P (Y3 .leq T xo yo (.int k a) (.int k b)) K=K (.bool (decide (a≤b))):=V4 fun w=>by cases k<;>rfl
theorem A_:M0 P (Y3 .gtr T xo yo (.int k a) (.int k b)) K=K (.bool (decide (b<a))):=V4 fun w=>by cases k<;>rfl
theorem LD:M0 P (Y3 .geq T xo yo (.int k a) (.int k b)) K=K (.bool (decide (b≤a))):=V4 fun w=>by cases k<;>rfl
theorem O6:M0 P (Y3 .eql T xo yo (.int k a) (.int k b)) K=K (.bool (decide (a=b))):=V4 fun w=>by cases k<;>rfl
theorem X7:M0 P (Y3 .neq T xo yo (.int k a) (.int k b)) K=K (.bool (!decide (a=b))):=V4 fun w=>by cases k<;>rfl
theorem wa0:M0 P (Y3 .and T xo yo (.int k a) (.int k b)) K=K (.int k (k.wrap (BitVec.ofInt k.bits a &&& BitVec.ofInt k.bits b).toNat)):=V4 fun w=>by cases k<;>rfl
theorem sC0:M0 P (Y3 .or T xo yo (.int k a) (.int k b)) K=K (.int k (k.wrap (BitVec.ofInt k.bits a ||| BitVec.ofInt k.bits b).toNat)):=V4 fun w=>by cases k<;>rfl
theorem wg0{j:IntKind}(h:0≤b):M0 P (Y3 .shr T xo yo (.int k a) (.int j b)) K=K (.int k (a.fdiv (2 ^ min b.toNat k.bits))):=V4 fun w=>by
 have:(Op.shift .shr k a j b:Sem Value)=pure (.int k (a.fdiv (2 ^ min b.toNat k.bits))):=by simp [Op.shift,Int.not_lt.2 h]
 show (vN (Op.shift .shr k a j b)).run P w=_
 rw[this];rfl
theorem cH0{j:IntKind}(h:0≤b):M0 P (Y3 .shl T xo yo (.int k a) (.int j b)) K=K (.int k (k.wrap (a * 2 ^ min b.toNat k.bits))):=V4 fun w=>by
 have:(Op.shift .shl k a j b:Sem Value)=pure (.int k (k.wrap (a * 2 ^ min b.toNat k.bits))):=by simp [Op.shift,Int.not_lt.2 h]
 show (vN (Op.shift .shl k a j b)).run P w=_
 rw[this];rfl
theorem zp0:M0 P (Y3 .eql T xo yo (.string s) (.string t)) K=K (.bool (s.toList == t.toList)):=V4 fun w=>rfl
theorem Ap0:M0 P (Y3 .neq T xo yo (.string s) (.string t)) K=K (.bool (!(s.toList == t.toList))):=V4 fun w=>rfl
theorem V8:M0 P (sUn .not (.bool p)) K=K (.bool (!p)):=V4 fun w=>rfl
theorem ZR{op:BinOp}{x y:Value}{v:Value}{w:World}(hg:(eqGuard op T xo yo x y).run P w = .ok () w)(h:(binOp op T x y).run P w = .ok v w):(Y3 op T xo yo x y).run P w = .ok (.value v) w:=by
 unfold Y3
 refine V9 ?_
 rw[Sem.run_bind,hg]
 exact h
theorem uB{x:Addr}(h:P.underlying T=some (.pointer (P.pointee T))):M0 P (Y3 .eql T xo yo (.pointer (some x)) (.pointer none)) K=K (.bool false):=V4 fun w=>ZR rfl (run_eql_pointer_nil w T (some x) h)
theorem EW{x:Addr}(h:P.underlying T=some (.pointer (P.pointee T))):M0 P (Y3 .neq T xo yo (.pointer (some x)) (.pointer none)) K=K (.bool true):=V4 fun w=>ZR rfl (run_neq_pointer_nil w T (some x) h)
theorem run_equalIn_slice_nil(d:Nat){E:TypeId}{x:Option Addr}{n c:Nat}(h:P.underlying T=some (.slice E))(w:World):(Op.equalIn (d+1) T (.slice x n c) (.slice none 0 0)).run P w = .ok x.isNone w:=by
 cases x<;>simp [Op.equalIn,run_underlying h]
theorem EG{E:TypeId}{x:Option Addr}{n c:Nat}(h:P.underlying T=some (.slice E)):M0 P (Y3 .eql T xo yo (.slice x n c) (.slice none 0 0)) K=K (.bool x.isNone):=V4 fun w=>ZR rfl (by
 have:=run_equalIn_slice_nil (P:=P) (T:=T) 9999 (x:=x) (n:=n) (c:=c) h w
 have h2:(Op.equal T (.slice x n c) (.slice none 0 0)).run P w = .ok x.isNone w:=this
 simp only[binOp]
 simp [h2])
theorem y5{x:Addr}:M0 P (X4 (.pointer (some x))) K=K (.pointer (some x)):=V4 fun w=>rfl
theorem h_{u v:Value}:M0 P (R5 (.tuple #[u,v]) 0) K=K u:=V4 fun w=>rfl
theorem Y9{u v:Value}:M0 P (R5 (.tuple #[u,v]) 1) K=K v:=V4 fun w=>rfl
theorem PV{u v x:Value}:M0 P (R5 (.tuple #[u,v,x]) 0) K=K u:=V4 fun w=>rfl
theorem Kg0{u v x:Value}:M0 P (R5 (.tuple #[u,v,x]) 1) K=K v:=V4 fun w=>rfl
theorem Lg0{u v x:Value}:M0 P (R5 (.tuple #[u,v,x]) 2) K=K x:=V4 fun w=>rfl
def Z5(P:Program)(T:TypeId)(f off:Nat):Bool :=
 match P.underlying T with
 | some (.struct fs)=>match fs[f]? with
  | some fd=>fd.offset == off&&(match P.info? fd.type with
   | some i=>i.size != 0
   | none=>false)
  | none=>false
 | _=>false
theorem U0{f off g o:Nat}(h:Z5 P T f off=true):M0 P (O0 T (.pointer (some ⟨g,o,none⟩)) f) K=K (.pointer (some ⟨g,o+off,none⟩)):=V4 fun w=>by
 refine V9 ?_
 unfold Z5 at h
 split at h
 ·rename_i fs hu
  split at h
  ·rename_i fd hf
   simp only[Bool.and_eq_true,beq_iff_eq] at h
   obtain⟨rfl,h⟩:=h
   split at h
   ·rename_i i hi
    have hz:i.size≠0:=by simpa using h
    have hadd:(⟨g,o,none⟩:Addr).add fd.offset=⟨g,o+fd.offset,none⟩:=by unfold Addr.add;split<;>simp_all
    simp [Instr.fieldAt,run_underlying hu,hf,Instr.sureAddr,fieldPlace,sizeOf,typeInfo,hi,hz,hadd]
   ·cases h
  ·cases h
 ·cases h
def scB(P:Program)(T:TypeId):Bool :=
 match P.underlying T with
 | some (.struct _)=>false
 | some (.array _ _)=>false
 | some _=>match P.info? T with
  | some i=>i.size == 1
  | none=>false
 | none=>false
def agB(P:Program)(T:TypeId)(n:Nat):Bool :=
 match P.underlying T with
 | some (.struct _)=>match P.info? T with
  | some i=>i.size == n
  | none=>false
 | some (.array _ _)=>match P.info? T with
  | some i=>i.size == n
  | none=>false
 | _=>false
theorem Ci0(h:scB P T=true):(isAgg T).run P w = .ok false w:=by
 unfold scB at h
 split at h
 ·cases h
 ·cases h
 ·rename_i d h1 h2 hu
  unfold isAgg
  rw[Sem.run_bind,run_underlying hu]
  cases d<;>first | rfl | (exact(h1 _ rfl).elim) | (exact(h2 _ _ rfl).elim)
 ·cases h
theorem Rx0(h:scB P T=true):(sizeOf T).run P w = .ok 1 w:=by
 unfold scB at h
 split at h
 ·cases h
 ·cases h
 ·split at h
  ·rename_i i hi
   simp at h
   simp [sizeOf,typeInfo,hi,h]
  ·cases h
 ·cases h
theorem WD0{n:Nat}(h:agB P T n=true):(isAgg T).run P w = .ok true w:=by
 unfold agB at h
 split at h
 ·rename_i fs hu
  unfold isAgg
  rw[Sem.run_bind,run_underlying hu]
  rfl
 ·rename_i fs hu
  unfold isAgg
  rw[Sem.run_bind,run_underlying hu]
  rfl
 ·cases h
theorem Ox0{n:Nat}(h:agB P T n=true):(sizeOf T).run P w = .ok n w:=by
 unfold agB at h
 split at h
 ·split at h
  ·rename_i i hi
   simp at h
   simp [sizeOf,typeInfo,hi,h]
  ·cases h
 ·split at h
  ·rename_i i hi
   simp at h
   simp [sizeOf,typeInfo,hi,h]
  ·cases h
 ·cases h
theorem EX{x:Addr}{v:Value}(h:scB P T=true)(hc:w.cell? x=some v):(X0 T (.pointer (some x))).run P w = .ok (.value v) w:=by
 refine V9 ?_
 unfold Instr.loadAt Instr.sureAddr loadVar
 simp only[pure_bind]
 rw[Sem.run_bind,Ci0 h]
 simp only[Result.andThen_ok,Bool.false_eq_true,if_false]
 simp [load,Sem.run,hc]
theorem Mi0{x:Addr}{v:Value}(h:scB P T=true)(hc:w.cell? x=some v):Y0 P (X0 T (.pointer (some x))) w K=K v:=FQ (EX h hc)
theorem CX{n g o:Nat}{vs:List Value}(h:agB P T n=true)(hn:vs.length=n)(hc:∀j v,vs[j]? = some v→w.cell? ⟨g,o+j,none⟩=some v) :
  (X0 T (.pointer (some ⟨g,o,none⟩))).run P w = .ok (.value (.agg vs.toArray)) w:=by
 refine V9 ?_
 unfold Instr.loadAt Instr.sureAddr loadVar
 simp only[pure_bind]
 rw[Sem.run_bind,WD0 h]
 simp only[Result.andThen_ok,if_true]
 rw[Sem.run_bind,Ox0 h]
 simp only[Result.andThen_ok]
 rw[Sem.run_bind,←hn,run_loadCells_list (P:=P) w ⟨g,o,none⟩ vs (fun j v hv=>by
  have hadd:(⟨g,o,none⟩:Addr).add j=⟨g,o+j,none⟩:=by unfold Addr.add;split<;>simp_all
  rw[hadd];exact hc j v hv)]
 rfl
theorem sK0{n g o:Nat}{vs:List Value}(h:agB P T n=true)(hn:vs.length=n)(hc:∀j v,vs[j]? = some v→w.cell? ⟨g,o+j,none⟩=some v) :
  Y0 P (X0 T (.pointer (some ⟨g,o,none⟩))) w K=K (.agg vs.toArray):=FQ (CX h hn hc)
theorem Od0{U S E:TypeId}{bs:Array Bool}{x:Option Addr}{n c:Nat}(h:P.underlying S=some (.slice E)) :
  Y0 P (J5 .len #[S] U bs #[.slice x n c]) w K=K (.int .i64 n):=FQ (V9 (by
 simp [Builtin.len_,run_underlying h,goInt]))
theorem WC{U S:TypeId}{bs:Array Bool}(h:P.underlying S=some .string) :
  Y0 P (J5 .len #[S] U bs #[.string s]) w K=K (.int .i64 s.size):=FQ (V9 (by
 simp [Builtin.len_,run_underlying h,goInt]))
theorem RH{cs:Array Value}{off:Nat}{v:Value}(h:scB P T=true)(hv:cs[off]? = some v):(part T cs off).run P w = .ok v w:=by
 unfold part
 rw[Sem.run_bind,Ci0 h]
 simp [hv]
def KL0(P:Program)(T:TypeId)(f off:Nat):Bool :=
 match P.underlying T with
 | some (.struct fs)=>match fs[f]? with
  | some fd=>fd.offset == off&&scB P fd.type
  | none=>false
 | _=>false
theorem nq0{f off:Nat}{cs:Array Value}{v:Value}(h:KL0 P T f off=true)(hv:cs[off]? = some v):M0 P (jv0 T (.agg cs) f) K=K v:=V4 fun w=>by
 refine V9 ?_
 unfold KL0 at h
 split at h
 ·rename_i fs hu
  split at h
  ·rename_i fd hf
   simp only[Bool.and_eq_true,beq_iff_eq] at h
   obtain⟨rfl,h⟩:=h
   unfold Instr.field
   rw[Sem.run_bind,run_underlying hu]
   simp only[Result.andThen_ok,hf]
   rw[Sem.run_bind]
   exact RH h hv
  ·cases h
 ·cases h
end
theorem ZU{P:Program}{K:PtK}{w:World}{S D:TypeId}{k k':IntKind}{d:TypeDesc}{n:Int}(hS:P.underlying S=some d)(hD:P.underlying D=some (.int k')) :
  upK P (iU S D (.int k n)) w K=K (.int k' (k'.wrap n)) w:=by
 have hr:(iU S D (.int k n)).run P w = .ok (.value (.int k' (k'.wrap n))) w:=by
  refine V9 ?_
  unfold convert
  rw[Sem.run_bind,run_underlying hS]
  simp only[Result.andThen_ok]
  rw[Sem.run_bind,run_underlying hD]
  rfl
 unfold upK
 rw[hr]
 rfl
section
variable {P:Program} {K:PtK} {w:World} {T:TypeId} {c:Nat→Nat} {t u:Nat}
theorem JC{s:Sem Next}{v:Value}{w':World}(h:s.run P w = .ok (.value v) w')(k:K v w'):upK P s w K:=by
 unfold upK
 rw[h]
 exact k
theorem Dc0{s:Sem Next}{w':World}(h:s.run P w = .ok .skip w')(k:K undef w'):upK P s w K:=by
 unfold upK
 rw[h]
 exact k
theorem Do0{P:Program}(g o:Nat)(E:TypeId)(vs:List Value)(i:Nat)(cur:Array Value)(w:World)(hg:w.heap[g]? = some (.cells cur E (0,0)))(hl:o+i+vs.length≤cur.size)
  (h1:∀v∈vs,v.oneCell'=true):(storeCells ⟨g,o,none⟩ vs i).run P w = .ok () (w.setRow g (cur.toList.take (o+i)++vs++cur.toList.drop (o+i+vs.length)).toArray) :=
 run_storeCells_at P g o E vs i cur w hg hl h1
theorem Ux0{b o:Nat}{E:TypeId}{cs:Array Value}{v:Value}(h:scB P T=true)(hb:Blk c t w b E cs)(ho:o<cs.size)(h1:v.oneCell'=true)
  (k:Blk c t (w.setCell ⟨b,o,none⟩ v) b E (cs.setIfInBounds o v)→Step (only t) c w c (w.setCell ⟨b,o,none⟩ v)→K undef (w.setCell ⟨b,o,none⟩ v)) :
  upK P (F4 T (.pointer (some ⟨b,o,none⟩)) v) w K:=by
 refine Dc0 (w':=w.setCell ⟨b,o,none⟩ v) (So0 ?_) (k (hb.set o v) (hb.step o v))
 have hv:v.cells=#[v]:=by cases v<;>first | rfl | cases h1
 unfold Instr.storeAt Instr.sureAddr storeVar
 simp only[pure_bind]
 rw[Sem.run_bind,Rx0 h]
 simp only[Result.andThen_ok,hv]
 have hc:w.cell? ⟨b,o,none⟩=some cs[o]:=hb.cell (by simp [ho])
 have hf:=hb.free o
 rw[if_neg (by simp)]
 cases v<;>first | (simp [storeCells,store,Sem.run,hc,hf,Addr.add];done) | cases h1
theorem BK0{n b o:Nat}{E:TypeId}{cs ds:Array Value}(h:agB P T n=true)(hb:Blk c t w b E cs)(hn:ds.size=n)(ho:o+n≤cs.size)(h1:∀v∈ds,v.oneCell'=true)
  (k:∀w',Blk c t w' b E (cs.toList.take o++ds.toList++cs.toList.drop (o+n)).toArray→Step (only t) c w c w'→K undef w') :
  upK P (F4 T (.pointer (some ⟨b,o,none⟩)) (.agg ds)) w K:=by
 subst hn
 refine Dc0 (w':=w.setRow b (cs.toList.take o++ds.toList++cs.toList.drop (o+ds.size)).toArray) (So0 ?_) (k _ (hb.setRow _) (hb.uc0 _))
 unfold Instr.storeAt Instr.sureAddr storeVar
 simp only[pure_bind]
 rw[Sem.run_bind,Ox0 h]
 simp only[Result.andThen_ok,Value.cells,ne_eq,not_true,if_false]
 have:=Do0 (P:=P) b o E ds.toList 0 cs w hb.2 (by simpa using ho) (fun v hv=>h1 v (by simpa using hv))
 simpa using this
theorem lL0{v:Value}(k:∀c' w',c'=jG c w.heap.size t→Blk c' t w' w.heap.size T v.cells→Step nobody c w c' w'→K (.pointer (some ⟨w.heap.size,0,none⟩)) w') :
  upK P (yC T v) w K:=by
 refine JC (w':=w.alloc (.cells v.cells T)) (V9 ?_) (k _ _ rfl (Blk.alloc c w T v.cells) (Step.alloc nobody c w t _))
 rfl
theorem dC0{z:Value}(hz:(P.info? T).bind (·.zero)=some z)(k:∀c' w',c'=jG c w.heap.size t→Blk c' t w' w.heap.size T z.cells→Step nobody c w c' w'→K (.pointer (some ⟨w.heap.size,0,none⟩)) w') :
  upK P (I7 T) w K:=by
 refine JC (w':=w.alloc (.cells z.cells T)) (V9 ?_) (k _ _ rfl (Blk.alloc c w T z.cells) (Step.alloc nobody c w t _))
 cases hi:P.info? T with
 | none=>rw[hi] at hz;cases hz
 | some i =>
  rw[hi] at hz
  simp only[Option.bind_some] at hz
  have hzr:(zeroValue T).run P w = .ok z w:=by simp [zeroValue,typeInfo,hi,hz]
  unfold Instr.alloc
  rw[Sem.run_bind,hzr]
  rfl
end
def sliceB(P:Program)(T E:TypeId)(sz by_:Nat):Bool :=
 match P.underlying T with
 | some (.slice E')=>Nat.beq E' E&&(match P.info? E with
  | some i=>Nat.beq i.size sz&&Nat.beq i.bytes by_&&(match i.zero with
   | some z=>Nat.beq z.cells.size sz&&z.cells.toList.all (·.oneCell')
   | none=>false)
  | none=>false)
 | _=>false
theorem v_{P:Program}{T E:TypeId}{sz by_:Nat}(h:sliceB P T E sz by_=true) :
  P.underlying T=some (.slice E)∧∃i z,P.info? E=some i∧i.zero=some z∧i.size=sz∧i.bytes=by_∧z.cells.size=sz:=by
 unfold sliceB at h
 split at h
 ·rename_i E' hu
  simp only[Bool.and_eq_true] at h
  obtain⟨h1,h2⟩:=h
  have:=Nat.eq_of_beq_eq_true h1
  subst this
  refine⟨hu,?_⟩
  split at h2
  ·rename_i i hi
   simp only[Bool.and_eq_true] at h2
   obtain⟨⟨h2,h3⟩,h4⟩:=h2
   split at h4
   ·rename_i z hz
    simp only[Bool.and_eq_true] at h4
    exact⟨i,z,hi,hz,Nat.eq_of_beq_eq_true h2,Nat.eq_of_beq_eq_true h3,Nat.eq_of_beq_eq_true h4.1⟩
   ·cases h4
  ·cases h2
 ·cases h
theorem ov0{P:Program}{T E:TypeId}{sz by_:Nat}(h:sliceB P T E sz by_=true){i:TypeInfo}{z:Value}(hi:P.info? E=some i)(hz:i.zero=some z):∀v∈z.cells.toList,v.oneCell'=true:=by
 unfold sliceB at h
 split at h
 ·rename_i E' hu
  simp only[Bool.and_eq_true] at h
  obtain⟨h1,h2⟩:=h
  have:=Nat.eq_of_beq_eq_true h1
  subst this
  rw[hi] at h2
  dsimp only at h2
  rw[hz] at h2
  simp only[Bool.and_eq_true] at h2
  exact List.all_eq_true.1 h2.2.2
 ·cases h
section
variable {α:Type} [Enc α] {P:Program} {K:PtK} {Kp:Value→Prop} {w:World} {T E:TypeId} {by_:Nat} {c:Nat→Nat} {t u:Nat}
theorem addr_add(g o k:Nat):(⟨g,o,none⟩:Addr).add k=⟨g,o+k,none⟩:=by unfold Addr.add;split<;>simp_all
theorem kN.idx{v:Value}{l:List α}(h:kN c t w v l)(hT:sliceB P T E (Enc.sz α) by_=true){i:Nat}(hi:i<l.length) :
  ∃g o,c g=t∧g<w.heap.size∧(∀{Kp:Value→Prop},M0 P (Y4 T v (.int .i64 i)) Kp=Kp (.pointer (some ⟨g,o,none⟩)))∧(∀j u,(Enc.cells l[i])[j]? = some u→w.cell? ⟨g,o+j,none⟩=some u):=by
 obtain⟨a,cap,rfl,hc,h⟩:=h
 rcases h with rfl | ⟨g,o,rfl,h⟩
 ·simp at hi
 ·obtain⟨hu,i',z,hinfo,hz,hs,hb,hzs⟩:=v_ hT
  refine⟨g,o+i * Enc.sz α,h.1,h.2.1,fun {Kp}=>V4 fun w=>V9 ?_,fun j u hj=>?_⟩
  ·simp [Instr.indexAt,asIntOf,run_underlying hu,sizeOf,typeInfo,hinfo,hs,hi,addr_add]
  ·rw[Nat.add_assoc]
   exact h.2.2 _ _ (flat_get hi hj)
theorem kN.first{v:Value}{l:List α}(h:kN c t w v l):(Builtin.firstCells (Enc.sz α) l.length v).run P w = .ok (flat l).toArray w:=by
 obtain⟨a,cap,rfl,hc,h⟩:=h
 rcases h with rfl | ⟨g,o,rfl,h⟩
 ·cases a with
  | none=>rfl
  | some a=>simp [Builtin.firstCells,loadCells,loadCellsFrom,flat]
 ·unfold Builtin.firstCells
  dsimp only
  rw[←M7]
  exact run_loadCells_list w _ _ fun j v hv=>by rw[addr_add];exact h.2.2 j v hv
theorem kN.lenOf{v:Value}{l:List α}(h:kN c t w v l)(w':World):(Builtin.lenOf v).run P w' = .ok l.length w':=by
 obtain⟨a,cap,rfl,_⟩:=h
 rfl
theorem Te0{v2:Value}{l2:List α}{g n cap:Nat}{cur:Array Value}(hT:sliceB P T E (Enc.sz α) by_=true)(hb:Blk c t w g E cur)(h2:kN c u w v2 l2)(hcap:n+l2.length≤cap)(hsz:cur.size=cap * Enc.sz α){U:TypeId}{bs:Array Bool}
  (k:∀w',Step (only t) c w c w'→Blk c t w' g E (cur.toList.take (n * Enc.sz α)++flat l2++cur.toList.drop ((n+l2.length) * Enc.sz α)).toArray→K (.slice (some ⟨g,0,none⟩) (n+l2.length) cap) w') :
  upK P (J5 .append #[T,T] U bs #[.slice (some ⟨g,0,none⟩) n cap,v2]) w K:=by
 obtain⟨hu,i,z,hinfo,hz,hs,hby,hzs⟩:=v_ hT
 have hfit:n * Enc.sz α+(flat l2).length≤cur.size:=by rw[M7,hsz,←Nat.add_mul];exact Nat.mul_le_mul_right _ hcap
 have hst:=run_storeCells_at P g (n * Enc.sz α) E (flat l2) 0 cur w hb.2 (by simpa using hfit) (oi0 l2)
 refine JC (w':=w.setRow g (cur.toList.take (n * Enc.sz α)++flat l2++cur.toList.drop ((n+l2.length) * Enc.sz α)).toArray) (V9 ?_) (k _ (hb.uc0 _) (hb.setRow _))
 simp only[Nat.add_zero,M7,←Nat.add_mul] at hst
 simp [Builtin.append_,run_underlying hu,sizeOf,typeInfo,hinfo,hs,h2.lenOf w,hcap,h2.first,addr_add,hst]
theorem Se0{v v2:Value}{l l2:List α}(hT:sliceB P T E (Enc.sz α) by_=true){a:Option Addr}{cap:Nat}(hv:v = .slice a l.length cap)(h1:kN c u w v l){u2:Nat}(h2:kN c u2 w v2 l2)(hcap:cap<l.length+l2.length)
  (hbytes:(l.length+l2.length) * by_≤140737488355328) (h63:l.length+l2.length≤140737488355328) {U:TypeId} {bs:Array Bool}
  (k:∀c' v' w',Step nobody c w c' w'→nC c' t w' E v' (l++l2)→K v' w'):upK P (J5 .append #[T,T] U bs #[v,v2]) w K:=by
 obtain⟨hu,i,z,hinfo,hz,hs,hby,hzs⟩:=v_ hT
 subst hv
 have hn:¬(l.length+l2.length≤cap):=by omega
 have h63':¬(9223372036854775807<((l.length:Int)+(l2.length:Int))):=by omega
 have h48:Builtin.nextslicecap (l.length+l2.length) cap * by_≤281474976710656:=growslice_fits (by omega) hbytes
 have h48':¬(281474976710656<Builtin.nextslicecap (l.length+l2.length) cap * by_):=by omega
 have hge:=grownCap_ge w (l.length+l2.length) cap E
 have hmx:=grownCap_le_maxLen w (l.length+l2.length) cap E (by unfold maxLen;omega)
 have hrun:(Builtin.append_ #[T,T] U #[.slice a l.length cap,v2]).run P w =
   .ok (.slice (some ⟨w.heap.size,0,none⟩) (l.length+l2.length) (grownCap w (l.length+l2.length) cap E))
    (w.drew.alloc (.cells ((flat l).toArray++(flat l2).toArray++Builtin.zeroCells z.cells (grownCap w (l.length+l2.length) cap E-(l.length+l2.length))) E)):=by
  have f1:=(h1.tick).first (P:=P)
  have f2:=(h2.tick).first (P:=P)
  rw[cy0] at f1 f2
  simp [Builtin.append_,run_underlying hu,sizeOf,typeInfo,hinfo,hs,h2.lenOf w,hn,h63',hby,h48',f1,f2,grownCap,Question.forced,zeroValue,hz,newRow]
  congr 2
  apply Array.ext'
  simp [List.append_assoc]
 refine JC (V9 hrun) (k (jG c w.heap.size t) _ _ ?_ ?_)
 ·exact(Step.tick nobody c w).trans (Step.alloc nobody c w.drew t _)
 ·refine⟨⟨by rw[M7],.inr ⟨w.heap.size,_,_,by rw[List.length_append],Nat.zero_le _,heap_alloc_new w.drew _,by rw[List.length_append];exact hge,hmx,?_,?_⟩⟩,fun g hg=>?_⟩
  ·simp only[Array.size_append,List.size_toArray,size_zeroCells,hzs,M7,←Nat.add_mul]
   congr 1
   omega
  ·simp only[Array.toList_append,List.append_assoc]
   rw[←List.append_assoc,←sF,List.length_append,←List.length_append,←M7]
   exact List.take_left
  ·simp [Value.ownBlock] at hg
   subst hg
   simp [jG]
theorem tt0{v v2:Value}{l l2:List α}(hT:sliceB P T E (Enc.sz α) by_=true)(h:nC c t w E v l)(h2:kN c u w v2 l2)
  (hbytes:(l.length+l2.length) * by_≤140737488355328) (h63:l.length+l2.length≤140737488355328) {U:TypeId} {bs:Array Bool}
  (k:∀c' v' w',Step (only t) c w c' w'→nC c' t w' E v' (l++l2)→K v' w'):upK P (J5 .append #[T,T] U bs #[v,v2]) w K:=by
 have grow:∀a cap,v = .slice a l.length cap→cap<l.length+l2.length→upK P (J5 .append #[T,T] U bs #[v,v2]) w K:=fun a cap hv hc =>
  Se0 (t:=t) hT hv h.read h2 hc hbytes h63 fun c' v' w' s r=>k c' v' w' s.none r
 rcases h.cases with⟨rfl,rfl⟩ | ⟨g,cap,cur,rfl,hb,hc,hm,hs,htk⟩
 ·cases l2 with
  | cons x l2=>exact grow none 0 rfl (by simp)
  | nil =>
   obtain⟨hu,i,z,hinfo,hz,hsz,hby,hzs⟩:=v_ hT
   refine JC (v := .slice none 0 0) (w':=w) (V9 ?_) (k c _ w (Step.refl _ c w) (nC.nil c t w E))
   have f:=h2.first (P:=P)
   have l0:=h2.lenOf (P:=P) w
   simp only[List.length_nil] at f l0
   simp [Builtin.append_,run_underlying hu,sizeOf,typeInfo,hinfo,hsz,l0,f]
 ·by_cases hroom:l.length+l2.length≤cap
  ·refine Te0 hT hb h2 hroom hs fun w' s hb'=>k c _ w' s ?_
   have hlen:l.length * Enc.sz α≤cur.size:=by rw[hs];exact Nat.mul_le_mul_right _ hc
   have hlen2:(l.length+l2.length) * Enc.sz α≤cur.size:=by rw[hs];exact Nat.mul_le_mul_right _ hroom
   refine nC.mk_ hb' (by simp) hroom hm ?_ ?_
   ·simp only[List.size_toArray,List.length_append,List.length_take,List.length_drop,Array.length_toList,M7]
    rw[Nat.add_mul] at hlen2 ⊢
    omega
   ·rw[htk,←sF,←List.length_append,←M7]
    exact List.take_left
  ·exact grow _ cap rfl (by omega)
def Bnd(o:Option Value)(dflt:Nat)(n:Nat):Prop:=(o=none∧n=dflt)∨o=some (.int .i64 n)
theorem Bnd.none{d:Nat}:Bnd none d d := .inl ⟨rfl,rfl⟩
theorem Bnd.some{d n:Nat}:Bnd (some (.int .i64 n)) d n := .inr rfl
theorem QN{a:Option Addr}{len cap lo hi:Nat}{lov hiv:Option Value}(hT:sliceB P T E (Enc.sz α) by_=true)(hlo:Bnd lov 0 lo)(hhi:Bnd hiv len hi)(h1:lo≤hi)(h2:hi≤cap)(w:World) :
  (d9 T (.slice a len cap) lov hiv none).run P w = .ok (.value (.slice (if cap=lo then a else a.map (·.add (lo * Enc.sz α))) (hi-lo) (cap-lo))) w:=by
 obtain⟨hu,i,z,hinfo,hz,hs,hby,hzs⟩:=v_ hT
 refine V9 ?_
 rcases hlo with⟨rfl,rfl⟩ | rfl<;>rcases hhi with⟨rfl,rfl⟩ | rfl <;>
  simp [Instr.sliceAt,Instr.slice,run_underlying hu,Instr.sliceBounds,Instr.sliceBound,asIntOf,h1,h2,sizeOf,typeInfo,hinfo,hs]
theorem slice3{a:Option Addr}{len cap lo hi mx:Nat}(hT:sliceB P T E (Enc.sz α) by_=true)(h1:lo≤hi)(h2:hi≤mx)(h3:mx≤cap) :
  M0 P (d9 T (.slice a len cap) (some (.int .i64 lo)) (some (.int .i64 hi)) (some (.int .i64 mx))) Kp=Kp (.slice (if mx=lo then a else a.map (·.add (lo * Enc.sz α))) (hi-lo) (mx-lo)):=V4 fun w=>by
 obtain⟨hu,i,z,hinfo,hz,hs,hby,hzs⟩:=v_ hT
 refine V9 ?_
 simp [Instr.sliceAt,Instr.slice,run_underlying hu,Instr.sliceBounds,Instr.sliceBound,asIntOf,h1,h2,h3,sizeOf,typeInfo,hinfo,hs]
theorem kN.cut{v:Value}{l:List α}(h:kN c t w v l)(hT:sliceB P T E (Enc.sz α) by_=true){lo hi:Nat}{lov hiv:Option Value}(hlo:Bnd lov 0 lo)(hhi:Bnd hiv l.length hi)(h1:lo≤hi)(h2:hi≤l.length) :
  ∃v',(∀{Kp:Value→Prop},M0 P (d9 T v lov hiv none) Kp=Kp v')∧kN c t w v' ((l.take hi).drop lo):=by
 obtain⟨a,cap,rfl,hc,h⟩:=h
 refine⟨_,fun {Kp}=>V4 fun w=>QN hT hlo hhi h1 (by omega) w,?_⟩
 have hlen:((l.take hi).drop lo).length=hi-lo:=by simp;omega
 refine⟨_,cap-lo,by rw[hlen],by rw[hlen];omega,?_⟩
 rcases h with rfl | ⟨g,o,rfl,h⟩
 ·left;simp
 ·by_cases he:cap=lo
  ·left
   exact List.eq_nil_of_length_eq_zero (by rw[hlen];omega)
  ·right
   refine⟨g,o+lo * Enc.sz α,?_,?_⟩
   ·simp [he,addr_add]
   ·have:=(h.take (hi * Enc.sz α)).drop (lo * Enc.sz α)
    rw[wF,uL] at this
    exact this
theorem cl0{g o n cap:Nat}{cur:Array Value}(hT:sliceB P T E (Enc.sz α) by_=true)(hb:Blk c t w g E cur)(hfit:o+n * Enc.sz α≤cur.size){U:TypeId}{bs:Array Bool}
  (k:∀w' cur',Step (only t) c w c w'→Blk c t w' g E cur'→cur'.size=cur.size→cur'.toList.take o=cur.toList.take o→K (.tuple #[]) w') :
  upK P (J5 .clear #[T] U bs #[.slice (some ⟨g,o,none⟩) n cap]) w K:=by
 obtain⟨hu,i,z,hinfo,hz,hs,hby,hzs⟩:=v_ hT
 by_cases hn:n=0
 ·subst hn
  refine JC (w':=w) (V9 ?_) (k w cur (Step.refl _ c w) hb rfl rfl)
  simp [Builtin.clear_,run_underlying hu]
 ·have hzl:(Builtin.zeroCells z.cells n).toList.length=n * Enc.sz α:=by simp [size_zeroCells,hzs]
  have h1:∀v∈(Builtin.zeroCells z.cells n).toList,v.oneCell'=true:=by
   intro v hv
   have hone:=ov0 hT hinfo hz
   unfold Builtin.zeroCells at hv
   simp only[Array.toList_map,List.mem_map] at hv
   obtain⟨j,hj,rfl⟩:=hv
   have hpos:0<z.cells.size:=by rw[hzs];exact Enc.pos
   have hlt:j % z.cells.size<z.cells.size:=Nat.mod_lt _ hpos
   rw[getElem!_pos z.cells (j % z.cells.size) hlt]
   exact hone _ (by simp)
  have hst:=run_storeCells_at P g o E (Builtin.zeroCells z.cells n).toList 0 cur w hb.2 (by rw[hzl];simpa using hfit) h1
  simp only[Nat.add_zero,hzl] at hst
  refine JC (w':=w.setRow g (cur.toList.take o++(Builtin.zeroCells z.cells n).toList++cur.toList.drop (o+n * Enc.sz α)).toArray) (V9 ?_) (k _ _ (hb.uc0 _) (hb.setRow _) ?_ ?_)
  ·cases n with
   | zero=>exact absurd rfl hn
   | succ n=>simp [Builtin.clear_,run_underlying hu,zeroValue,typeInfo,hinfo,hz,hst]
  ·simp only[List.size_toArray,List.length_append,List.length_take,List.length_drop,Array.length_toList,hzl]
   omega
  ·simp only[List.append_assoc]
   rw[List.take_append_of_le_length (by simp;omega),List.take_take,Nat.min_self]
theorem vZ(hT:sliceB P T E (Enc.sz α) by_=true)(k:∀c' v w',Step nobody c w c' w'→nC c' t w' E v ([]:List α)→v ≠ .slice none 0 0→K v w'):upK P (P6 T 0 #[]) w K:=by
 obtain⟨hu,i,z,hinfo,hz,hs,hby,hzs⟩:=v_ hT
 refine JC (v := .slice (some ⟨w.heap.size,0,none⟩) 0 0) (w':=w.alloc (.cells #[] E)) (V9 ?_) (k (jG c w.heap.size t) _ _ (Step.alloc nobody c w t _) ?_ (by simp))
 ·simp [Instr.buildSlice,run_underlying hu,sizeOf,typeInfo,hinfo,hs,Instr.fill,newRow,show Array.range 0=#[] from by simp]
 ·refine⟨⟨by simp [flat],.inr ⟨w.heap.size,0,#[],rfl,Nat.zero_le _,heap_alloc_new w _,Nat.le_refl _,by unfold maxLen;omega,by simp,by simp [flat]⟩⟩,fun g hg=>?_⟩
  simp [Value.ownBlock] at hg
  subst hg
  simp [jG]
theorem GD0(l:List Value):∀(k:Nat) (cs:Array Value) (i:Nat),k+l.length≤cs.size →
  ((l.zipIdx k).foldl (fun cs (x:Value×Nat)=>cs.setIfInBounds (0+x.2) x.1) cs)[i]? = if k≤i∧i<k+l.length then l[i-k]? else cs[i]? := by
 induction l with
 | nil=>intro k cs i _;simp;intro h1 h2;omega
 | cons v l ih =>
  intro k cs i h
  simp only[List.length_cons] at h
  simp only[List.zipIdx_cons,List.foldl_cons]
  rw[ih (k+1) _ i (by simp;omega)]
  by_cases hik:i=k
  ·subst hik
   simp [show i<cs.size by omega]
   omega
  ·by_cases h1:k+1≤i∧i<k+1+l.length
   ·rw[if_pos h1,if_pos (by simp only[List.length_cons];omega),show i-k=(i-(k+1))+1 by omega,List.getElem?_cons_succ]
   ·rw[if_neg h1,if_neg (by simp only[List.length_cons];omega),Array.getElem?_setIfInBounds_ne (by omega)]
theorem lD0(place:Nat→Option (Nat×Nat))(cells:Array Value)(v:Value)(hp:place 0=some (0,v.cells.size))(hs:cells.size=v.cells.size):Instr.fill place cells [(0,v)]=some v.cells:=by
 unfold Instr.fill
 simp only[hp]
 rw[if_neg (by simp [hs])]
 unfold Instr.fill
 congr 1
 apply Array.ext_getElem?
 intro i
 rw[←Array.foldl_toList,Array.toList_zipIdx]
 have:=GD0 v.cells.toList 0 cells i (by simp [hs])
 rw[this]
 split
 ·simp
 ·rename_i h
  rw[Array.getElem?_eq_none,Array.getElem?_eq_none]
  ·simp at h;omega
  ·simp at h;omega
theorem bH(x:α)(hT:sliceB P T E (Enc.sz α) by_=true)(hsz:Enc.sz α≤16777216)(k:∀c' v w',Step nobody c w c' w'→nC c' t w' E v [x]→K v w'):upK P (P6 T 1 #[(0,Enc.val x)]) w K:=by
 obtain⟨hu,i,z,hinfo,hz,hs,hby,hzs⟩:=v_ hT
 have hv:(Enc.val x).cells.size=Enc.sz α:=by rw[Enc.cells_val];simp [Enc.len]
 have hpos:0<Enc.sz α:=Enc.pos
 refine JC (v := .slice (some ⟨w.heap.size,0,none⟩) 1 1) (w':=w.alloc (.cells (Enc.val x).cells E)) (V9 ?_) (k (jG c w.heap.size t) _ _ (Step.alloc nobody c w t _) ?_)
 ·have hf:=lD0 (fun i=>some (i * Enc.sz α,Enc.sz α)) ((Array.range (Enc.sz α)).map (z.cells[· % z.cells.size]!)) (Enc.val x) (by simp [hv]) (by simp [hv])
  simp [Instr.buildSlice,run_underlying hu,sizeOf,typeInfo,hinfo,hs,zeroValue,hz,Nat.not_lt.2 hsz,Nat.ne_of_gt hpos,hf,newRow]
 ·refine⟨⟨by rw[M7],.inr ⟨w.heap.size,1,_,rfl,Nat.zero_le _,heap_alloc_new w _,Nat.le_refl _,by unfold maxLen;omega,by rw[hv];omega,?_⟩⟩,fun g hg=>?_⟩
  ·rw[List.take_of_length_le (by simp [hv]),Enc.cells_val]
   simp [flat]
  ·simp [Value.ownBlock] at hg
   subst hg
   simp [jG]
end
end Go.Proofs.YtngbebnhegcokaaGreatDoor
namespace Go.Proofs.YtngbebnhegcokaaGreatDoor
open Go.Proofs.Tryz (prog)
open Go.ChangeShapes Go.WideShapes Go.ChangeAt Go.RowKit
section
variable {H:Type} {enc:TypeId×Value→H} {P:Program} {W W':World}
theorem Qk0(hl:laidOutB P=true)(hB:Below W.heap.size W W'):∀(ts:List TypeId) (vs:List Value) (ds:List (DataW H)) (ps:List MemPlace),
  (∀t∈ts,P.readableRec t=true∧t<P.types.size)→DataW.TrodAll enc P W 0 (fun _=>true) true ts vs ds ps→(∀x∈ps,x.block<W.heap.size) →
  DataW.TrodAll enc P W' 0 (fun b=>decide (b<W.heap.size)) true ts vs ds ps:=by
 intro ts
 induction ts with
 | nil =>
  intro vs ds ps _ h _
  obtain⟨rfl,rfl,rfl⟩:=trodAll_nil h
  exact trodAll_mk0
 | cons t ts ih =>
  intro vs ds ps hty h hlt
  obtain⟨v,vs',d,ds',p,q,rfl,rfl,rfl,h1,h2⟩:=trodAll_cons h
  have ht:=hty t List.mem_cons_self
  exact trodAll_cons_mk (Below.trod hl ht.1 ht.2 h1 hB fun x hx=>hlt x (List.mem_append_left _ hx))
   (ih _ _ _ (fun t ht=>hty t (List.mem_cons_of_mem _ ht)) h2 fun x hx=>hlt x (List.mem_append_right _ hx))
theorem fE0{f:Func}{s:ChangeSpec}{args:Array Value}{ds gs:List (DataW H)}{before:List MemPlace}{tb:TypeId}(hl:laidOutB P=true)
  (hW:DataW.Whole enc P f.params.toList s.vars false W args.toList ds gs before) (hv:s.vars=[]) (hspec:s.fn H (ds++gs)={ results:=[.lit (.bool true)],args:=ds })
  (hres:f.resultTypes.toList=[tb]) (hsz:f.resultTypes.size=1) (hb:P.underlying tb=some .bool) (hty:∀t∈f.params.toList,P.readableRec t=true∧t<P.types.size) (hB:Below W.heap.size W W') :
  s.post enc P f false true false false W args (.bool true) W':=by
 have hW':=hW
 obtain⟨p,q,hA,hV,rfl,hfz,hnd⟩:=hW
 have hA':=Qk0 hl hB _ _ _ _ hty hA fun x hx=>hW'.lt x (List.mem_append_left _ hx)
 rw[hv] at hV
 obtain⟨rfl,rfl⟩:=trodVars_none hV
 refine⟨_,_,_,[],p,[],hW',?_,?_,?_,hB.frame _,fun h=>by cases h⟩
 ·rw[hspec,hres,hsz]
  exact trodAll_mk1 (shut_bool hb true)
 ·rw[hspec];exact hA'
 ·rw[hspec,hv];exact rfl
theorem iq0{α:Type}{p:Nat→α→Prop}(n:Nat)(h:∀i,i<n→∃x,p i x):∃l:List α,l.length=n∧∀i (hi:i<l.length),p i l[i]:=by
 induction n with
 | zero=>exact⟨[],rfl,fun i hi=>by simp at hi⟩
 | succ n ih =>
  obtain⟨l,hl,hp⟩:=ih fun i hi=>h i (by omega)
  obtain⟨x,hx⟩:=h n (by omega)
  refine⟨l++[x],by simp [hl],fun i hi=>?_⟩
  by_cases hn:i<l.length
  ·rw[List.getElem_append_left hn];exact hp i hn
  ·have:i=n:=by simp at hi;omega
   subst this
   rw[List.getElem_append_right (by omega)]
   simpa [hl] using hx
theorem DD0{α:Type}[Enc α]{l:List α}{k:Nat}{v:Value}(h:(flat l)[k]? = some v):∃(hi:k / Enc.sz α<l.length),(Enc.cells l[k / Enc.sz α])[k % Enc.sz α]? = some v:=by
 have hpos:0<Enc.sz α:=Enc.pos
 have hk:k<l.length * Enc.sz α:=by
  rcases Nat.lt_or_ge k (flat l).length with hk | hk
  ·rw[M7] at hk;exact hk
  ·rw[List.getElem?_eq_none hk] at h;cases h
 have hi:k / Enc.sz α<l.length:=Nat.div_lt_of_lt_mul (by rw[Nat.mul_comm];exact hk)
 refine⟨hi,?_⟩
 have e:k=k / Enc.sz α * Enc.sz α+k % Enc.sz α:=by rw[Nat.mul_comm];exact(Nat.div_add_mod k (Enc.sz α)).symm
 rw[e,←List.getElem?_drop,uL,List.drop_eq_getElem_cons hi,pI,List.getElem?_append_left (by rw[Enc.len];exact Nat.mod_lt _ hpos)] at h
 exact h
theorem lY{α:Type}[Enc α]{Q:α→Prop}{base:Nat}{spare:Nat→Bool}{held:Bool}{t e:TypeId}{fuel:Nat}{v:Value}{x:DataW H×List MemPlace}(ht:P.underlying t=some (.slice e))(hsz:P.cellsOf e=Enc.sz α)
  (hdec:∀(n:Nat) (cs:List Value) (y:DataW H×List MemPlace),DataW.trod enc P W base spare held n e cs=some y→∃a:α,cs=Enc.cells a∧Q a)
  (h:DataW.trod enc P W base spare held fuel t [v]=some x):∃l:List α,kN (fun _=>0) 0 W v l∧l.length≤maxLen∧∀a∈l,Q a:=by
 rcases Go.Deep.open_slice ht h with⟨hcs,_⟩ | ⟨a,len,cap,m,n,D,Pl,hcs,hb,hl,hm,hmm,rfl,hx⟩
 ·injection hcs with hv _
  subst hv
  exact⟨[],⟨none,0,rfl,Nat.le_refl _,.inl rfl⟩,by simp,fun a ha=>by cases ha⟩
 ·injection hcs with hv _
  subst hv
  have hlm:len≤m:=by rw[hmm];split<;>omega
  obtain⟨l,hlen,hp⟩:=iq0 (p:=fun i (y:α)=>Q y∧∀j v,(Enc.cells y)[j]? = some v→W.cell? ((a.add (i * Enc.sz α)).add j)=some v) len fun i hi=>by
   obtain⟨cs',h1,h2⟩:=hx i (by omega)
   obtain⟨y,rfl,hQ⟩:=hdec _ _ _ h2
   obtain⟨_,h3,h4⟩:=World.cells?_some h1
   refine⟨y,hQ,fun j v hj=>?_⟩
   have hj':j<P.cellsOf e:=by
    rw[←h3]
    rcases Nat.lt_or_ge j (Enc.cells y).length with h | h
    ·exact h
    ·rw[List.getElem?_eq_none h] at hj;cases hj
   rw[←hsz,h4 j hj']
   exact hj
  refine⟨l,⟨some a,cap,by rw[hlen],by omega,?_⟩,by omega,fun y hy=>by obtain⟨m,hm,rfl⟩:=List.getElem_of_mem hy;exact(hp m hm).1⟩
  by_cases h0:l=[]
  ·exact .inl h0
  ·have hl0:0<l.length:=List.length_pos_iff.2 h0
   have hpos:0<Enc.sz α:=Enc.pos
   obtain⟨v0,hc0⟩:∃v0,W.cell? a=some v0:=by
    have hlt:0<(Enc.cells l[0]).length:=by rw[Enc.len];exact hpos
    exact⟨_,by simpa [Addr.add] using (hp 0 hl0).2 0 (Enc.cells l[0])[0] (by simp [hlt])⟩
   have hsp:a.spot=none:=by
    unfold World.cell? at hc0
    split at hc0
    ·cases hs:a.spot with
     | none=>rfl
     | some z=>simp [hs] at hc0
    ·cases hc0
   obtain⟨g,o,sp⟩:=a
   simp only at hsp
   subst hsp
   refine .inr ⟨g,o,rfl,rfl,World.block_lt_of_cell? W _ hc0,fun k v hk=>?_⟩
   obtain⟨hi,hv⟩:=DD0 hk
   have:=(hp _ hi).2 _ _ hv
   rw[addr_add,addr_add] at this
   rw[←this]
   congr 2
   have:=Nat.div_add_mod k (Enc.sz α)
   rw[Nat.mul_comm] at this
   omega
end
end Go.Proofs.YtngbebnhegcokaaGreatDoor
namespace Go.Proofs.YtngbebnhegcokaaGreatDoor
open Go.Proofs.Tryz (prog)
open Go.RowKit
theorem D5{n:Int}(h : -9223372036854775808≤n)(h':n≤9223372036854775807):IntKind.wrap .i64 n=n:=IntWalk.i64_in _ ⟨h,h'⟩
abbrev ptr(b:Nat):Value := .pointer (some ⟨b,0,none⟩)
instance:Enc Int where
 sz:=1
 cells x:=[.int .i64 x]
 val x := .int .i64 x
 pos:=by omega
 len _:=rfl
 one _ v hv:=by
  simp only[List.mem_cons,List.not_mem_nil,or_false] at hv
  rcases hv with rfl
  rfl
 cells_val _:=rfl
theorem bH0(a:Int)(k:Nat)(hk:k≤62)(m:Int)(hm:m=2 ^ k-1):IntKind.wrap .i64 (BitVec.ofInt IntKind.i64.bits a &&& BitVec.ofInt IntKind.i64.bits m).toNat=a % 2 ^ k:=by
 subst hm
 show IntKind.wrap .i64 (((BitVec.ofInt 64 a &&& BitVec.ofInt 64 (2 ^ k-1)).toNat:Nat):Int)=_
 have hp:(2:Nat) ^ k≤2 ^ 62:=Nat.pow_le_pow_right (by omega) hk
 have hpos:0<(2:Nat) ^ k:=Nat.pow_pos (by omega)
 have h2:((2:Int) ^ k)=((2 ^ k:Nat):Int):=by simp
 have hk2:((2:Int) ^ k-1)=((2 ^ k-1:Nat):Int):=by rw[h2];omega
 have h1:(BitVec.ofInt 64 (2 ^ k-1)).toNat=2 ^ k-1:=by
  rw[hk2,BitVec.toNat_ofInt]
  omega
 have h3:(BitVec.ofInt 64 a &&& BitVec.ofInt 64 (2 ^ k-1)).toNat=(a % 2 ^ 64).toNat % 2 ^ k:=by
  rw[BitVec.toNat_and,h1,Nat.and_two_pow_sub_one_eq_mod,BitVec.toNat_ofInt]
  rfl
 rw[h3]
 have hlt:(a % 2 ^ 64).toNat % 2 ^ k<2 ^ k:=Nat.mod_lt _ hpos
 have hd:((2:Int) ^ k) ∣ 2 ^ 64:=⟨2 ^ (64-k),by rw[←Int.pow_add];congr 1;omega⟩
 rw[D5 (by omega) (by omega)]
 rw[Int.natCast_emod,Int.toNat_of_nonneg (Int.emod_nonneg _ (by decide)),←h2]
 exact Int.emod_emod_of_dvd _ hd
theorem aL0(k:Nat)(hk:k≤62)(a:Int)(m:Int)(hm:m=2 ^ k-1):IntKind.wrap .i64 (BitVec.ofInt IntKind.i64.bits a &&& BitVec.ofInt IntKind.i64.bits m).toNat=a % 2 ^ k:=bH0 a k hk m hm
section
variable {P:Program} {K:Value→Prop} {w:World} {k:IntKind} {a b:Int}
theorem YD0{s:Sem Next}{v:Value}(h:∀{K:Value→Prop},Y0 P s w K=K v):Is P s v w:=by
 obtain⟨u,h1,rfl⟩:=(h (K:=fun x=>x=v)).mpr rfl
 exact h1
theorem PP{ts:Array TypeId}{U:TypeId}{bs:Array Bool}:M0 P (J5 .min ts U bs #[.int k a,.int k b]) K=K (.int k (min a b)):=V4 fun w=>by
 refine V9 ?_
 have e:min a b=if b<a then b else a:=by omega
 simp [Builtin.min_,Builtin.min2,e]
theorem kL{ts:Array TypeId}{U:TypeId}{bs:Array Bool}:M0 P (J5 .max ts U bs #[.int k a,.int k b]) K=K (.int k (max a b)):=V4 fun w=>by
 refine V9 ?_
 have e:max a b=if b > a then b else a:=by omega
 simp [Builtin.max_,Builtin.max2,e]
end
section
variable {α:Type} [Enc α] {P:Program} {K:PtK} {Kp:Value→Prop} {w:World} {T E:TypeId} {by_:Nat} {c:Nat→Nat} {t u:Nat}
theorem qq0{l:List α}{i:Nat}(hi:i<l.length)(x:α):flat (l.set i x)=(flat l).take (i * Enc.sz α)++Enc.cells x++(flat l).drop ((i+1) * Enc.sz α):=by
 rw[wF,uL,List.set_eq_take_append_cons_drop,if_pos hi,sF,pI,List.append_assoc]
theorem zk0{l:List α}{i:Nat}(hi:i<l.length)(x:α){f:Nat}{v:Value}(hf:f<Enc.sz α)(hx:Enc.cells x=(Enc.cells l[i]).set f v):flat (l.set i x)=(flat l).set (i * Enc.sz α+f) v:=by
 have e:flat l=(flat l).take (i * Enc.sz α)++(Enc.cells l[i]++(flat l).drop ((i+1) * Enc.sz α)):=by
  rw[wF,uL,←pI,List.getElem_cons_drop,←sF,List.take_append_drop]
 have hl:((flat l).take (i * Enc.sz α)).length=i * Enc.sz α:=by
  rw[List.length_take,M7,Nat.min_eq_left (Nat.mul_le_mul_right _ (Nat.le_of_lt hi))]
 rw[qq0 hi]
 conv=>rhs;rw[e]
 rw[List.set_append_right _ _ (by omega),hl,Nat.add_sub_cancel_left,List.set_append_left _ _ (by rw[Enc.len];exact hf),←hx,List.append_assoc]
theorem MX{β:Type}(L M:List β)(a n:Nat)(h:a+M.length≤n)(h2:n≤L.length):(L.take a++M++L.drop (a+M.length)).take n=(L.take n).take a++M++(L.take n).drop (a+M.length):=by
 have e:(L.take a++M).length=a+M.length:=by rw[List.length_append,List.length_take,Nat.min_eq_left (by omega)]
 rw[List.take_append,List.take_of_length_le (by omega),e,List.drop_take,List.take_take,Nat.min_eq_left (by omega)]
theorem nC.open_{v:Value}{l:List α}(h:nC c t w E v l)(hl:l≠[]):∃g cap,v = .slice (some ⟨g,0,none⟩) l.length cap:=by
 rcases h.cases with⟨rfl,rfl⟩ | ⟨g,cap,cur,rfl,_⟩
 ·exact absurd rfl hl
 ·exact⟨g,cap,rfl⟩
theorem eY{g n cap i:Nat}(hT:sliceB P T E (Enc.sz α) by_=true)(hi:i<n):M0 P (Y4 T (.slice (some ⟨g,0,none⟩) n cap) (.int .i64 i)) Kp=Kp (.pointer (some ⟨g,i * Enc.sz α,none⟩)):=V4 fun w=>by
 obtain⟨hu,i',z,hinfo,hz,hs,hb,hzs⟩:=v_ hT
 refine V9 ?_
 simp [Instr.indexAt,asIntOf,run_underlying hu,sizeOf,typeInfo,hinfo,hs,hi,addr_add]
theorem nC.inv{g n cap:Nat}{l:List α}(h:nC c t w E (.slice (some ⟨g,0,none⟩) n cap) l):n=l.length∧∃cur,Blk c t w g E cur∧l.length≤cap∧cap≤maxLen∧cur.size=cap * Enc.sz α∧cur.toList.take (l.length * Enc.sz α)=flat l:=by
 rcases h.cases with⟨h,_⟩ | ⟨g',cap',cur,h,hb,h1,h2,h3,h4⟩
 ·cases h
 ·cases h
  exact⟨rfl,cur,hb,h1,h2,h3,h4⟩
theorem nC.elem{g n cap i:Nat}{l:List α}(h:nC c t w E (.slice (some ⟨g,0,none⟩) n cap) l)(hi:i<l.length):Cells c t w g (i * Enc.sz α) (Enc.cells l[i]):=by
 obtain⟨rfl,cur,hb,h1,h2,h3,h4⟩:=h.inv
 refine⟨hb.1,hb.lt,fun j v hv=>?_⟩
 have:=flat_get hi hv
 rw[←h4] at this
 refine hb.cell ?_
 rw[List.getElem?_take] at this
 split at this
 ·simpa using this
 ·cases this
theorem nC.Io0{g n cap i f o:Nat}{v':Value}{l:List α}{T':TypeId}(x:α)(h:nC c t w E (.slice (some ⟨g,0,none⟩) n cap) l)(hi:i<l.length)(ho:o=i * Enc.sz α+f)(hf:f<Enc.sz α)
  (hx:Enc.cells x=(Enc.cells l[i]).set f v') (hs:scB P T'=true) (h1:v'.oneCell'=true)
  (k:∀w',Step (only t) c w c w'→nC c t w' E (.slice (some ⟨g,0,none⟩) n cap) (l.set i x)→K undef w'):upK P (F4 T' (.pointer (some ⟨g,o,none⟩)) v') w K:=by
 obtain⟨rfl,cur,hb,h1',h2,h3,h4⟩:=h.inv
 subst ho
 have hlt:i * Enc.sz α+f<l.length * Enc.sz α:=by
  have:=Nat.mul_le_mul_right (Enc.sz α) (show i+1≤l.length from hi)
  rw[Nat.add_mul,Nat.one_mul] at this
  omega
 have hle:l.length * Enc.sz α≤cap * Enc.sz α:=Nat.mul_le_mul_right _ h1'
 refine Ux0 hs hb (by omega) h1 fun hb' st=>k _ st (nC.mk_ hb' (by simp) h1' h2 (by simp [h3]) ?_)
 rw[zk0 hi x hf hx,←h4]
 simp only[Array.toList_setIfInBounds]
 rw[List.take_set]
theorem nC.Eo0{g n cap i m:Nat}{ds:Array Value}{l:List α}{T':TypeId}(x:α)(h:nC c t w E (.slice (some ⟨g,0,none⟩) n cap) l)(hi:i<l.length)(ht:agB P T' m=true)(hm:m=Enc.sz α)(hd:ds.toList=Enc.cells x)
  (k:∀w',Step (only t) c w c w'→nC c t w' E (.slice (some ⟨g,0,none⟩) n cap) (l.set i x)→K undef w'):upK P (F4 T' (.pointer (some ⟨g,i * Enc.sz α,none⟩)) (.agg ds)) w K:=by
 obtain⟨rfl,cur,hb,h1',h2,h3,h4⟩:=h.inv
 subst hm
 have hsz:ds.size=Enc.sz α:=by rw[←Array.length_toList,hd,Enc.len]
 have hlt:i * Enc.sz α+Enc.sz α≤l.length * Enc.sz α:=by
  have:=Nat.mul_le_mul_right (Enc.sz α) (show i+1≤l.length from hi)
  rw[Nat.add_mul,Nat.one_mul] at this
  exact this
 have hle:l.length * Enc.sz α≤cap * Enc.sz α:=Nat.mul_le_mul_right _ h1'
 refine BK0 ht hb hsz (by omega) (fun v hv=>Enc.one x v (by rw[←hd];simpa using hv)) fun w' hb' st=>k w' st (nC.mk_ hb' (by simp) h1' h2 ?_ ?_)
 ·simp only[List.size_toArray,List.length_append,List.length_take,List.length_drop,Array.length_toList,hsz]
  omega
 ·rw[qq0 hi,hd,←h4]
  have e:(i+1) * Enc.sz α=i * Enc.sz α+(Enc.cells x).length:=by rw[Enc.len,Nat.add_mul,Nat.one_mul]
  rw[e,show i * Enc.sz α+Enc.sz α=i * Enc.sz α+(Enc.cells x).length by rw[Enc.len]]
  exact MX _ _ _ _ (by rw[Enc.len];exact hlt) (Nat.le_trans hle (Nat.le_of_eq (h3.symm.trans Array.length_toList.symm)))
theorem jA0{m n:Nat}(x:α)(hT:sliceB P T E (Enc.sz α) by_=true)(hx:((P.info? E).bind (·.zero)).map (·.cells)=some (Enc.cells x).toArray)(hmn:m≤n)(hn:n * by_≤140737488355328)(hn1:n≤140737488355328)
  (k:∀c' v w',Step nobody c w c' w'→nC c' t w' E v (List.replicate m x)→v ≠ .slice none 0 0→K v w'):upK P (IQ T (.int .i64 m) (.int .i64 n)) w K:=by
 obtain⟨hu,i,z,hinfo,hz,hs,hby,hzs⟩:=v_ hT
 have hzc:z.cells=(Enc.cells x).toArray:=by simpa [hinfo,hz] using hx
 have hw:IntKind.wrap .i64 (n:Int)=n:=IntWalk.i64_in _ (by omega)
 have hwm:IntKind.wrap .i64 (m:Int)=m:=IntWalk.i64_in _ (by omega)
 have h1:¬((n:Int)<0):=by omega
 have h1m:¬((m:Int)<0):=by omega
 have hmn':¬((n:Int)<(m:Int)):=by omega
 have hm:by_ * n≤140737488355328:=by rw[Nat.mul_comm];exact hn
 have hmm:by_ * m≤140737488355328:=Nat.le_trans (Nat.mul_le_mul_left _ hmn) hm
 have h2:¬((281474976710656:Int)<(by_:Int) * (n:Int)):=by
  have:((by_ * n:Nat):Int)≤140737488355328:=by omega
  rw[Int.natCast_mul] at this
  omega
 have h2m:¬((281474976710656:Int)<(by_:Int) * (m:Int)):=by
  have:((by_ * m:Nat):Int)≤140737488355328:=by omega
  rw[Int.natCast_mul] at this
  omega
 have h3:¬(140737488355328<n * by_):=by omega
 have hcells:∀z0:Array Value,(n=0→z0=#[])→(n≠0→z0=z.cells)→((Array.range (n * Enc.sz α)).map (z0[· % z0.size]!)).toList=flat (List.replicate n x):=by
  intro z0 _ hz1
  by_cases hn0:n=0
  ·subst hn0;simp [flat]
  ·rw[hz1 hn0]
   apply List.ext_getElem?
   intro j
   by_cases hj:j<n * Enc.sz α
   ·have hp:0<Enc.sz α:=Enc.pos
    have hq:j / Enc.sz α<n:=Nat.div_lt_of_lt_mul (by rw[Nat.mul_comm];exact hj)
    have hr:j % Enc.sz α<Enc.sz α:=Nat.mod_lt _ hp
    have:=flat_get (l:=List.replicate n x) (i:=j / Enc.sz α) (by simpa using hq) (f:=j % Enc.sz α) (v:=(Enc.cells x)[j % Enc.sz α]'(by rw[Enc.len];exact hr)) (by simp)
    rw[Nat.mul_comm (j / Enc.sz α),Nat.div_add_mod] at this
    rw[this]
    simp [hj,hzs,hzc,Enc.len]
    rw[List.getElem?_eq_getElem (by rw[Enc.len];exact hr)]
    rfl
   ·rw[List.getElem?_eq_none (by simp;omega),List.getElem?_eq_none (by rw[M7];simp;omega)]
 have hrun:∃cur:Array Value,cur.toList=flat (List.replicate n x)∧(Instr.makeSlice T (.int .i64 m) (.int .i64 n)).run P w = .ok (.slice (some ⟨w.heap.size,0,none⟩) m n) (w.alloc (.cells cur E)):=by
  by_cases hn0:n=0
  ·subst hn0
   obtain rfl:m=0:=by omega
   refine⟨_,hcells #[] (fun _=>rfl) (fun h=>absurd rfl h),?_⟩
   simp [Instr.makeSlice,run_underlying hu,asInt,asIntOf,typeInfo,hinfo,hby,show IntKind.wrap .i64 0=0 from rfl,askRoom,roomBytes,sizeOf,hs,newRow]
  ·refine⟨_,hcells z.cells (fun h=>absurd h hn0) (fun _=>rfl),?_⟩
   simp [Instr.makeSlice,run_underlying hu,asInt,asIntOf,typeInfo,hinfo,hby,hw,hwm,h1,h1m,h2,h2m,h3,hmn',hmn,askRoom,roomBytes,sizeOf,hs,newRow,hn0,zeroValue,hz,Nat.ne_of_gt (Enc.pos (α:=α))]
   intro h
   rcases Nat.mul_eq_zero.1 h with h | h
   ·exact absurd h hn0
   ·exact absurd h (Nat.ne_of_gt Enc.pos)
 obtain⟨cur,hc,hrun⟩:=hrun
 have hb:=Blk.alloc (n:=t) c w E cur
 have hcs:cur.size=n * Enc.sz α:=by rw[←Array.length_toList,hc,M7];simp
 refine JC (V9 hrun) (k (jG c w.heap.size t) _ _ (Step.alloc nobody c w t _) (nC.mk_ hb (by simp) hmn (by unfold maxLen;omega) hcs ?_) (by simp))
 rw[hc,wF,List.take_replicate,Nat.min_eq_left hmn]
theorem yE0{n:Nat}(x:α)(hT:sliceB P T E (Enc.sz α) by_=true)(hx:((P.info? E).bind (·.zero)).map (·.cells)=some (Enc.cells x).toArray)(hn:n * by_≤140737488355328)(hn1:n≤140737488355328)
  (k:∀c' v w',Step nobody c w c' w'→nC c' t w' E v (List.replicate n x)→v ≠ .slice none 0 0→K v w'):upK P (IQ T (.int .i64 n) (.int .i64 n)) w K:=jA0 x hT hx (Nat.le_refl _) hn hn1 k
theorem Qp0{g o dl dc:Nat}{cur:Array Value}{v2:Value}{l2:List α}{T2:TypeId}(hT:sliceB P T E (Enc.sz α) by_=true)(hb:Blk c t w g E cur)(h2:kN c u w v2 l2)(hfit:o+(l2.take dl).length * Enc.sz α≤cur.size){U:TypeId}{bs:Array Bool}
  (k:∀w',Step (only t) c w c w'→Blk c t w' g E (cur.toList.take o++flat (l2.take dl)++cur.toList.drop (o+(l2.take dl).length * Enc.sz α)).toArray→K (.int .i64 (l2.take dl).length) w') :
  upK P (J5 .copy #[T,T2] U bs #[.slice (some ⟨g,o,none⟩) dl dc,v2]) w K:=by
 obtain⟨hu,i,z,hinfo,hz,hs,hby,hzs⟩:=v_ hT
 have hst:=run_storeCells_at P g o E (flat (l2.take dl)) 0 cur w hb.2 (by rw[M7];simpa using hfit) (oi0 _)
 simp only[Nat.add_zero,M7] at hst
 have hlen:(l2.take dl).length=Nat.min l2.length dl:=by rw[List.length_take];exact Nat.min_comm _ _
 have hf:(Builtin.firstCells (Enc.sz α) (Nat.min l2.length dl) v2).run P w = .ok (flat (l2.take dl)).toArray w:=by
  obtain⟨a,cap,rfl,hc,h⟩:=h2
  rcases h with rfl | ⟨g,o,rfl,h⟩
  ·cases a with
   | none=>simp [Builtin.firstCells,flat]
   | some a =>
    have:Nat.min 0 dl=0:=Nat.zero_min _
    simp [Builtin.firstCells,loadCells,loadCellsFrom,flat,this]
  ·unfold Builtin.firstCells
   dsimp only
   rw[←hlen,←M7]
   refine run_loadCells_list w _ _ fun j v hv=>?_
   rw[addr_add]
   refine h.2.2 j v ?_
   rw[←wF,List.getElem?_take] at hv
   split at hv
   ·exact hv
   ·cases hv
 refine JC (v := .int .i64 (l2.take dl).length) (V9 ?_) (k _ (hb.uc0 _) (hb.setRow _))
 rw[hlen] at hst ⊢
 simp [Builtin.copy_,run_underlying hu,sizeOf,typeInfo,hinfo,hs,h2.lenOf w,hf,hst,goInt]
theorem copy_part{g n cap lo:Nat}{l l2:List α}{v2:Value}{T2:TypeId}{a:Option Addr}{dc:Nat}(hT:sliceB P T E (Enc.sz α) by_=true)(h:nC c t w E (.slice (some ⟨g,0,none⟩) n cap) l)(h2:kN c u w v2 l2)
  (hlo:lo≤l.length) (ha:a=some ⟨g,lo * Enc.sz α,none⟩∨lo=l.length∧a=some ⟨g,0,none⟩) {U:TypeId} {bs:Array Bool}
  (k:∀w',Step (only t) c w c w'→nC c t w' E (.slice (some ⟨g,0,none⟩) n cap) (l.take lo++l2.take (l.length-lo)++l.drop (lo+(l2.take (l.length-lo)).length))→K (.int .i64 (l2.take (l.length-lo)).length) w') :
  upK P (J5 .copy #[T,T2] U bs #[.slice a (n-lo) dc,v2]) w K:=by
 obtain⟨rfl,cur,hb,h1',hm,h3,h4⟩:=h.inv
 have hle:l.length * Enc.sz α≤cap * Enc.sz α:=Nat.mul_le_mul_right _ h1'
 have hll:(l2.take (l.length-lo)).length≤l.length-lo:=List.length_take_le _ _
 have hmul:(lo+(l2.take (l.length-lo)).length) * Enc.sz α≤l.length * Enc.sz α:=Nat.mul_le_mul_right _ (by omega)
 have hmul':=hmul
 rw[Nat.add_mul] at hmul'
 rcases ha with rfl | ⟨rfl,rfl⟩
 ·refine Qp0 hT hb h2 (by omega) fun w' st hb'=>k w' st (nC.mk_ hb' (by simp;omega) h1' hm ?_ ?_)
  ·simp only[List.size_toArray,List.length_append,List.length_take,List.length_drop,Array.length_toList,M7]
   rw[List.length_take] at hmul'
   omega
  ·have e:=MX cur.toList (flat (l2.take (l.length-lo))) (lo * Enc.sz α) (l.length * Enc.sz α) (by rw[M7];exact hmul') (Nat.le_trans hle (Nat.le_of_eq (h3.symm.trans Array.length_toList.symm)))
   rw[M7] at e
   refine e.trans ?_
   rw[h4,wF,←Nat.add_mul,uL,sF,sF]
 ·have hz:l2.take (l.length-l.length)=[]:=by simp
  refine Qp0 hT hb h2 (by rw[hz];simp) fun w' st hb'=>?_
  have e:(cur.toList.take 0++flat (l2.take (l.length-l.length))++cur.toList.drop (0+(l2.take (l.length-l.length)).length * Enc.sz α)).toArray=cur:=by
   rw[hz];simp [flat]
  rw[e] at hb'
  refine k w' st ?_
  have e2:l.take l.length++l2.take (l.length-l.length)++l.drop (l.length+(l2.take (l.length-l.length)).length)=l:=by rw[hz];simp
  rw[e2]
  exact nC.mk_ hb' rfl h1' hm h3 h4
theorem iH0{g n cap lo:Nat}(hT:sliceB P T E (Enc.sz α) by_=true)(h1:lo≤n)(h2:n≤cap):∃a,(a=some ⟨g,lo * Enc.sz α,none⟩∨lo=n∧a=some ⟨g,0,none⟩) ∧
  ∀{Kp:Value→Prop},M0 P (d9 T (.slice (some ⟨g,0,none⟩) n cap) (some (.int .i64 lo)) none none) Kp=Kp (.slice a (n-lo) (cap-lo)):=by
 refine⟨_,?_,fun {Kp}=>V4 fun w=>QN (lo:=lo) (hi:=n) hT Bnd.some Bnd.none h1 h2 w⟩
 split
 ·right;exact⟨by omega,rfl⟩
 ·left;simp [addr_add]
theorem kN.Fh0{v:Value}{l:List α}(h:kN c t w v l)(hT:sliceB P T E (Enc.sz α) by_=true){i:Nat}(hi:i<l.length){T':TypeId}(hs:scB P T'=true){x:Value}(hx:Enc.cells l[i]=[x]) :
  ∃p,(∀{Kp:Value→Prop},M0 P (Y4 T v (.int .i64 i)) Kp=Kp p)∧(∀{Kp:Value→Prop},Y0 P (X0 T' p) w Kp=Kp x):=by
 obtain⟨g,o,_,_,h1,h2⟩:=h.idx hT hi
 exact⟨_,h1,fun {Kp}=>Mi0 hs (h2 0 x (by rw[hx];rfl))⟩
theorem FD0(l:List Value):∀(k off:Nat) (cs:Array Value) (i:Nat),off+k+l.length≤cs.size →
  ((l.zipIdx k).foldl (fun cs (x:Value×Nat)=>cs.setIfInBounds (off+x.2) x.1) cs)[i]? = if off+k≤i∧i<off+k+l.length then l[i-(off+k)]? else cs[i]? := by
 induction l with
 | nil=>intro k off cs i _;simp;intro h1 h2;omega
 | cons v l ih =>
  intro k off cs i h
  simp only[List.length_cons] at h
  simp only[List.zipIdx_cons,List.foldl_cons]
  rw[ih (k+1) off _ i (by simp;omega)]
  by_cases hik:i=off+k
  ·subst hik
   simp [show off+k<cs.size by omega]
   omega
  ·by_cases h1:off+(k+1)≤i∧i<off+(k+1)+l.length
   ·rw[if_pos h1,if_pos (by simp only[List.length_cons];omega),show i-(off+k)=(i-(off+(k+1)))+1 by omega,List.getElem?_cons_succ]
   ·rw[if_neg h1,if_neg (by simp only[List.length_cons];omega),Array.getElem?_setIfInBounds_ne (by omega)]
theorem fold_size(l:List (Value×Nat)):∀(off:Nat) (cs:Array Value),(l.foldl (fun cs (x:Value×Nat)=>cs.setIfInBounds (off+x.2) x.1) cs).size=cs.size:=by
 induction l with
 | nil=>intro off cs;rfl
 | cons v l ih=>intro off cs;simp only[List.foldl_cons];rw[ih];simp
theorem mD0(l:List α):∀(k:Nat) (cs:Array Value),(k+l.length) * Enc.sz α≤cs.size →
  ∃cs',Instr.fill (fun i=>some (i * Enc.sz α,Enc.sz α)) cs ((l.zipIdx k).map fun p=>(p.2,Enc.val p.1))=some cs'∧cs'.size=cs.size∧∀j,cs'[j]? = if k * Enc.sz α≤j∧j<(k+l.length) * Enc.sz α then(flat l)[j-k * Enc.sz α]? else cs[j]? := by
 induction l with
 | nil=>intro k cs _;exact⟨cs,rfl,rfl,fun j=>by simp;intro h1 h2;omega⟩
 | cons x l ih =>
  intro k cs h
  have hv:(Enc.val x).cells.size=Enc.sz α:=by rw[Enc.cells_val];simp [Enc.len]
  simp only[List.length_cons] at h
  have hk1:(k+1) * Enc.sz α=k * Enc.sz α+Enc.sz α:=by rw[Nat.add_mul,Nat.one_mul]
  have hkl:(k+(l.length+1)) * Enc.sz α=k * Enc.sz α+Enc.sz α+l.length * Enc.sz α:=by rw[Nat.add_mul,Nat.add_mul,Nat.one_mul];omega
  obtain⟨cs',h1,h2,h3⟩:=ih (k+1) ((Enc.val x).cells.zipIdx.foldl (fun cs (x:Value×Nat)=>cs.setIfInBounds (k * Enc.sz α+x.2) x.1) cs) (by
   rw[←Array.foldl_toList,fold_size,show k+1+l.length=k+(l.length+1) by omega];exact h)
  refine⟨cs',?_,?_,fun j=>?_⟩
  ·simp only[List.zipIdx_cons,List.map_cons]
   unfold Instr.fill
   dsimp only
   rw[if_neg (by simp [hv];omega)]
   exact h1
  ·rw[h2,←Array.foldl_toList,fold_size]
  ·rw[h3,←Array.foldl_toList,Array.toList_zipIdx,FD0 _ 0 (k * Enc.sz α) cs j (by simp [hv];omega)]
   have hvl:(Enc.val x).cells.toList=Enc.cells x:=by rw[Enc.cells_val]
   rw[hvl,Enc.len,pI,show k+1+l.length=k+(l.length+1) by omega,List.length_cons,hk1,hkl]
   by_cases c1:k * Enc.sz α+Enc.sz α≤j∧j<k * Enc.sz α+Enc.sz α+l.length * Enc.sz α
   ·rw[if_pos c1,if_pos ⟨by omega,c1.2⟩,List.getElem?_append_right (by rw[Enc.len];omega),Enc.len]
    congr 1
    omega
   ·rw[if_neg c1]
    by_cases c2:k * Enc.sz α+0≤j∧j<k * Enc.sz α+0+Enc.sz α
    ·rw[if_pos c2,if_pos ⟨by omega,by omega⟩,List.getElem?_append_left (by rw[Enc.len];omega)]
     congr 1
    ·rw[if_neg c2,if_neg (by omega)]
theorem XW(l:List α){n:Nat}{ps:Array (Nat×Value)}(hT:sliceB P T E (Enc.sz α) by_=true)(hn:n=l.length)(h0:0<n)(hsz:n * Enc.sz α≤16777216)(hps:ps=((l.zipIdx 0).map fun p=>(p.2,Enc.val p.1)).toArray)
  (k:∀c' v w',Step nobody c w c' w'→nC c' t w' E v l→K v w'):upK P (P6 T n ps) w K:=by
 obtain⟨hu,i,z,hinfo,hz,hs,hby,hzs⟩:=v_ hT
 subst hn hps
 have hpos:0<Enc.sz α:=Enc.pos
 obtain⟨cs',h1,h2,h3⟩:=mD0 l 0 ((Array.range (l.length * Enc.sz α)).map (z.cells[· % z.cells.size]!)) (by simp)
 have hne:¬(l.length * Enc.sz α=0):=by
  intro h
  rcases Nat.mul_eq_zero.1 h with h | h<;>omega
 have hcs:cs'=(flat l).toArray:=by
  apply Array.ext_getElem?
  intro j
  rw[h3 j]
  by_cases hj:j<l.length * Enc.sz α
  ·rw[if_pos ⟨by omega,by simpa using hj⟩];simp
  ·rw[if_neg (by simp;omega),Array.getElem?_eq_none (by simp;omega),Array.getElem?_eq_none (by simp [M7];omega)]
 refine JC (v := .slice (some ⟨w.heap.size,0,none⟩) l.length l.length) (w':=w.alloc (.cells (flat l).toArray E)) (V9 ?_) (k (jG c w.heap.size t) _ _ (Step.alloc nobody c w t _) ?_)
 ·rw[hcs] at h1
  simp [Instr.buildSlice,run_underlying hu,sizeOf,typeInfo,hinfo,hs,zeroValue,hz,Nat.not_lt.2 hsz,newRow,hne,h1]
 ·refine⟨⟨by rw[M7],.inr ⟨w.heap.size,l.length,_,rfl,Nat.zero_le _,heap_alloc_new w _,Nat.le_refl _,?_,by simp [M7],?_⟩⟩,fun g hg=>?_⟩
  ·have:l.length≤l.length * Enc.sz α:=Nat.le_mul_of_pos_right _ hpos
   unfold maxLen;omega
  ·rw[List.take_of_length_le (by simp [M7])]
  ·simp [Value.ownBlock] at hg
   subst hg
   simp [jG]
end
structure Base where
 W:World
 keep:Nat→Prop
def Base.le(B B':Base):Prop:=∀k,B.keep k→k<B.W.heap.size→B'.keep k∧B'.W.heap[k]? = B.W.heap[k]?
theorem Base.le.refl(B:Base):B.le B:=fun _ h _=>⟨h,rfl⟩
theorem Base.le.trans{A B C:Base}(h:A.le B)(h':B.le C):A.le C:=fun k hk hs=>by
 obtain⟨h1,h2⟩:=h k hk hs
 have hs':k<B.W.heap.size:=by
  rw[Array.getElem?_eq_getElem hs] at h2
  exact(Array.getElem?_eq_some_iff.1 h2).1
 obtain⟨h3,h4⟩:=h' k h1 hs'
 exact⟨h3,h4.trans h2⟩
structure Dat where
 p:Base→Prop
 mono:∀{B B':Base},B.le B'→p B→p B'
instance:CoeFun Dat (fun _=>Base→Prop):=⟨Dat.p⟩
theorem Dat.wide(d:Dat){w:World}{F F':Nat→Prop}(hF:∀k,F k→k<w.heap.size→F' k)(h:d ⟨w,F⟩):d ⟨w,F'⟩:=d.mono (B:=⟨w,F⟩) (B':=⟨w,F'⟩) (fun k hk hs=>⟨hF k hk hs,rfl⟩) h
def SV:Type:={v:Value // v.oneCell'=true}
theorem SV.prop(x:SV):x.1.oneCell'=true:=x.2
def Dat.here(d:Dat)(w:World):Prop:=d ⟨w,fun _=>True⟩
structure GV (B:Base) (c:Nat→Nat) (w:World) (σ:List Dat):Prop where
 os:w.os=B.W.os
 tape:w.tape=B.W.tape
 output:w.output=B.W.output
 size:B.W.heap.size≤w.heap.size
 keepc:∀k,B.keep k→k<B.W.heap.size→c k=0
 same:∀k,B.keep k→k<B.W.heap.size→w.heap[k]? = B.W.heap[k]?
 own:∀(i:Nat) (d:Dat),σ[i]? = some d→d ⟨w,fun k=>c k=i+1⟩
def Rel(B:Base)(w:World)(σ:List Dat):Prop:=∃c,GV B c w σ
structure Base.ext (B B':Base):Prop where
 le:B.le B'
 os:B'.W.os=B.W.os
 tape:B'.W.tape=B.W.tape
 output:B'.W.output=B.W.output
 size:B.W.heap.size≤B'.W.heap.size
theorem Base.ext.refl(B:Base):B.ext B:=⟨Base.le.refl B,rfl,rfl,rfl,Nat.le_refl _⟩
theorem Base.ext.trans{A B C:Base}(h:A.ext B)(h':B.ext C):A.ext C :=
 ⟨h.le.trans h'.le,h'.os.trans h.os,h'.tape.trans h.tape,h'.output.trans h.output,Nat.le_trans h.size h'.size⟩
section
variable {B B':Base} {c c':Nat→Nat} {w w':World} {σ τ:List Dat} {d e:Dat} {i j:Nat}
theorem Base.ext.rel(h:B.ext B')(r:Rel B' w σ):Rel B w σ:=by
 obtain⟨c,r⟩:=r
 refine⟨c,r.os.trans h.os,r.tape.trans h.tape,r.output.trans h.output,Nat.le_trans h.size r.size,fun k hk hs=>?_,fun k hk hs=>?_,r.own⟩
 ·obtain⟨h1,h2⟩:=h.le k hk hs
  exact r.keepc k h1 (Nat.lt_of_lt_of_le hs h.size)
 ·obtain⟨h1,h2⟩:=h.le k hk hs
  exact(r.same k h1 (Nat.lt_of_lt_of_le hs h.size)).trans h2
theorem GV.le(h:GV B c w σ):B.le ⟨w,fun k=>c k=0⟩:=fun k hk hs=>⟨h.keepc k hk hs,h.same k hk hs⟩
theorem Rel.K6(h:Rel B w σ)(hd:d B):d.here w:=by
 obtain⟨c,h⟩:=h
 exact d.mono (fun k hk hs=>⟨trivial,h.same k hk hs⟩) hd
theorem Rel.here(h:Rel B w σ)(hi:σ[i]? = some d):d.here w:=by
 obtain⟨c,h⟩:=h
 exact d.wide (fun k hk hs=>trivial) (h.own i d hi)
theorem GV.moved(h:GV B c w σ){T:Nat→Prop}(st:Step T c w c' w')(h0:¬T 0)(hT:∀j d,σ[j]? = some d→¬T (j+1)):GV B c' w' σ:=by
 refine⟨st.os.trans h.os,st.tape.trans h.tape,st.output.trans h.output,Nat.le_trans h.size st.size,fun k hk hs=>?_,fun k hk hs=>?_,fun j d hj=>?_⟩
 ·rw[st.old k (Nat.lt_of_lt_of_le hs h.size)];exact h.keepc k hk hs
 ·rw[st.same k (Nat.lt_of_lt_of_le hs h.size) (by rw[h.keepc k hk hs];exact h0)];exact h.same k hk hs
 ·refine d.mono (fun k hk hs=>?_) (h.own j d hj)
  have hk:c k=j+1:=hk
  exact⟨(st.old k hs).trans hk,st.same k hs (by rw[hk];exact hT j d hj)⟩
theorem GV.step(h:GV B c w σ)(hi:σ[i]? = some e)(st:Step (only (i+1)) c w c' w')(hd:d ⟨w',fun k=>c' k=i+1⟩):GV B c' w' (σ.set i d):=by
 refine⟨st.os.trans h.os,st.tape.trans h.tape,st.output.trans h.output,Nat.le_trans h.size st.size,fun k hk hs=>?_,fun k hk hs=>?_,fun j e' hj=>?_⟩
 ·rw[st.old k (Nat.lt_of_lt_of_le hs h.size)];exact h.keepc k hk hs
 ·rw[st.same k (Nat.lt_of_lt_of_le hs h.size) (by rw[h.keepc k hk hs];unfold only;omega)];exact h.same k hk hs
 ·by_cases hji:i=j
  ·subst hji
   have hlt:i<σ.length:=by
    rcases Nat.lt_or_ge i σ.length with hl | hl
    ·exact hl
    ·rw[List.getElem?_eq_none hl] at hi;cases hi
   rw[List.getElem?_set_self hlt] at hj
   cases hj
   exact hd
  ·rw[List.getElem?_set_ne hji] at hj
   refine e'.mono (fun k hk hs=>?_) (h.own j e' hj)
   have hk:c k=j+1:=hk
   exact⟨(st.old k hs).trans hk,st.same k hs (by rw[hk];unfold only;omega)⟩
theorem GV.push(h:GV B c w σ)(st:Step nobody c w c' w')(hd:d ⟨w',fun k=>c' k=σ.length+1⟩):GV B c' w' (σ++[d]):=by
 have h1:=h.moved st (fun h=>h) (fun _ _ _ h=>h)
 refine⟨h1.os,h1.tape,h1.output,h1.size,h1.keepc,h1.same,fun j e hj=>?_⟩
 rcases Nat.lt_trichotomy j σ.length with hl | hl | hl
 ·rw[List.getElem?_append_left hl] at hj;exact h1.own j e hj
 ·subst hl
  rw[List.getElem?_append_right (Nat.le_refl _)] at hj
  simp at hj
  subst hj
  exact hd
 ·rw[List.getElem?_eq_none (by simp;omega)] at hj;cases hj
theorem GV.tick(h:GV B c w σ):GV B c (tick w) σ:=h.moved (Step.tick nobody c w) (fun h=>h) fun _ _ _ h=>h
theorem Rel.tick(h:Rel B w σ):Rel B (Go.Proofs.YtngbebnhegcokaaGreatDoor.tick w) σ:=by
 obtain⟨c,h⟩:=h
 exact⟨c,h.tick⟩
theorem Rel.frz(h:Rel B w σ):∃B',Rel B' w []∧(∀w' τ,Rel B' w' τ→Rel B w' (σ++τ))∧(∀{i:Nat} {d:Dat},σ[i]? = some d→d B')∧(∀{d:Dat},d B→d B'):=by
 obtain⟨c,h⟩:=h
 refine⟨⟨w,fun k=>True⟩,⟨fun _=>0,rfl,rfl,rfl,Nat.le_refl _,fun _ _ _=>rfl,fun _ _ _=>rfl,fun i d hd=>by simp at hd⟩,fun w' τ ⟨c2,h2⟩=>?_,fun {i d} hd=>d.wide (fun k hk hs=>trivial) (h.own i d hd),fun {d} hd=>d.mono (fun k hk hs=>⟨trivial,h.same k hk hs⟩) hd⟩
 refine⟨fun k=>if k<w.heap.size then c k else if c2 k=0 then 0 else c2 k+σ.length,h2.os.trans h.os,h2.tape.trans h.tape,h2.output.trans h.output,Nat.le_trans h.size h2.size,fun k hk hs=>?_,fun k hk hs=>?_,fun j d hj=>?_⟩
 ·rw[if_pos (Nat.lt_of_lt_of_le hs h.size)];exact h.keepc k hk hs
 ·exact(h2.same k trivial (Nat.lt_of_lt_of_le hs h.size)).trans (h.same k hk hs)
 ·rcases Nat.lt_or_ge j σ.length with hl | hl
  ·rw[List.getElem?_append_left hl] at hj
   refine d.mono (fun k hk hs=>?_) (h.own j d hj)
   have hk:c k=j+1:=hk
   have hs:k<w.heap.size:=hs
   exact⟨by show (if k<w.heap.size then c k else _)=_;rw[if_pos hs];exact hk,h2.same k trivial hs⟩
  ·rw[List.getElem?_append_right hl] at hj
   refine d.wide (fun k hk hs=>?_) (h2.own _ d hj)
   have hk:c2 k=j - σ.length+1:=hk
   have hns:¬k<w.heap.size:=fun hs=>by
    have:=h2.keepc k trivial hs
    omega
   show (if k<w.heap.size then c k else if c2 k=0 then 0 else c2 k+σ.length)=j+1
   rw[if_neg hns,if_neg (by omega)]
   omega
theorem Rel.focus(h:Rel B w σ)(hi:σ[i]? = some e):∃B',Rel B' w [e]∧(∀w' e' τ,Rel B' w' (e' :: τ)→Rel B w' (σ.set i e'++τ))∧(∀{j:Nat} {d:Dat},j≠i→σ[j]? = some d→d B')∧(∀{d:Dat},d B→d B'):=by
 obtain⟨c,h⟩:=h
 have hlt:i<σ.length:=by
  rcases Nat.lt_or_ge i σ.length with hl | hl
  ·exact hl
  ·rw[List.getElem?_eq_none hl] at hi;cases hi
 refine⟨⟨w,fun k=>c k≠i+1⟩,⟨fun k=>if c k=i+1 then 1 else 0,rfl,rfl,rfl,Nat.le_refl _,fun k hk _=>by rw[if_neg hk],fun _ _ _=>rfl,fun j d hd=>?_⟩,fun w' e' τ ⟨c2,h2⟩=>?_,fun {j d} hj hd=>d.wide (fun k hk hs=>?_) (h.own j d hd),fun {d} hd=>d.mono (fun k hk hs=>⟨?_,h.same k hk hs⟩) hd⟩
 ·cases j with
  | zero =>
   simp at hd
   subst hd
   refine e.wide (fun k hk hs=>?_) (h.own i e hi)
   have hk:c k=i+1:=hk
   show (if c k=i+1 then 1 else 0)=1
   rw[if_pos hk]
  | succ j=>simp at hd
 ·have hcase:∀k,k<w.heap.size→c k≠i+1→c2 k=0∧w'.heap[k]? = w.heap[k]? := fun k hs hk=>⟨h2.keepc k hk hs,h2.same k hk hs⟩
  refine⟨fun k=>if k<w.heap.size∧c k≠i+1 then c k else if c2 k=0 then 0 else if c2 k=1 then i+1 else c2 k-1+σ.length,h2.os.trans h.os,h2.tape.trans h.tape,h2.output.trans h.output,Nat.le_trans h.size h2.size,fun k hk hs=>?_,fun k hk hs=>?_,fun j d hj=>?_⟩
  ·have h0:=h.keepc k hk hs
   rw[if_pos ⟨Nat.lt_of_lt_of_le hs h.size,by omega⟩]
   exact h0
  ·have h0:=h.keepc k hk hs
   exact(hcase k (Nat.lt_of_lt_of_le hs h.size) (by omega)).2.trans (h.same k hk hs)
  ·by_cases hji:j<σ.length
   ·rw[List.getElem?_append_left (by simpa using hji)] at hj
    by_cases e1:i=j
    ·subst e1
     rw[List.getElem?_set_self hlt] at hj
     cases hj
     refine Dat.wide _ (fun k hk hs=>?_) (h2.own 0 e' rfl)
     have hk:c2 k=1:=hk
     show (if k<w.heap.size∧c k≠i+1 then c k else if c2 k=0 then 0 else if c2 k=1 then i+1 else c2 k-1+σ.length)=i+1
     rw[if_neg (fun hh=>by have:=(hcase k hh.1 hh.2).1;omega),if_neg (by omega),if_pos hk]
    ·rw[List.getElem?_set_ne e1] at hj
     refine d.mono (fun k hk hs=>?_) (h.own j d hj)
     have hk:c k=j+1:=hk
     have hs:k<w.heap.size:=hs
     exact⟨by show (if k<w.heap.size∧c k≠i+1 then c k else _)=_;rw[if_pos ⟨hs,by omega⟩];exact hk,(hcase k hs (by omega)).2⟩
   ·rw[List.getElem?_append_right (by simpa using hji),List.length_set] at hj
    have hj':(e' :: τ)[j - σ.length+1]? = some d:=by simpa using hj
    refine d.wide (fun k hk hs=>?_) (h2.own _ d hj')
    have hk:c2 k=j - σ.length+1+1:=hk
    show (if k<w.heap.size∧c k≠i+1 then c k else if c2 k=0 then 0 else if c2 k=1 then i+1 else c2 k-1+σ.length)=j+1
    rw[if_neg (fun hh=>by have:=(hcase k hh.1 hh.2).1;omega),if_neg (by omega),if_neg (by omega)]
    omega
 ·have hk:c k=j+1:=hk
  show c k≠i+1
  omega
 ·have:=h.keepc k hk hs
  show c k≠i+1
  omega
def emp:Dat:=⟨fun _=>True,fun _ _=>trivial⟩
def Dat.star(a b:Dat):Dat:=⟨fun B=>∃G:Nat→Prop,a ⟨B.W,fun k=>B.keep k∧G k⟩∧b ⟨B.W,fun k=>B.keep k∧¬G k⟩,fun {B B'} hl ⟨G,h1,h2⟩ =>
 ⟨G,a.mono (B:=⟨B.W,fun k=>B.keep k∧G k⟩) (B':=⟨B'.W,fun k=>B'.keep k∧G k⟩) (fun k (hk:B.keep k∧G k) hs=>⟨⟨(hl k hk.1 hs).1,hk.2⟩,(hl k hk.1 hs).2⟩) h1,
  b.mono (B:=⟨B.W,fun k=>B.keep k∧¬G k⟩) (B':=⟨B'.W,fun k=>B'.keep k∧¬G k⟩) (fun k (hk:B.keep k∧¬G k) hs=>⟨⟨(hl k hk.1 hs).1,hk.2⟩,(hl k hk.1 hs).2⟩) h2⟩⟩
def Dat.and(a b:Dat):Dat:=⟨fun B=>a B∧b B,fun hl h=>⟨a.mono hl h.1,b.mono hl h.2⟩⟩
def Dat.ex{α:Type}(f:α→Dat):Dat:=⟨fun B=>∃x,f x B,fun hl ⟨x,h⟩=>⟨x,(f x).mono hl h⟩⟩
def Dat.pure(p:Prop):Dat:=⟨fun _=>p,fun _ h=>h⟩
theorem Dat.star.left{a b:Dat}(h:(a.star b) B):a B:=let ⟨_,h1,_⟩:=h;a.mono (B:=⟨B.W,fun k=>B.keep k∧_⟩) (fun k hk _=>⟨hk.1,rfl⟩) h1
theorem Dat.star.right{a b:Dat}(h:(a.star b) B):b B:=let ⟨_,_,h2⟩:=h;b.mono (B:=⟨B.W,fun k=>B.keep k∧_⟩) (fun k hk _=>⟨hk.1,rfl⟩) h2
theorem Rel.imp(h:Rel B w σ)(hi:σ[i]? = some d)(he:∀B,d B→e B):Rel B w (σ.set i e):=by
 obtain⟨c,h⟩:=h
 exact⟨c,h.step hi (Step.refl _ c w) (he _ (h.own i d hi))⟩
theorem Rel.ex{α:Type}{f:α→Dat}(h:Rel B w σ)(hi:σ[i]? = some (Dat.ex f)):∃x,Rel B w (σ.set i (f x)):=by
 obtain⟨c,h⟩:=h
 obtain⟨x,hx⟩:=h.own i _ hi
 exact⟨x,c,h.step hi (Step.refl _ c w) hx⟩
theorem Rel.iW{p:Prop}(h:Rel B w σ)(hi:σ[i]? = some (Dat.and (Dat.pure p) d)):p∧Rel B w (σ.set i d):=by
 obtain⟨c,h⟩:=h
 obtain⟨x,hx⟩:=h.own i _ hi
 exact⟨x,c,h.step hi (Step.refl _ c w) hx⟩
theorem Rel.drop(h:Rel B w (σ++τ)):Rel B w σ:=by
 obtain⟨c,h⟩:=h
 refine⟨c,h.os,h.tape,h.output,h.size,h.keepc,h.same,fun i d hd=>h.own i d ?_⟩
 rw[List.getElem?_append_left]
 ·exact hd
 ·rcases Nat.lt_or_ge i σ.length with hl | hl
  ·exact hl
  ·rw[List.getElem?_eq_none hl] at hd;cases hd
theorem Rel.nil(h:Rel B w σ):Rel B w []:=Rel.drop (σ:=[]) (τ:=σ) h
theorem Rel.take(n:Nat)(h:Rel B w σ):Rel B w (σ.take n):=Rel.drop (τ:=σ.drop n) (by rw[List.take_append_drop];exact h)
open Classical in
theorem Rel.split{a b:Dat}(h:Rel B w σ)(hi:σ[i]? = some (a.star b)):Rel B w (σ.set i a++[b]):=by
 obtain⟨c,h⟩:=h
 obtain⟨G,ha,hb⟩:=h.own i _ hi
 have hlt:i<σ.length:=by
  rcases Nat.lt_or_ge i σ.length with hl | hl
  ·exact hl
  ·rw[List.getElem?_eq_none hl] at hi;cases hi
 refine⟨fun k=>if c k=i+1∧¬G k then σ.length+1 else c k,h.os,h.tape,h.output,h.size,fun k hk hs=>?_,h.same,fun j d hj=>?_⟩
 ·have:=h.keepc k hk hs
  show (if c k=i+1∧¬G k then _ else c k)=0
  rw[if_neg (by omega)]
  exact this
 ·by_cases hjl:j<σ.length
  ·rw[List.getElem?_append_left (by simpa using hjl)] at hj
   by_cases e1:i=j
   ·subst e1
    rw[List.getElem?_set_self hlt] at hj
    cases hj
    refine Dat.wide _ (fun k hk hs=>?_) ha
    show (if c k=i+1∧¬G k then _ else c k)=i+1
    rw[if_neg (fun hh=>hh.2 hk.2)]
    exact hk.1
   ·rw[List.getElem?_set_ne e1] at hj
    refine d.wide (fun k hk hs=>?_) (h.own j d hj)
    have hk:c k=j+1:=hk
    show (if c k=i+1∧¬G k then _ else c k)=j+1
    rw[if_neg (by omega)]
    exact hk
  ·rw[List.getElem?_append_right (by simpa using hjl),List.length_set] at hj
   have hj0:j=σ.length:=by
    rcases Nat.lt_trichotomy j σ.length with h' | h' | h'
    ·omega
    ·exact h'
    ·rw[List.getElem?_eq_none (by simp;omega)] at hj;cases hj
   subst hj0
   simp at hj
   subst hj
   refine Dat.wide _ (fun k hk hs=>?_) hb
   show (if c k=i+1∧¬G k then _ else c k)=σ.length+1
   rw[if_pos hk]
theorem Rel.join{a b:Dat}(h:Rel B w σ)(i j:Nat)(hi:σ[i]? = some a)(hj:σ[j]? = some b)(hij:i≠j):Rel B w ((σ.set i (a.star b)).set j emp):=by
 obtain⟨c,h⟩:=h
 have hlt:i<σ.length:=by
  rcases Nat.lt_or_ge i σ.length with hl | hl
  ·exact hl
  ·rw[List.getElem?_eq_none hl] at hi;cases hi
 have hltj:j<σ.length:=by
  rcases Nat.lt_or_ge j σ.length with hl | hl
  ·exact hl
  ·rw[List.getElem?_eq_none hl] at hj;cases hj
 refine⟨fun k=>if c k=j+1 then i+1 else c k,h.os,h.tape,h.output,h.size,fun k hk hs=>?_,h.same,fun m d hm=>?_⟩
 ·have:=h.keepc k hk hs
  show (if c k=j+1 then _ else c k)=0
  rw[if_neg (by omega)]
  exact this
 ·by_cases e1:j=m
  ·subst e1
   rw[List.getElem?_set_self (by simpa using hltj)] at hm
   cases hm
   trivial
  ·rw[List.getElem?_set_ne e1] at hm
   by_cases e2:i=m
   ·subst e2
    rw[List.getElem?_set_self hlt] at hm
    cases hm
    refine⟨fun k=>c k=i+1,a.wide (fun k hk hs=>⟨?_,hk⟩) (h.own i a hi),b.wide (fun k hk hs=>⟨?_,?_⟩) (h.own j b hj)⟩
    ·have hk:c k=i+1:=hk
     show (if c k=j+1 then _ else c k)=_
     split
     ·rfl
     ·exact hk
    ·have hk:c k=j+1:=hk
     show (if c k=j+1 then _ else c k)=_
     rw[if_pos hk]
    ·have hk:c k=j+1:=hk
     show ¬(c k=i+1)
     omega
   ·rw[List.getElem?_set_ne e2] at hm
    refine d.wide (fun k hk hs=>?_) (h.own m d hm)
    have hk:c k=m+1:=hk
    show (if c k=j+1 then _ else c k)=_
    rw[if_neg (by omega)]
    exact hk
theorem Rel.yN0{a b:Dat}(h:Rel B w (σ++[b]))(i:Nat)(hi:σ[i]? = some a):Rel B w (σ.set i (a.star b)):=by
 have hlt:i<σ.length:=by
  rcases Nat.lt_or_ge i σ.length with hl | hl
  ·exact hl
  ·rw[List.getElem?_eq_none hl] at hi;cases hi
 have:=Rel.join (a:=a) (b:=b) h i σ.length (by rw[List.getElem?_append_left hlt];exact hi) (by simp) (by omega)
 have e:((σ++[b]).set i (a.star b)).set σ.length emp=σ.set i (a.star b)++[emp]:=by
  rw[List.set_append_left _ _ hlt,List.set_append_right _ _ (by simp)]
  simp
 rw[e] at this
 exact this.drop
theorem Rel.freeze(h:Rel B w σ)(hi:σ[i]? = some d):∃B',B.ext B'∧Rel B' w (σ.set i emp)∧d B':=by
 obtain⟨c,h⟩:=h
 have hlt:i<σ.length:=by
  rcases Nat.lt_or_ge i σ.length with hl | hl
  ·exact hl
  ·rw[List.getElem?_eq_none hl] at hi;cases hi
 refine⟨⟨w,fun k=>(B.keep k∧k<B.W.heap.size)∨c k=i+1⟩,⟨fun k hk hs=>⟨.inl ⟨hk,hs⟩,h.same k hk hs⟩,h.os,h.tape,h.output,h.size⟩,⟨fun k=>if c k=i+1 then 0 else c k,rfl,rfl,rfl,Nat.le_refl _,fun k hk hs=>?_,fun _ _ _=>rfl,fun j e hj=>?_⟩,d.wide (fun k hk hs => .inr hk) (h.own i d hi)⟩
 ·show (if c k=i+1 then 0 else c k)=0
  split
  ·rfl
  ·rcases hk with hk | hk
   ·exact h.keepc k hk.1 hk.2
   ·contradiction
 ·by_cases e1:i=j
  ·subst e1
   rw[List.getElem?_set_self hlt] at hj
   cases hj
   trivial
  ·rw[List.getElem?_set_ne e1] at hj
   refine e.wide (fun k hk hs=>?_) (h.own j e hj)
   have hk:c k=j+1:=hk
   show (if c k=i+1 then 0 else c k)=j+1
   rw[if_neg (by omega)]
   exact hk
end
def O1(b:Nat)(E:TypeId)(cs:Array Value):Dat:=⟨fun B=>B.keep b∧B.W.heap[b]? = some (.cells cs E (0,0)),fun {B B'} hl ⟨h1,h2⟩=>by
 obtain⟨h3,h4⟩:=hl b h1 (Array.getElem?_eq_some_iff.1 h2).1
 exact⟨h3,h4.trans h2⟩⟩
def F6(g o:Nat)(xs:List Value):Dat:=⟨fun B=>B.keep g∧g<B.W.heap.size∧∀j v,xs[j]? = some v→B.W.cell? ⟨g,o+j,none⟩=some v,fun {B B'} hl ⟨h1,h2,h3⟩=>by
 obtain⟨h4,h5⟩:=hl g h1 h2
 have h6:g<B'.W.heap.size:=by
  rw[Array.getElem?_eq_getElem h2] at h5
  exact(Array.getElem?_eq_some_iff.1 h5).1
 refine⟨h4,h6,fun j v hv=>?_⟩
 rw[World.cell?_of_block (w:=B.W) h5]
 exact h3 j v hv⟩
section
variable {α:Type} [Enc α]
def Q4(v:Value)(l:List α):Dat:=⟨fun B=>∃a cap,v = .slice a l.length cap∧l.length≤cap∧(l=[]∨∃g o,a=some ⟨g,o,none⟩∧F6 g o (flat l) B),fun {B B'} hl ⟨a,cap,h1,h2,h3⟩ =>
 ⟨a,cap,h1,h2,h3.imp id fun⟨g,o,h4,h5⟩=>⟨g,o,h4,(F6 g o (flat l)).mono hl h5⟩⟩⟩
def V3(E:TypeId)(v:Value)(l:List α):Dat:=⟨fun B=>(v = .slice none 0 0∧l=[])∨∃g cap cur,v = .slice (some ⟨g,0,none⟩) l.length cap∧O1 g E cur B∧l.length≤cap∧cap≤maxLen∧cur.size=cap * Enc.sz α∧cur.toList.take (l.length * Enc.sz α)=flat l,fun {B B'} hl h =>
 h.imp id fun⟨g,cap,cur,h1,h2,h3⟩=>⟨g,cap,cur,h1,(O1 g E cur).mono hl h2,h3⟩⟩
end
section
variable {α:Type} [Enc α] {B:Base} {c:Nat→Nat} {w:World} {σ:List Dat} {i t:Nat} {E:TypeId} {v:Value} {l:List α}
theorem Blk.O1{b:Nat}{cs:Array Value}(h:Blk c t w b E cs):O1 b E cs ⟨w,fun k=>c k=t⟩:=h
theorem V3.own(h:V3 E v l ⟨w,fun k=>c k=t⟩):nC c t w E v l:=by
 rcases h with⟨rfl,rfl⟩ | ⟨g,cap,cur,rfl,hb,h1,h2,h3,h4⟩
 ·exact nC.nil _ _ _ _
 ·exact nC.mk_ (cur:=cur) hb rfl h1 h2 h3 h4
theorem nC.V3(h:nC c t w E v l):V3 E v l ⟨w,fun k=>c k=t⟩:=h.cases
theorem V3.read(h:V3 E v l B):Q4 v l B:=by
 rcases h with⟨rfl,rfl⟩ | ⟨g,cap,cur,rfl,hb,h1,h2,h3,h4⟩
 ·exact⟨none,0,rfl,Nat.le_refl _,.inl rfl⟩
 ·refine⟨_,cap,rfl,h1,.inr ⟨g,0,rfl,hb.1,(Array.getElem?_eq_some_iff.1 hb.2).1,fun j v hv=>?_⟩⟩
  rw[←h4,List.getElem?_take] at hv
  split at hv
  ·rw[Nat.zero_add]
   simp only[World.cell?,hb.2]
   simpa using hv
  ·cases hv
def Rd(B:Base)(σ:List Dat)(X:List Nat)(v:Value)(l:List α):Prop:=Q4 v l B∨∃j E,j ∉ X∧σ[j]? = some (V3 E v l)
theorem Rd.base{X:List Nat}(h:Q4 v l B):Rd B σ X v l := .inl h
theorem Rd.at{X:List Nat}(j:Nat)(hj:σ[j]? = some (V3 E v l))(hx:j ∉ X:=by decide):Rd B σ X v l := .inr ⟨j,E,hx,hj⟩
theorem Rel.rd{X:List Nat}(h:Rel B w σ)(r:Rd B σ X v l):(Q4 v l).here w:=by
 rcases r with r | ⟨j,E,_,hj⟩
 ·exact h.K6 r
 ·exact V3.read (h.here hj)
theorem GV.rds{X:List Nat}(h:GV B c w σ)(r:Rd B σ X v l):∃u,kN c u w v l:=by
 rcases r with r | ⟨j,E,_,hj⟩
 ·exact⟨0,Dat.mono _ h.le r⟩
 ·exact⟨j+1,V3.read (h.own j _ hj)⟩
theorem GV.rd(h:GV B c w σ)(r:Rd B σ [i] v l):∃u,u≠i+1∧kN c u w v l:=by
 rcases r with r | ⟨j,E,hx,hj⟩
 ·exact⟨0,by omega,Dat.mono _ h.le r⟩
 ·exact⟨j+1,by simp at hx;omega,V3.read (h.own j _ hj)⟩
end
section
variable {P:Program} {K:PtK} {Kp:Value→Prop} {B:Base} {w:World} {σ:List Dat} {T E:TypeId}
theorem F6.ld{g o j:Nat}{xs:List Value}{v:Value}(h:(F6 g o xs).here w)(hs:scB P T=true)(hv:xs[j]? = some v):Y0 P (X0 T (.pointer (some ⟨g,o+j,none⟩))) w Kp=Kp v :=
 Mi0 hs (h.2.2 j v hv)
theorem F6.ld0{g o:Nat}{xs:List Value}{v:Value}(h:(F6 g o xs).here w)(hs:scB P T=true)(hv:xs[0]? = some v):Y0 P (X0 T (.pointer (some ⟨g,o,none⟩))) w Kp=Kp v :=
 Mi0 hs (h.2.2 0 v hv)
theorem F6.Q9{g o n:Nat}{xs:List Value}(h:(F6 g o xs).here w)(hs:agB P T n=true)(hn:xs.length=n):Y0 P (X0 T (.pointer (some ⟨g,o,none⟩))) w Kp=Kp (.agg xs.toArray) :=
 sK0 hs hn h.2.2
theorem F6.is{g o j:Nat}{xs:List Value}{v:Value}(h:(F6 g o xs).here w)(hs:scB P T=true)(hv:xs[j]? = some v):Is P (X0 T (.pointer (some ⟨g,o+j,none⟩))) v w :=
 EX hs (h.2.2 j v hv)
theorem F6.uX{g o n:Nat}{xs:List Value}(h:(F6 g o xs).here w)(hs:agB P T n=true)(hn:xs.length=n):Is P (X0 T (.pointer (some ⟨g,o,none⟩))) (.agg xs.toArray) w :=
 CX hs hn h.2.2
theorem O1.jV{b o:Nat}{cs:Array Value}{v:Value}(h:(O1 b E cs).here w)(hv:cs[o]? = some v):w.cell? ⟨b,o,none⟩=some v:=Blk.cell (c:=fun _=>0) (t:=0) ⟨rfl,h.2⟩ hv
theorem O1.ld{b o:Nat}{cs:Array Value}{v:Value}(h:(O1 b E cs).here w)(hs:scB P T=true)(hv:cs.toList[o]? = some v):Y0 P (X0 T (.pointer (some ⟨b,o,none⟩))) w Kp=Kp v:=Mi0 hs (O1.jV h (by rw[←hv];simp))
theorem O1.is{b o:Nat}{cs:Array Value}{v:Value}(h:(O1 b E cs).here w)(hs:scB P T=true)(hv:cs.toList[o]? = some v):Is P (X0 T (.pointer (some ⟨b,o,none⟩))) v w:=EX hs (O1.jV h (by rw[←hv];simp))
theorem O1.Q9{b n:Nat}{cs:Array Value}(h:(O1 b E cs).here w)(hs:agB P T n=true)(hn:cs.size=n):Y0 P (X0 T (.pointer (some ⟨b,0,none⟩))) w Kp=Kp (.agg cs):=by
 have:=sK0 (P:=P) (w:=w) (K:=Kp) (g:=b) (o:=0) (vs:=cs.toList) hs (by simpa using hn) fun j v hv=>by rw[Nat.zero_add];exact O1.jV h (by simpa using hv)
 simpa using this
theorem O1.uX{b n:Nat}{cs:Array Value}(h:(O1 b E cs).here w)(hs:agB P T n=true)(hn:cs.size=n):Is P (X0 T (.pointer (some ⟨b,0,none⟩))) (.agg cs) w:=by
 show _=_
 have:=CX (P:=P) (w:=w) (g:=b) (o:=0) (vs:=cs.toList) hs (by simpa using hn) fun j v hv=>by rw[Nat.zero_add];exact O1.jV h (by simpa using hv)
 simpa using this
theorem O1.sub{B:Base}{b o:Nat}{cs:Array Value}{xs:List Value}(h:O1 b E cs B)(hx:(cs.toList.drop o).take xs.length=xs):F6 b o xs B:=by
 refine⟨h.1,(Array.getElem?_eq_some_iff.1 h.2).1,fun j v hv=>?_⟩
 have hj:j<xs.length:=by
  rcases Nat.lt_or_ge j xs.length with h | h
  ·exact h
  ·rw[List.getElem?_eq_none h] at hv;cases hv
 have h1:cs.toList[o+j]? = some v:=by
  rw[←hx,List.getElem?_take,if_pos hj,List.getElem?_drop] at hv
  exact hv
 simp only[World.cell?,h.2]
 simpa using h1
section
variable {α:Type} [Enc α] {by_:Nat} {v:Value} {l:List α} {X:List Nat}
theorem Q4.len(h:Q4 v l B)(hT:sliceB P T E (Enc.sz α) by_=true){U:TypeId}{bs:Array Bool}:Y0 P (J5 .len #[T] U bs #[v]) w Kp=Kp (.int .i64 l.length):=by
 obtain⟨a,cap,rfl,_⟩:=h
 exact Od0 (v_ hT).1
theorem Q4.idx(h:Q4 v l B)(hT:sliceB P T E (Enc.sz α) by_=true){i:Nat}(hi:i<l.length) :
  ∃g o,(∀{Kp:Value→Prop},M0 P (Y4 T v (.int .i64 i)) Kp=Kp (.pointer (some ⟨g,o,none⟩)))∧F6 g o (Enc.cells l[i]) B:=by
 obtain⟨a,cap,rfl,hc,h⟩:=h
 rcases h with rfl | ⟨g,o,rfl,h⟩
 ·simp at hi
 ·obtain⟨hu,i',z,hinfo,hz,hs,hb,hzs⟩:=v_ hT
  refine⟨g,o+i * Enc.sz α,fun {Kp}=>V4 fun w=>V9 ?_,h.1,h.2.1,fun j u hj=>?_⟩
  ·simp [Instr.indexAt,asIntOf,run_underlying hu,sizeOf,typeInfo,hinfo,hs,hi,addr_add]
  ·rw[Nat.add_assoc]
   exact h.2.2 _ _ (flat_get hi hj)
theorem Q4.Fh0(h:Q4 v l B)(hr:Rel B w σ)(hT:sliceB P T E (Enc.sz α) by_=true){i:Nat}(hi:i<l.length){T':TypeId}(hs:scB P T'=true){x:Value}(hx:Enc.cells l[i]=[x]) :
  ∃p,(∀{Kp:Value→Prop},M0 P (Y4 T v (.int .i64 i)) Kp=Kp p)∧(∀{Kp:Value→Prop},Y0 P (X0 T' p) w Kp=Kp x):=by
 obtain⟨g,o,h1,h2⟩:=Q4.idx h hT hi
 exact⟨_,h1,fun {Kp}=>F6.ld0 (hr.K6 h2) hs (by rw[hx];rfl)⟩
theorem Q4.cut(h:Q4 v l B)(hT:sliceB P T E (Enc.sz α) by_=true){lo hi:Nat}{lov hiv:Option Value}(hlo:Bnd lov 0 lo)(hhi:Bnd hiv l.length hi)(h1:lo≤hi)(h2:hi≤l.length) :
  ∃v',(∀{Kp:Value→Prop},M0 P (d9 T v lov hiv none) Kp=Kp v')∧Q4 v' ((l.take hi).drop lo) B:=by
 obtain⟨a,cap,rfl,hc,h⟩:=h
 refine⟨_,fun {Kp}=>V4 fun w=>QN hT hlo hhi h1 (by omega) w,?_⟩
 have hlen:((l.take hi).drop lo).length=hi-lo:=by simp;omega
 refine⟨_,cap-lo,by rw[hlen],by rw[hlen];omega,?_⟩
 rcases h with rfl | ⟨g,o,rfl,h⟩
 ·left;simp
 ·by_cases he:cap=lo
  ·left
   exact List.eq_nil_of_length_eq_zero (by rw[hlen];omega)
  ·right
   refine⟨g,o+lo * Enc.sz α,?_,h.1,h.2.1,fun j u hj=>?_⟩
   ·simp [he,addr_add]
   ·rw[Nat.add_assoc]
    refine h.2.2 _ _ ?_
    rw[←uL,←wF,List.getElem?_drop,List.getElem?_take] at hj
    split at hj
    ·exact hj
    ·cases hj
def cutV(sz:Nat)(v:Value)(lo hi:Nat):Value:=match v with
 | .slice a _ cap => .slice (if cap=lo then a else a.map (·.add (lo * sz))) (hi-lo) (cap-lo)
 | v=>v
theorem Q4.Sh0(h:Q4 v l B)(hT:sliceB P T E (Enc.sz α) by_=true){lo hi:Nat}{lov hiv:Option Value}(hlo:Bnd lov 0 lo)(hhi:Bnd hiv l.length hi)(h1:lo≤hi)(h2:hi≤l.length) :
  M0 P (d9 T v lov hiv none) Kp=Kp (cutV (Enc.sz α) v lo hi):=by
 obtain⟨a,cap,rfl,hc,h⟩:=h
 exact V4 fun w=>QN hT hlo hhi h1 (by omega) w
theorem Q4.qn0(h:Q4 v l B){lo hi:Nat}(h1:lo≤hi)(h2:hi≤l.length):Q4 (cutV (Enc.sz α) v lo hi) ((l.take hi).drop lo) B:=by
 obtain⟨a,cap,rfl,hc,h⟩:=h
 have hlen:((l.take hi).drop lo).length=hi-lo:=by simp;omega
 refine⟨_,cap-lo,by rw[hlen];rfl,by rw[hlen];omega,?_⟩
 rcases h with rfl | ⟨g,o,rfl,h⟩
 ·left;simp
 ·by_cases he:cap=lo
  ·left
   exact List.eq_nil_of_length_eq_zero (by rw[hlen];omega)
  ·right
   refine⟨g,o+lo * Enc.sz α,?_,h.1,h.2.1,fun j u hj=>?_⟩
   ·simp [he,addr_add]
   ·rw[Nat.add_assoc]
    refine h.2.2 _ _ ?_
    rw[←uL,←wF,List.getElem?_drop,List.getElem?_take] at hj
    split at hj
    ·exact hj
    ·cases hj
theorem Rel.vZ(h:Rel B w σ)(hT:sliceB P T E (Enc.sz α) by_=true)(k:∀v w',Rel B w' (σ++[V3 E v ([]:List α)])→v ≠ .slice none 0 0→K v w'):upK P (P6 T 0 #[]) w K:=by
 obtain⟨c,h⟩:=h
 exact Go.Proofs.YtngbebnhegcokaaGreatDoor.vZ (α:=α) (c:=c) (t:=σ.length+1) hT fun c' v w' st hr hv=>k v w' ⟨c',h.push st hr.V3⟩ hv
theorem Rel.bH(h:Rel B w σ)(x:α)(hT:sliceB P T E (Enc.sz α) by_=true)(hsz:Enc.sz α≤16777216){xv:Value}(k:∀v w',Rel B w' (σ++[V3 E v [x]])→K v w')(hx:xv=Enc.val x:=by rfl):upK P (P6 T 1 #[(0,xv)]) w K:=by
 obtain⟨c,h⟩:=h
 subst hx
 exact Go.Proofs.YtngbebnhegcokaaGreatDoor.bH (α:=α) (c:=c) (t:=σ.length+1) x hT hsz fun c' v w' st hr=>k v w' ⟨c',h.push st hr.V3⟩
theorem Rel.XW(h:Rel B w σ)(l:List α){n:Nat}{ps:Array (Nat×Value)}(hT:sliceB P T E (Enc.sz α) by_=true)(k:∀v w',Rel B w' (σ++[V3 E v l])→K v w')(hn:n=l.length:=by rfl)(h0:0<n:=by decide)(hsz:n * Enc.sz α≤16777216:=by decide)
  (hps:ps=((l.zipIdx 0).map fun p=>(p.2,Enc.val p.1)).toArray:=by rfl):upK P (P6 T n ps) w K:=by
 obtain⟨c,h⟩:=h
 exact Go.Proofs.YtngbebnhegcokaaGreatDoor.XW (c:=c) (t:=σ.length+1) l hT hn h0 hsz hps fun c' v w' st hr=>k v w' ⟨c',h.push st hr.V3⟩
theorem Rel.append(h:Rel B w σ)(i:Nat)(hi:σ[i]? = some (V3 E v l))(hT:sliceB P T E (Enc.sz α) by_=true){v2:Value}{l2:List α}(r:Rd B σ [i] v2 l2)
  (hb:(l.length+l2.length) * by_≤140737488355328) (h63:l.length+l2.length≤140737488355328) {U:TypeId} {bs:Array Bool} (k:∀v' w',Rel B w' (σ.set i (V3 E v' (l++l2)))→K v' w'):upK P (J5 .append #[T,T] U bs #[v,v2]) w K:=by
 obtain⟨c,h⟩:=h
 obtain⟨u,_,r⟩:=h.rd r
 exact tt0 hT (V3.own (h.own i _ hi)) r hb h63 fun c' v' w' st hr=>k v' w' ⟨c',h.step hi st hr.V3⟩
theorem Rel.Df0(h:Rel B w σ)(i:Nat)(hi:σ[i]? = some (V3 E v l))(x:α)(hT:sliceB P T E (Enc.sz α) by_=true)(hsz:Enc.sz α≤16777216)
  (hb:(l.length+1) * by_≤140737488355328) (h63:l.length+1≤140737488355328) {U:TypeId} {bs:Array Bool} {K':Value→World→Prop} {xv:Value} (k:∀v' w',Rel B w' (σ.set i (V3 E v' (l++[x])))→K' v' w') (hx:xv=Enc.val x:=by rfl) :
  upK P (P6 T 1 #[(0,xv)]) w fun t w1=>upK P (J5 .append #[T,T] U bs #[v,t]) w1 fun v' w2=>K' v' w2:=by
 have hlt:i<σ.length:=by
  rcases Nat.lt_or_ge i σ.length with hl | hl
  ·exact hl
  ·rw[List.getElem?_eq_none hl] at hi;cases hi
 refine h.bH x hT hsz (fun t w1 h1=>?_) hx
 refine h1.append i (by rw[List.getElem?_append_left hlt];exact hi) hT (l2:=[x]) (Rd.at σ.length (E:=E) (by rw[List.getElem?_append_right (Nat.le_refl _)];simp) (by simp;omega)) hb h63 fun v' w2 h2=>k v' w2 ?_
 rw[List.set_append_left _ _ hlt] at h2
 exact h2.drop
theorem Rel.grow(h:Rel B w σ)(hT:sliceB P T E (Enc.sz α) by_=true){a:Option Addr}{cap:Nat}(hv:v = .slice a l.length cap)(r1:Rd B σ [] v l){v2:Value}{l2:List α}(r:Rd B σ [] v2 l2)(hcap:cap<l.length+l2.length)
  (hb:(l.length+l2.length) * by_≤140737488355328) (h63:l.length+l2.length≤140737488355328) {U:TypeId} {bs:Array Bool} (k:∀v' w',Rel B w' (σ++[V3 E v' (l++l2)])→K v' w'):upK P (J5 .append #[T,T] U bs #[v,v2]) w K:=by
 obtain⟨c,h⟩:=h
 obtain⟨u1,r1⟩:=h.rds r1
 obtain⟨u2,r2⟩:=h.rds r
 exact Se0 (c:=c) (t:=σ.length+1) hT hv r1 r2 hcap hb h63 fun c' v' w' st hr=>k v' w' ⟨c',h.push st hr.V3⟩
theorem Rel.mkSlice(h:Rel B w σ){n:Nat}(x:α)(hT:sliceB P T E (Enc.sz α) by_=true)(hx:((P.info? E).bind (·.zero)).map (·.cells)=some (Enc.cells x).toArray)(hn:n * by_≤140737488355328)(hn1:n≤140737488355328)
  (k:∀v w',Rel B w' (σ++[V3 E v (List.replicate n x)])→v ≠ .slice none 0 0→K v w'):upK P (IQ T (.int .i64 n) (.int .i64 n)) w K:=by
 obtain⟨c,h⟩:=h
 exact yE0 (c:=c) (t:=σ.length+1) x hT hx hn hn1 fun c' v w' st hr hv=>k v w' ⟨c',h.push st hr.V3⟩ hv
theorem Rel.open_(h:Rel B w σ){i:Nat}(hi:σ[i]? = some (V3 E v l))(hl:0<l.length):∃g cap,v = .slice (some ⟨g,0,none⟩) l.length cap:=by
 rcases h.here hi with⟨_,rfl⟩ | ⟨g,cap,_,rfl,_⟩
 ·simp at hl
 ·exact⟨g,cap,rfl⟩
theorem Rel.ox0(h:Rel B w σ){i:Nat}(hi:σ[i]? = some (V3 E v l))(hv:v ≠ .slice none 0 0):∃g cap,v = .slice (some ⟨g,0,none⟩) l.length cap:=by
 rcases h.here hi with⟨h,_⟩ | ⟨g,cap,_,rfl,_⟩
 ·exact absurd h hv
 ·exact⟨g,cap,rfl⟩
theorem Rel.oneCell(h:Rel B w σ){i:Nat}(hi:σ[i]? = some (V3 E v l)):v.oneCell'=true:=by
 rcases h.here hi with⟨rfl,_⟩ | ⟨g,cap,_,rfl,_⟩<;>rfl
theorem Q4.oneCell(h:Q4 v l B):v.oneCell'=true:=by
 obtain⟨a,cap,rfl,_⟩:=h
 rfl
theorem Q4.form(h:Q4 v l B):∃a cap,v = .slice a l.length cap∧l.length≤cap:=by
 obtain⟨a,cap,h1,h2,_⟩:=h
 exact⟨a,cap,h1,h2⟩
theorem Rel.Io0(h:Rel B w σ)(i:Nat){g n cap j f o:Nat}{v':Value}{T':TypeId}(hi:σ[i]? = some (V3 E (.slice (some ⟨g,0,none⟩) n cap) l))(x:α)(hj:j<l.length)(ho:o=j * Enc.sz α+f)(hf:f<Enc.sz α)
  (hx:Enc.cells x=(Enc.cells l[j]).set f v') (hs:scB P T'=true) (h1:v'.oneCell'=true) (k:∀w',Rel B w' (σ.set i (V3 E (.slice (some ⟨g,0,none⟩) n cap) (l.set j x)))→K undef w') :
  upK P (F4 T' (.pointer (some ⟨g,o,none⟩)) v') w K:=by
 obtain⟨c,h⟩:=h
 exact(V3.own (h.own i _ hi)).Io0 x hj ho hf hx hs h1 fun w' st hr=>k w' ⟨c,h.step hi st hr.V3⟩
theorem Rel.Eo0(h:Rel B w σ)(i:Nat){g n cap j m:Nat}{ds:Array Value}{T':TypeId}(hi:σ[i]? = some (V3 E (.slice (some ⟨g,0,none⟩) n cap) l))(x:α)(hj:j<l.length)(ht:agB P T' m=true)(hm:m=Enc.sz α)(hd:ds.toList=Enc.cells x)
  (k:∀w',Rel B w' (σ.set i (V3 E (.slice (some ⟨g,0,none⟩) n cap) (l.set j x)))→K undef w'):upK P (F4 T' (.pointer (some ⟨g,j * Enc.sz α,none⟩)) (.agg ds)) w K:=by
 obtain⟨c,h⟩:=h
 exact(V3.own (h.own i _ hi)).Eo0 x hj ht hm hd fun w' st hr=>k w' ⟨c,h.step hi st hr.V3⟩
theorem Rel.elem(h:Rel B w σ){i:Nat}{g n cap j:Nat}(hi:σ[i]? = some (V3 E (.slice (some ⟨g,0,none⟩) n cap) l))(hj:j<l.length):(F6 g (j * Enc.sz α) (Enc.cells l[j])).here w:=by
 have:=(V3.own (c:=fun _=>0) (t:=0) (by
  have:=h.here hi
  exact Dat.wide _ (fun k hk hs=>rfl) this)).elem hj
 exact⟨trivial,this.2.1,this.2.2⟩
theorem Rel.za0(h:Rel B w σ)(i:Nat){g n cap lo:Nat}{l2:List α}{v2:Value}{T2:TypeId}{a:Option Addr}{dc:Nat}(hi:σ[i]? = some (V3 E (.slice (some ⟨g,0,none⟩) n cap) l))(hT:sliceB P T E (Enc.sz α) by_=true)(r:Rd B σ [i] v2 l2)
  (hlo:lo≤l.length) (ha:a=some ⟨g,lo * Enc.sz α,none⟩∨lo=l.length∧a=some ⟨g,0,none⟩) {U:TypeId} {bs:Array Bool}
  (k:∀w',Rel B w' (σ.set i (V3 E (.slice (some ⟨g,0,none⟩) n cap) (l.take lo++l2.take (l.length-lo)++l.drop (lo+(l2.take (l.length-lo)).length))))→K (.int .i64 (l2.take (l.length-lo)).length) w') :
  upK P (J5 .copy #[T,T2] U bs #[.slice a (n-lo) dc,v2]) w K:=by
 obtain⟨c,h⟩:=h
 obtain⟨u,_,r⟩:=h.rd r
 exact copy_part hT (V3.own (h.own i _ hi)) r hlo ha fun w' st hr=>k w' ⟨c,h.step hi st hr.V3⟩
end
theorem Rel.box(h:Rel B w σ){v:Value}(k:∀b w',Rel B w' (σ++[O1 b T v.cells])→K (.pointer (some ⟨b,0,none⟩)) w'):upK P (yC T v) w K:=by
 obtain⟨c,h⟩:=h
 exact lL0 (c:=c) (t:=σ.length+1) fun c' w' _ hb st=>k _ w' ⟨c',h.push st hb.O1⟩
theorem Rel.alloc(h:Rel B w σ){z:Value}(hz:(P.info? T).bind (·.zero)=some z)(k:∀b w',Rel B w' (σ++[O1 b T z.cells])→K (.pointer (some ⟨b,0,none⟩)) w'):upK P (I7 T) w K:=by
 obtain⟨c,h⟩:=h
 exact dC0 (c:=c) (t:=σ.length+1) hz fun c' w' _ hb st=>k _ w' ⟨c',h.push st hb.O1⟩
theorem Rel.st(h:Rel B w σ)(i:Nat){b o:Nat}{cs:Array Value}{v:Value}{T':TypeId}(hi:σ[i]? = some (O1 b E cs))(hs:scB P T'=true)(ho:o<cs.size)(h1:v.oneCell'=true)
  (k:∀w',Rel B w' (σ.set i (O1 b E (cs.setIfInBounds o v)))→K undef w'):upK P (F4 T' (.pointer (some ⟨b,o,none⟩)) v) w K:=by
 obtain⟨c,h⟩:=h
 exact Ux0 hs (h.own i _ hi) ho h1 fun hb st=>k _ ⟨c,h.step hi st hb.O1⟩
theorem Rel.Av0(h:Rel B w σ)(i:Nat){n b o:Nat}{cs ds:Array Value}{T':TypeId}(hi:σ[i]? = some (O1 b E cs))(ht:agB P T' n=true)(hn:ds.size=n)(ho:o+n≤cs.size)(h1:∀v∈ds.toList,v.oneCell'=true)
  (k:∀w',Rel B w' (σ.set i (O1 b E (cs.toList.take o++ds.toList++cs.toList.drop (o+n)).toArray))→K undef w'):upK P (F4 T' (.pointer (some ⟨b,o,none⟩)) (.agg ds)) w K:=by
 obtain⟨c,h⟩:=h
 exact BK0 ht (h.own i _ hi) hn ho (fun v hv=>h1 v (by simpa using hv)) fun w' hb st=>k w' ⟨c,h.step hi st hb.O1⟩
theorem Rel.r9(h:Rel B w σ){n:Nat}{z:Value}{ds:Array Value}(hz:(P.info? T).bind (·.zero)=some z)(hzs:z.cells.size=n)(ht:agB P T n=true)(hn:ds.size=n)(h1:∀v∈ds.toList,v.oneCell'=true){K':Value→World→Prop}
  (k:∀b w',Rel B w' (σ++[O1 b T ds])→K' (.pointer (some ⟨b,0,none⟩)) w'):upK P (I7 T) w fun p w1=>upK P (F4 T p (.agg ds)) w1 fun _ w2=>K' p w2:=by
 refine h.alloc hz fun b w1 h1'=>?_
 refine h1'.Av0 (E:=T) (cs:=z.cells) σ.length (by rw[List.getElem?_append_right (Nat.le_refl _)];simp) ht hn (by omega) h1 fun w2 h2=>k b w2 ?_
 rw[List.set_append_right _ _ (Nat.le_refl _)] at h2
 simp only[List.take_zero,List.nil_append,Nat.zero_add,Nat.sub_self,List.set_cons_zero] at h2
 rw[List.drop_of_length_le (by simp;omega),List.append_nil,Array.toArray_toList] at h2
 exact h2
theorem Rel.ld(h:Rel B w σ)(i:Nat){b o:Nat}{cs:Array Value}{v:Value}{T':TypeId}(hi:σ[i]? = some (O1 b E cs))(hs:scB P T'=true)(hv:cs.toList[o]? = some v):Y0 P (X0 T' (.pointer (some ⟨b,o,none⟩))) w Kp=Kp v:=O1.ld (h.here hi) hs hv
theorem Rel.is(h:Rel B w σ)(i:Nat){b o:Nat}{cs:Array Value}{v:Value}{T':TypeId}(hi:σ[i]? = some (O1 b E cs))(hs:scB P T'=true)(hv:cs.toList[o]? = some v):Is P (X0 T' (.pointer (some ⟨b,o,none⟩))) v w:=O1.is (h.here hi) hs hv
theorem Rel.Q9(h:Rel B w σ)(i:Nat){b n:Nat}{cs:Array Value}{T':TypeId}(hi:σ[i]? = some (O1 b E cs))(hs:agB P T' n=true)(hn:cs.size=n):Y0 P (X0 T' (.pointer (some ⟨b,0,none⟩))) w Kp=Kp (.agg cs):=O1.Q9 (h.here hi) hs hn
theorem Rel.uX(h:Rel B w σ)(i:Nat){b n:Nat}{cs:Array Value}{T':TypeId}(hi:σ[i]? = some (O1 b E cs))(hs:agB P T' n=true)(hn:cs.size=n):Is P (X0 T' (.pointer (some ⟨b,0,none⟩))) (.agg cs) w:=O1.uX (h.here hi) hs hn
instance:Enc Bool where
 sz:=1
 cells x:=[.bool x]
 val x := .bool x
 pos:=by omega
 len _:=rfl
 one _ v hv:=by
  simp only[List.mem_cons,List.not_mem_nil,or_false] at hv
  rcases hv with rfl
  rfl
 cells_val _:=rfl
instance:Enc ByteArray where
 sz:=1
 cells x:=[.string x]
 val x := .string x
 pos:=by omega
 len _:=rfl
 one _ v hv:=by
  simp only[List.mem_cons,List.not_mem_nil,or_false] at hv
  rcases hv with rfl
  rfl
 cells_val _:=rfl
instance:Enc SV where
 sz:=1
 cells x:=[x.1]
 val x:=x.1
 pos:=by omega
 len _:=rfl
 one x v hv:=by
  simp only[List.mem_cons,List.not_mem_nil,or_false] at hv
  rcases hv with rfl
  exact x.2
 cells_val x:=by
  obtain⟨v,hv⟩:=x
  cases v<;>first | rfl | cases hv
theorem ZZ{s t:ByteArray}:(s.toList == t.toList)=decide (s=t):=by
 rw[Bool.eq_iff_iff,ByteArray.toList_eq,ByteArray.toList_eq]
 obtain⟨⟨s⟩⟩:=s
 obtain⟨⟨t⟩⟩:=t
 simp
theorem WT{P:Program}{T:TypeId}{xo yo:Operand}{s t:ByteArray}{K:Value→Prop}:M0 P (Y3 .eql T xo yo (.string s) (.string t)) K=K (.bool (decide (s=t))):=by rw[zp0,ZZ]
theorem eo0{P:Program}{T:TypeId}{xo yo:Operand}{s t:ByteArray}{K:Value→Prop}:M0 P (Y3 .neq T xo yo (.string s) (.string t)) K=K (.bool (!decide (s=t))):=by rw[Ap0,ZZ]
theorem eT{P:Program}{w:World}{d:Nat}{xs ys:Array Value}{f:Field}{fs:List Field}{a b:Value}{p q:Bool}(hn:(f.name != "_")=true)(ha:(part f.type xs f.offset).run P w = .ok a w)(hb:(part f.type ys f.offset).run P w = .ok b w)
  (he:(Op.equalIn d f.type a b).run P w = .ok p w) (hr:(Op.eqFields d xs ys fs).run P w = .ok q w):(Op.eqFields d xs ys (f :: fs)).run P w = .ok (p&&q) w:=by
 unfold Op.eqFields
 rw[if_pos (by simpa using hn),Sem.run_bind,ha]
 simp only[Result.andThen_ok]
 rw[Sem.run_bind,hb]
 simp only[Result.andThen_ok]
 rw[Sem.run_bind,he]
 simp only[Result.andThen_ok]
 cases p
 ·rfl
 ·simpa using hr
theorem vn0{P:Program}{w:World}{d:Nat}{xs ys:Array Value}:(Op.eqFields d xs ys []).run P w = .ok true w:=rfl
theorem Rel.oG{B:Base}{w:World}{σ:List Dat}(α:Type)[Enc α](E:TypeId)(h:Rel B w σ):Rel B w (σ++[V3 E (.slice none 0 0) ([]:List α)]):=by
 obtain⟨c,h⟩:=h
 exact⟨c,h.push (Step.refl _ c w) (.inl ⟨rfl,rfl⟩)⟩
def JN(_:World)(n:Int):Prop := -9223372036854775808≤n∧n≤9223372036854775807
def fr0(_:World)(s:ByteArray):Prop:=s.size≤maxLen
def oJ(W:World):Base:=⟨W,fun k=>k<W.heap.size⟩
theorem oJ.start(W:World):Rel (oJ W) W []:=⟨fun _=>0,rfl,rfl,rfl,Nat.le_refl _,fun _ _ _=>rfl,fun _ _ _=>rfl,fun i d hd=>by simp at hd⟩
theorem oJ.fin{W:World}(h:Rel (oJ W) w σ):Below W.heap.size W w:=by
 obtain⟨c,h⟩:=h
 exact⟨h.os,h.tape,h.output,h.size,fun k hk=>h.same k hk hk⟩
theorem oJ.row{α:Type}[Enc α]{W:World}{v:Value}{l:List α}(h:kN (fun _=>0) 0 W v l):Q4 v l (oJ W):=by
 obtain⟨a,cap,rfl,hc,h⟩:=h
 exact⟨a,cap,rfl,hc,h.imp id fun⟨g,o,h1,h2⟩=>⟨g,o,h1,h2.2.1,h2.2.1,h2.2.2⟩⟩
theorem oJ.below{W:World}(h:Rel (oJ W) w σ):Below W.heap.size W w:=oJ.fin h
end
end Go.Proofs.YtngbebnhegcokaaGreatDoor
namespace Go.Proofs.YtngbebnhegcokaaGreatDoor
open Go.Proofs.Tryz (prog)
set_option linter.unusedVariables false
abbrev T_:TypeId:=0
abbrev Q0:TypeId:=3
abbrev EC:TypeId:=4
abbrev p_:TypeId:=5
abbrev U2:TypeId:=9
abbrev E5:TypeId:=23
abbrev Z4:TypeId:=24
abbrev AA:TypeId:=25
abbrev tC:TypeId:=27
abbrev aC:TypeId:=29
abbrev K4:TypeId:=33
abbrev J6:TypeId:=35
abbrev H6:TypeId:=37
abbrev I8:TypeId:=40
abbrev L9:TypeId:=41
abbrev J4:TypeId:=43
abbrev G5:TypeId:=46
abbrev Y1:TypeId:=48
abbrev Im0:TypeId:=54
abbrev O9:TypeId:=57
abbrev R7:TypeId:=61
abbrev X5:TypeId:=63
abbrev R3:TypeId:=69
abbrev Z6:TypeId:=71
abbrev CG:TypeId:=78
abbrev b_:TypeId:=80
abbrev F7:TypeId:=81
abbrev M8:TypeId:=82
abbrev R6:TypeId:=83
abbrev I6:TypeId:=85
abbrev E_:TypeId:=86
abbrev Q3:TypeId:=88
abbrev I4:TypeId:=96
abbrev D7:TypeId:=97
abbrev X3:TypeId:=99
abbrev VQ:TypeId:=101
abbrev D9:TypeId:=112
abbrev OA:TypeId:=113
abbrev M5:TypeId:=115
abbrev ia0:TypeId:=117
abbrev O8:TypeId:=121
abbrev cB:TypeId:=130
abbrev NB:TypeId:=131
abbrev Y7:TypeId:=133
abbrev H5:TypeId:=138
abbrev O3:TypeId:=139
abbrev W_:TypeId:=140
abbrev Y2:TypeId:=142
abbrev I5:TypeId:=150
abbrev y9:TypeId:=152
abbrev u6:TypeId:=153
abbrev K7:TypeId:=154
abbrev N7:TypeId:=155
abbrev F5:TypeId:=157
abbrev P5:TypeId:=158
abbrev NA:TypeId:=160
abbrev U4:TypeId:=172
abbrev U1:TypeId:=176
abbrev K8:TypeId:=186
abbrev M3:TypeId:=191
abbrev iI:TypeId:=200
abbrev IM:TypeId:=201
abbrev I1:TypeId:=203
abbrev U3:TypeId:=205
abbrev n_:TypeId:=217
abbrev D8:TypeId:=220
abbrev R4:TypeId:=228
abbrev M4:TypeId:=230
abbrev O4:TypeId:=242
abbrev nP:TypeId:=251
abbrev sg0:TypeId:=260
abbrev aD:FuncId:=3
abbrev SF:FuncId:=5
abbrev OE:FuncId:=6
abbrev OT:FuncId:=7
abbrev PL:FuncId:=8
abbrev vK:FuncId:=9
abbrev KI:FuncId:=10
abbrev nE:FuncId:=11
abbrev mE:FuncId:=12
abbrev W9:FuncId:=13
abbrev YA:FuncId:=14
abbrev qC:FuncId:=15
abbrev wK:FuncId:=16
abbrev YF:FuncId:=17
abbrev zG:FuncId:=18
abbrev BK:FuncId:=19
abbrev KJ:FuncId:=23
abbrev qH:FuncId:=25
abbrev UD:FuncId:=31
abbrev lD:FuncId:=32
abbrev TA:FuncId:=33
abbrev XF:FuncId:=34
abbrev zV:FuncId:=35
abbrev BV:FuncId:=36
abbrev Qc0:FuncId:=37
abbrev oZ:FuncId:=38
abbrev PE:FuncId:=39
abbrev bD:FuncId:=40
abbrev VF:FuncId:=41
abbrev NI:FuncId:=42
abbrev UF:FuncId:=43
abbrev ZM:FuncId:=44
abbrev xK:FuncId:=45
abbrev RL:FuncId:=46
abbrev aN:FuncId:=47
abbrev QL:FuncId:=48
abbrev SL:FuncId:=49
abbrev bN:FuncId:=50
abbrev YN:FuncId:=51
abbrev xD:FuncId:=52
abbrev WI:FuncId:=53
abbrev iB:FuncId:=54
abbrev Y6:FuncId:=55
abbrev yA:FuncId:=56
abbrev SQ:FuncId:=57
abbrev jB:FuncId:=58
abbrev A8:FuncId:=59
abbrev pF:FuncId:=60
abbrev jP:FuncId:=61
abbrev dN:FuncId:=62
abbrev UL:FuncId:=63
abbrev fD:FuncId:=64
abbrev u7:FuncId:=65
abbrev dL:FuncId:=66
abbrev H9:FuncId:=67
abbrev zM:FuncId:=73
abbrev vD:FuncId:=74
abbrev qE:FuncId:=75
abbrev yD:FuncId:=76
abbrev KS:FuncId:=78
abbrev aI:FuncId:=80
abbrev lG:FuncId:=81
abbrev bL:FuncId:=82
abbrev SI:FuncId:=83
abbrev kP:FuncId:=84
abbrev ZF:FuncId:=85
abbrev vS:FuncId:=86
abbrev zK:FuncId:=87
abbrev NP:FuncId:=88
abbrev mD:FuncId:=89
abbrev oC:FuncId:=90
abbrev nD:FuncId:=91
abbrev wS:FuncId:=92
abbrev oD:FuncId:=93
abbrev NT:FuncId:=94
abbrev pU:FuncId:=95
abbrev yV:FuncId:=96
abbrev PQ:FuncId:=97
abbrev QQ:FuncId:=98
abbrev OI:FuncId:=99
abbrev eO:FuncId:=100
abbrev aO:FuncId:=101
abbrev ZH:FuncId:=102
abbrev JS:FuncId:=103
abbrev UI:FuncId:=104
abbrev yS:FuncId:=105
abbrev iP:FuncId:=106
abbrev RQ:FuncId:=107
abbrev zS:FuncId:=108
abbrev SB:FuncId:=109
abbrev TF:FuncId:=110
abbrev kE:FuncId:=111
abbrev oH:FuncId:=112
abbrev WF:FuncId:=113
abbrev WN:FuncId:=114
abbrev wG:FuncId:=115
abbrev gP:FuncId:=116
abbrev nH:FuncId:=117
abbrev OQ:FuncId:=118
abbrev EK:FuncId:=119
abbrev vF:FuncId:=120
abbrev YD:FuncId:=121
abbrev zA:FuncId:=122
abbrev VL:FuncId:=123
abbrev DV:FuncId:=124
abbrev XD:FuncId:=125
abbrev OW:FuncId:=126
abbrev BG:FuncId:=127
abbrev pE:FuncId:=128
abbrev z_:FuncId:=129
abbrev bF:FuncId:=130
abbrev qU:FuncId:=131
abbrev IB:FuncId:=136
abbrev TB:FuncId:=137
abbrev yK:FuncId:=138
abbrev BS:FuncId:=139
abbrev FM:FuncId:=140
abbrev CF:FuncId:=141
abbrev TL:FuncId:=142
abbrev ES:FuncId:=143
abbrev yJ:FuncId:=144
abbrev iM:FuncId:=145
abbrev EM:FuncId:=146
abbrev AB:FuncId:=147
abbrev rC:FuncId:=148
abbrev OC:FuncId:=149
abbrev YH:FuncId:=150
abbrev xJ:FuncId:=151
abbrev YM:FuncId:=152
abbrev ZN:FuncId:=153
abbrev XH:FuncId:=154
abbrev xS:FuncId:=155
abbrev G_:FuncId:=156
abbrev GM:FuncId:=157
abbrev N8:FuncId:=158
abbrev xM:FuncId:=159
abbrev LJ:FuncId:=160
abbrev dO:FuncId:=161
abbrev UB:FuncId:=162
abbrev xA:FuncId:=163
abbrev F_:FuncId:=164
abbrev cO:FuncId:=165
abbrev bO:FuncId:=166
abbrev dI:FuncId:=167
abbrev VI:FuncId:=168
abbrev fI:FuncId:=169
abbrev ZG:FuncId:=170
abbrev EF:FuncId:=171
abbrev xV:FuncId:=172
abbrev VB:FuncId:=173
abbrev Fe0:FuncId:=174
abbrev SE:FuncId:=175
abbrev QC:FuncId:=176
abbrev QE:FuncId:=177
abbrev TQ:FuncId:=179
abbrev bI:FuncId:=183
abbrev uA:FuncId:=187
abbrev yM:FuncId:=188
abbrev TI:FuncId:=189
abbrev yB:FuncId:=190
abbrev MJ:FuncId:=191
abbrev NJ:FuncId:=192
abbrev zB:FuncId:=193
abbrev YG:FuncId:=194
abbrev kS:FuncId:=195
abbrev JD:FuncId:=196
abbrev OJ:FuncId:=197
abbrev BM:FuncId:=198
abbrev CK:FuncId:=199
abbrev wD:FuncId:=200
abbrev Q_:FuncId:=201
abbrev xG:FuncId:=202
abbrev G9:FuncId:=203
abbrev yG:FuncId:=204
abbrev qA:FuncId:=205
abbrev V_:FuncId:=206
abbrev RD:FuncId:=207
abbrev K9:FuncId:=208
abbrev TD:FuncId:=209
abbrev DK:FuncId:=210
abbrev VD:FuncId:=211
abbrev JF:FuncId:=212
abbrev ZA:FuncId:=213
abbrev D_:FuncId:=214
abbrev mG:FuncId:=215
abbrev nA:FuncId:=216
abbrev OP:FuncId:=217
abbrev rU:FuncId:=218
abbrev vG:FuncId:=235
abbrev MP:FuncId:=236
abbrev aF:FuncId:=237
abbrev UA:FuncId:=238
abbrev MC:FuncId:=239
abbrev x9:FuncId:=240
abbrev NC:FuncId:=241
abbrev mP:FuncId:=242
abbrev SN:FuncId:=243
abbrev X_:FuncId:=244
abbrev IE:FuncId:=245
abbrev VA:FuncId:=246
abbrev NW:FuncId:=247
abbrev CV:FuncId:=248
abbrev wR:FuncId:=249
abbrev XN:FuncId:=267
noncomputable abbrev GU:Func:=Tryz.f183
abbrev WL:Nat:=2
abbrev jN:Nat:=3
abbrev zD:Nat:=4
end Go.Proofs.YtngbebnhegcokaaGreatDoor
namespace Go.Proofs.YtngbebnhegcokaaGreatDoor
open Go.Proofs.Tryz (prog)
open Go.RowKit
theorem F3:scB prog Q0=true:=by kernel_rfl
theorem TW:prog.underlying Q0=some (.int .i64):=by kernel_rfl
theorem Ss0:(prog.info? Q0).bind (·.zero)=some (.int .i64 0):=by kernel_rfl
theorem RB:scB prog EC=true:=by kernel_rfl
theorem NK0:prog.underlying EC=some .bool:=by kernel_rfl
theorem KG0:(prog.info? EC).bind (·.zero)=some (.bool false):=by kernel_rfl
theorem UX:prog.underlying p_=some (.int .u8):=by kernel_rfl
theorem V6:scB prog U2=true:=by kernel_rfl
theorem C8:prog.underlying U2=some .string:=by kernel_rfl
theorem EJ:agB prog E5 6=true:=by kernel_rfl
theorem ei0:Z5 prog E5 1 1=true:=by kernel_rfl
theorem fT:Z5 prog E5 2 2=true:=by kernel_rfl
theorem gT:Z5 prog E5 3 3=true:=by kernel_rfl
theorem eX:Z5 prog E5 4 4=true:=by kernel_rfl
theorem U9:scB prog Z4=true:=by kernel_rfl
theorem QY:prog.underlying Z4=some (.slice Y1):=by kernel_rfl
theorem p9:sliceB prog Z4 Y1 8 88=true:=by kernel_rfl
theorem PS:prog.underlying AA=some (.slice H6):=by kernel_rfl
theorem VE:sliceB prog AA H6 5 64=true:=by kernel_rfl
theorem rE:prog.underlying tC=some (.pointer (prog.pointee tC)):=by kernel_rfl
theorem WQ:prog.underlying aC=some (.pointer (prog.pointee aC)):=by kernel_rfl
theorem J9:scB prog K4=true:=by kernel_rfl
theorem Zs0:prog.underlying K4=some (.slice U2):=by kernel_rfl
theorem U6:sliceB prog K4 U2 1 16=true:=by kernel_rfl
theorem Ov0:(prog.info? K4).bind (·.zero)=some (.slice none 0 0):=by kernel_rfl
theorem XC:scB prog J6=true:=by kernel_rfl
theorem TG0:prog.underlying J6=some (.slice Q0):=by kernel_rfl
theorem C9:sliceB prog J6 Q0 1 8=true:=by kernel_rfl
theorem sa0:agB prog H6 5=true:=by kernel_rfl
theorem zZ:Z5 prog H6 0 0=true:=by kernel_rfl
theorem AZ:Z5 prog H6 1 1=true:=by kernel_rfl
theorem BZ:Z5 prog H6 2 2=true:=by kernel_rfl
theorem iT:Z5 prog H6 4 4=true:=by kernel_rfl
theorem A9:scB prog I8=true:=by kernel_rfl
theorem QT:prog.underlying I8=some (.pointer (prog.pointee I8)):=by kernel_rfl
theorem iA:scB prog L9=true:=by kernel_rfl
theorem Vc0:prog.underlying L9=some (.pointer (prog.pointee L9)):=by kernel_rfl
theorem eB:Z5 prog J4 0 0=true:=by kernel_rfl
theorem wC:Z5 prog J4 1 1=true:=by kernel_rfl
theorem vE:Z5 prog J4 2 2=true:=by kernel_rfl
theorem V7:scB prog G5=true:=by kernel_rfl
theorem jk0:prog.underlying G5=some (.slice R3):=by kernel_rfl
theorem M_:sliceB prog G5 R3 3 32=true:=by kernel_rfl
theorem P8:agB prog Y1 8=true:=by kernel_rfl
theorem AU:Z5 prog Y1 0 0=true:=by kernel_rfl
theorem eH:Z5 prog Y1 1 1=true:=by kernel_rfl
theorem oM:Z5 prog Y1 2 2=true:=by kernel_rfl
theorem XP:Z5 prog Y1 3 3=true:=by kernel_rfl
theorem pM:Z5 prog Y1 4 4=true:=by kernel_rfl
theorem YP:Z5 prog Y1 5 5=true:=by kernel_rfl
theorem fH:Z5 prog Y1 6 6=true:=by kernel_rfl
theorem gH:Z5 prog Y1 7 7=true:=by kernel_rfl
theorem oU:(prog.info? Y1).bind (·.zero)=some (.agg #[(.int .i64 0),(.int .i64 0),(.int .i64 0),(.int .i64 0),(.string ⟨#[]⟩),(.int .i64 0),(.int .i64 0),(.slice none 0 0)]):=by kernel_rfl
theorem OB0:prog.underlying Im0=some (.int .u64):=by kernel_rfl
theorem wI:scB prog O9=true:=by kernel_rfl
theorem jE:sliceB prog O9 Y7 3 48=true:=by kernel_rfl
theorem qB:scB prog R7=true:=by kernel_rfl
theorem iE:sliceB prog R7 X5 6 72=true:=by kernel_rfl
theorem XI:agB prog X5 6=true:=by kernel_rfl
theorem qk0:Z5 prog X5 0 0=true:=by kernel_rfl
theorem rk0:Z5 prog X5 1 1=true:=by kernel_rfl
theorem SY:Z5 prog X5 2 2=true:=by kernel_rfl
theorem TY:Z5 prog X5 3 3=true:=by kernel_rfl
theorem UY:Z5 prog X5 4 4=true:=by kernel_rfl
theorem BU:Z5 prog X5 5 5=true:=by kernel_rfl
theorem Rf0:(prog.info? X5).bind (·.zero)=some (.agg #[(.int .i64 0),(.int .i64 0),(.string ⟨#[]⟩),(.int .i64 0),(.int .i64 0),(.slice none 0 0)]):=by kernel_rfl
theorem Z7:agB prog R3 3=true:=by kernel_rfl
theorem CU:Z5 prog R3 0 0=true:=by kernel_rfl
theorem WY:Z5 prog R3 1 1=true:=by kernel_rfl
theorem ZP:Z5 prog R3 2 2=true:=by kernel_rfl
theorem YK:(prog.info? R3).bind (·.zero)=some (.agg #[(.int .i64 0),(.int .i64 0),(.string ⟨#[]⟩)]):=by kernel_rfl
theorem TG:scB prog CG=true:=by kernel_rfl
theorem o9:scB prog b_=true:=by kernel_rfl
theorem P7:scB prog F7=true:=by kernel_rfl
theorem NY:(prog.info? F7).bind (·.zero)=some (.pointer none):=by kernel_rfl
theorem R8:scB prog M8=true:=by kernel_rfl
theorem Tk0:(prog.info? M8).bind (·.zero)=some (.pointer none):=by kernel_rfl
theorem U7:scB prog R6=true:=by kernel_rfl
theorem kR:prog.underlying R6=some (.pointer (prog.pointee R6)):=by kernel_rfl
theorem Uf0:agB prog I6 4=true:=by kernel_rfl
theorem QA:Z5 prog I6 0 0=true:=by kernel_rfl
theorem nI:Z5 prog I6 1 1=true:=by kernel_rfl
theorem sP:Z5 prog I6 2 2=true:=by kernel_rfl
theorem DD:Z5 prog I6 3 3=true:=by kernel_rfl
theorem fk0:(prog.info? I6).bind (·.zero)=some (.agg #[(.pointer none),(.pointer none),(.pointer none),(.pointer none)]):=by kernel_rfl
theorem bC:Z5 prog Q3 0 0=true:=by kernel_rfl
theorem JE:Z5 prog Q3 1 12=true:=by kernel_rfl
theorem FW:Z5 prog Q3 2 13=true:=by kernel_rfl
theorem jA:scB prog I4=true:=by kernel_rfl
theorem Yc0:prog.underlying I4=some (.slice M3):=by kernel_rfl
theorem L6:sliceB prog I4 M3 4 48=true:=by kernel_rfl
theorem bA:scB prog D7=true:=by kernel_rfl
theorem qF:prog.underlying D7=some (.map Q0 Q0):=by kernel_rfl
theorem wO:Z5 prog X3 0 0=true:=by kernel_rfl
theorem xO:Z5 prog X3 1 6=true:=by kernel_rfl
theorem VJ:Z5 prog X3 2 7=true:=by kernel_rfl
theorem yO:Z5 prog X3 3 8=true:=by kernel_rfl
theorem WJ:Z5 prog X3 4 9=true:=by kernel_rfl
theorem ZT:Z5 prog X3 5 10=true:=by kernel_rfl
theorem XJ:Z5 prog X3 6 11=true:=by kernel_rfl
theorem YJ:Z5 prog X3 7 12=true:=by kernel_rfl
theorem Sf0:prog.underlying VQ=some (.pointer (prog.pointee VQ)):=by kernel_rfl
theorem VK:scB prog D9=true:=by kernel_rfl
theorem mR:prog.underlying D9=some (.pointer (prog.pointee D9)):=by kernel_rfl
theorem Bj0:scB prog OA=true:=by kernel_rfl
theorem Zc0:prog.underlying OA=some (.slice p_):=by kernel_rfl
theorem tN:sliceB prog OA p_ 1 1=true:=by kernel_rfl
theorem rR:Z5 prog M5 0 0=true:=by kernel_rfl
theorem KY:Z5 prog M5 1 1=true:=by kernel_rfl
theorem WG:(prog.info? M5).bind (·.zero)=some (.agg #[(.pointer none),(.slice none 0 0)]):=by kernel_rfl
theorem dV:Z5 prog O8 0 0=true:=by kernel_rfl
theorem fV:Z5 prog O8 1 1=true:=by kernel_rfl
theorem vd0:Z5 prog O8 2 2=true:=by kernel_rfl
theorem uP:Z5 prog O8 3 3=true:=by kernel_rfl
theorem qZ:agB prog cB 3=true:=by kernel_rfl
theorem kq0:Z5 prog cB 1 1=true:=by kernel_rfl
theorem yB0:(prog.info? cB).bind (·.zero)=some (.agg #[(.string ⟨#[]⟩),(.int .i64 0),(.string ⟨#[]⟩)]):=by kernel_rfl
theorem oW:scB prog NB=true:=by kernel_rfl
theorem kp0:prog.underlying NB=some (.slice cB):=by kernel_rfl
theorem QO:sliceB prog NB cB 3 40=true:=by kernel_rfl
theorem yR:agB prog Y7 3=true:=by kernel_rfl
theorem sk0:Z5 prog Y7 0 0=true:=by kernel_rfl
theorem uk0:Z5 prog Y7 1 1=true:=by kernel_rfl
theorem VY:Z5 prog Y7 2 2=true:=by kernel_rfl
theorem Os0:(prog.info? Y7).bind (·.zero)=some (.agg #[(.string ⟨#[]⟩),(.int .i64 0),(.slice none 0 0)]):=by kernel_rfl
theorem uC:agB prog H5 2=true:=by kernel_rfl
theorem UC:Z5 prog H5 0 0=true:=by kernel_rfl
theorem QV:Z5 prog H5 1 1=true:=by kernel_rfl
theorem ek0:(prog.info? H5).bind (·.zero)=some (.agg #[(.int .i64 0),(.int .i64 0)]):=by kernel_rfl
theorem O5:scB prog O3=true:=by kernel_rfl
theorem np0:prog.underlying O3=some (.slice U3):=by kernel_rfl
theorem U5:sliceB prog O3 U3 2 24=true:=by kernel_rfl
theorem aS:scB prog W_=true:=by kernel_rfl
theorem EL:sliceB prog W_ U1 9 88=true:=by kernel_rfl
theorem SC:agB prog Y2 6=true:=by kernel_rfl
theorem gf0:Z5 prog Y2 0 0=true:=by kernel_rfl
theorem jf0:Z5 prog Y2 1 1=true:=by kernel_rfl
theorem jX:Z5 prog Y2 2 3=true:=by kernel_rfl
theorem of0:Z5 prog Y2 3 4=true:=by kernel_rfl
theorem kX:Z5 prog Y2 4 5=true:=by kernel_rfl
theorem BF:(prog.info? Y2).bind (·.zero)=some (.agg #[(.bool false),(.int .i64 0),(.int .i64 0),(.int .i64 0),(.slice none 0 0),(.slice none 0 0)]):=by kernel_rfl
theorem j_:scB prog I5=true:=by kernel_rfl
theorem UW:prog.underlying I5=some (.slice U4):=by kernel_rfl
theorem E9:sliceB prog I5 U4 3 32=true:=by kernel_rfl
theorem aU:Z5 prog y9 0 0=true:=by kernel_rfl
theorem nX:Z5 prog y9 1 1=true:=by kernel_rfl
theorem f_:scB prog u6=true:=by kernel_rfl
theorem JB:prog.underlying u6=some (.map Q0 D8):=by kernel_rfl
theorem fB:scB prog K7=true:=by kernel_rfl
theorem dF:prog.underlying K7=some (.map O4 EC):=by kernel_rfl
theorem ED:scB prog N7=true:=by kernel_rfl
theorem dA:sliceB prog N7 O4 2 16=true:=by kernel_rfl
theorem iH:Z5 prog F5 0 0=true:=by kernel_rfl
theorem aQ:Z5 prog F5 1 1=true:=by kernel_rfl
theorem EU:Z5 prog F5 2 2=true:=by kernel_rfl
theorem aZ:Z5 prog F5 3 3=true:=by kernel_rfl
theorem bQ:Z5 prog F5 4 4=true:=by kernel_rfl
theorem FU:Z5 prog F5 5 5=true:=by kernel_rfl
theorem bZ:Z5 prog F5 6 6=true:=by kernel_rfl
theorem L_:scB prog P5=true:=by kernel_rfl
theorem gc0:scB prog NA=true:=by kernel_rfl
theorem Z8:agB prog U4 3=true:=by kernel_rfl
theorem gi0:Z5 prog U4 0 0=true:=by kernel_rfl
theorem lX:Z5 prog U4 1 1=true:=by kernel_rfl
theorem ji0:Z5 prog U4 2 2=true:=by kernel_rfl
theorem VG:(prog.info? U4).bind (·.zero)=some (.agg #[(.int .i64 0),(.int .i64 0),(.string ⟨#[]⟩)]):=by kernel_rfl
theorem Q8:agB prog U1 9=true:=by kernel_rfl
theorem gX:Z5 prog U1 0 0=true:=by kernel_rfl
theorem xN:Z5 prog U1 1 1=true:=by kernel_rfl
theorem iX:Z5 prog U1 2 2=true:=by kernel_rfl
theorem JK:Z5 prog U1 3 3=true:=by kernel_rfl
theorem rF:Z5 prog U1 4 4=true:=by kernel_rfl
theorem yN:Z5 prog U1 5 5=true:=by kernel_rfl
theorem XT:Z5 prog U1 6 6=true:=by kernel_rfl
theorem LK:Z5 prog U1 7 7=true:=by kernel_rfl
theorem uQ:Z5 prog U1 8 8=true:=by kernel_rfl
theorem JJ:(prog.info? U1).bind (·.zero)=some (.agg #[(.int .i64 0),(.int .i64 0),(.int .i64 0),(.int .i64 0),(.int .i64 0),(.int .i64 0),(.int .i64 0),(.bool false),(.slice none 0 0)]):=by kernel_rfl
theorem KE:Z5 prog K8 0 0=true:=by kernel_rfl
theorem aR:Z5 prog K8 1 1=true:=by kernel_rfl
theorem E8:agB prog M3 4=true:=by kernel_rfl
theorem oL:Z5 prog M3 0 0=true:=by kernel_rfl
theorem tL:Z5 prog M3 1 1=true:=by kernel_rfl
theorem rP:Z5 prog M3 2 2=true:=by kernel_rfl
theorem mI:Z5 prog M3 3 3=true:=by kernel_rfl
theorem yI:(prog.info? M3).bind (·.zero)=some (.agg #[(.int .i64 0),(.int .i64 0),(.int .i64 0),(.slice none 0 0)]):=by kernel_rfl
theorem vH:Z5 prog I1 0 0=true:=by kernel_rfl
theorem x_:Z5 prog I1 1 1=true:=by kernel_rfl
theorem y_:Z5 prog I1 2 3=true:=by kernel_rfl
theorem dD:Z5 prog I1 3 4=true:=by kernel_rfl
theorem wH:Z5 prog I1 4 5=true:=by kernel_rfl
theorem qR:Z5 prog I1 5 6=true:=by kernel_rfl
theorem ZL:Z5 prog I1 6 9=true:=by kernel_rfl
theorem aM:Z5 prog I1 7 12=true:=by kernel_rfl
theorem P9:agB prog U3 2=true:=by kernel_rfl
theorem YT:Z5 prog U3 0 0=true:=by kernel_rfl
theorem mX:Z5 prog U3 1 1=true:=by kernel_rfl
theorem KL:(prog.info? U3).bind (·.zero)=some (.agg #[(.int .i64 0),(.string ⟨#[]⟩)]):=by kernel_rfl
theorem WE:sliceB prog n_ NA 1 8=true:=by kernel_rfl
theorem iO:agB prog D8 2=true:=by kernel_rfl
theorem gZ:KL0 prog D8 0 0=true:=by kernel_rfl
theorem cZ:Z5 prog D8 0 0=true:=by kernel_rfl
theorem dZ:Z5 prog D8 1 1=true:=by kernel_rfl
theorem NQ:(prog.info? D8).bind (·.zero)=some (.agg #[(.string ⟨#[]⟩),(.string ⟨#[]⟩)]):=by kernel_rfl
theorem HY:Z5 prog R4 0 0=true:=by kernel_rfl
theorem IY:Z5 prog R4 1 1=true:=by kernel_rfl
theorem JY:Z5 prog R4 2 2=true:=by kernel_rfl
theorem uH:Z5 prog R4 3 3=true:=by kernel_rfl
theorem pR:Z5 prog R4 4 4=true:=by kernel_rfl
theorem YL:Z5 prog R4 5 5=true:=by kernel_rfl
theorem XY:Z5 prog M4 0 0=true:=by kernel_rfl
theorem YY:Z5 prog M4 1 1=true:=by kernel_rfl
theorem qM:Z5 prog M4 2 2=true:=by kernel_rfl
theorem DU:Z5 prog M4 3 3=true:=by kernel_rfl
theorem ZY:Z5 prog M4 4 4=true:=by kernel_rfl
theorem I9:agB prog O4 2=true:=by kernel_rfl
theorem ZQ:Z5 prog O4 0 0=true:=by kernel_rfl
theorem dg0:Z5 prog O4 1 1=true:=by kernel_rfl
theorem qQ:(prog.info? O4).bind (·.zero)=some (.agg #[(.int .i64 0),(.int .i64 0)]):=by kernel_rfl
structure ZE where
 parts:Int
 delay:Int
 late:Int
 ahead:Int
 rate:Int
 span:Int
 deriving DecidableEq
abbrev ZE.v(p:ZE):Value := .agg #[.int .i64 p.parts,.int .i64 p.delay,.int .i64 p.late,.int .i64 p.ahead,.int .i64 p.rate,.int .i64 p.span]
abbrev ZE.cs(p:ZE):List Value:=[.int .i64 p.parts,.int .i64 p.delay,.int .i64 p.late,.int .i64 p.ahead,.int .i64 p.rate,.int .i64 p.span]
instance:Enc ZE where
 sz:=6
 cells p:=p.cs
 val p:=p.v
 pos:=by omega
 len _:=rfl
 one p v (hv:v∈p.cs):=by
  simp only[List.mem_cons,List.not_mem_nil,or_false] at hv
  rcases hv with rfl | rfl | rfl | rfl | rfl | rfl<;>first | rfl | exact SV.prop _
 cells_val _:=rfl
structure xB where
 kind:Int
 id:Int
 n:Int
 data:ByteArray
 keep:SV
abbrev xB.v(p:xB):Value := .agg #[.int .i64 p.kind,.int .i64 p.id,.int .i64 p.n,.string p.data,p.keep.1]
abbrev xB.cs(p:xB):List Value:=[.int .i64 p.kind,.int .i64 p.id,.int .i64 p.n,.string p.data,p.keep.1]
instance:Enc xB where
 sz:=5
 cells p:=p.cs
 val p:=p.v
 pos:=by omega
 len _:=rfl
 one p v (hv:v∈p.cs):=by
  simp only[List.mem_cons,List.not_mem_nil,or_false] at hv
  rcases hv with rfl | rfl | rfl | rfl | rfl<;>first | rfl | exact SV.prop _
 cells_val _:=rfl
structure kD where
 x:SV
 s:SV
 done:SV
abbrev kD.v(p:kD):Value := .agg #[p.x.1,p.s.1,p.done.1]
abbrev kD.cs(p:kD):List Value:=[p.x.1,p.s.1,p.done.1]
instance:Enc kD where
 sz:=3
 cells p:=p.cs
 val p:=p.v
 pos:=by omega
 len _:=rfl
 one p v (hv:v∈p.cs):=by
  simp only[List.mem_cons,List.not_mem_nil,or_false] at hv
  rcases hv with rfl | rfl | rfl<;>first | rfl | exact SV.prop _
 cells_val _:=rfl
structure PD where
 kind:Int
 producer:Int
 epoch:Int
 seq:Int
 source:ByteArray
 schema:Int
 time:Int
 row:SV
abbrev PD.v(p:PD):Value := .agg #[.int .i64 p.kind,.int .i64 p.producer,.int .i64 p.epoch,.int .i64 p.seq,.string p.source,.int .i64 p.schema,.int .i64 p.time,p.row.1]
abbrev PD.cs(p:PD):List Value:=[.int .i64 p.kind,.int .i64 p.producer,.int .i64 p.epoch,.int .i64 p.seq,.string p.source,.int .i64 p.schema,.int .i64 p.time,p.row.1]
instance:Enc PD where
 sz:=8
 cells p:=p.cs
 val p:=p.v
 pos:=by omega
 len _:=rfl
 one p v (hv:v∈p.cs):=by
  simp only[List.mem_cons,List.not_mem_nil,or_false] at hv
  rcases hv with rfl | rfl | rfl | rfl | rfl | rfl | rfl | rfl<;>first | rfl | exact SV.prop _
 cells_val _:=rfl
structure EI where
 part:Int
 pos_:Int
 source:ByteArray
 schema:Int
 time:Int
 row:SV
abbrev EI.v(p:EI):Value := .agg #[.int .i64 p.part,.int .i64 p.pos_,.string p.source,.int .i64 p.schema,.int .i64 p.time,p.row.1]
abbrev EI.cs(p:EI):List Value:=[.int .i64 p.part,.int .i64 p.pos_,.string p.source,.int .i64 p.schema,.int .i64 p.time,p.row.1]
instance:Enc EI where
 sz:=6
 cells p:=p.cs
 val p:=p.v
 pos:=by omega
 len _:=rfl
 one p v (hv:v∈p.cs):=by
  simp only[List.mem_cons,List.not_mem_nil,or_false] at hv
  rcases hv with rfl | rfl | rfl | rfl | rfl | rfl<;>first | rfl | exact SV.prop _
 cells_val _:=rfl
structure R9 where
 kind:Int
 n:Int
 s:ByteArray
 deriving DecidableEq
abbrev R9.v(p:R9):Value := .agg #[.int .i64 p.kind,.int .i64 p.n,.string p.s]
abbrev R9.cs(p:R9):List Value:=[.int .i64 p.kind,.int .i64 p.n,.string p.s]
instance:Enc R9 where
 sz:=3
 cells p:=p.cs
 val p:=p.v
 pos:=by omega
 len _:=rfl
 one p v (hv:v∈p.cs):=by
  simp only[List.mem_cons,List.not_mem_nil,or_false] at hv
  rcases hv with rfl | rfl | rfl<;>first | rfl | exact SV.prop _
 cells_val _:=rfl
structure tK where
 d:SV
 j:SV
 c:SV
 r:SV
abbrev tK.v(p:tK):Value := .agg #[p.d.1,p.j.1,p.c.1,p.r.1]
abbrev tK.cs(p:tK):List Value:=[p.d.1,p.j.1,p.c.1,p.r.1]
instance:Enc tK where
 sz:=4
 cells p:=p.cs
 val p:=p.v
 pos:=by omega
 len _:=rfl
 one p v (hv:v∈p.cs):=by
  simp only[List.mem_cons,List.not_mem_nil,or_false] at hv
  rcases hv with rfl | rfl | rfl | rfl<;>first | rfl | exact SV.prop _
 cells_val _:=rfl
structure wJ where
 config:ZE
 known:SV
 now:Int
 top:Int
 next:Int
 refused:Int
 producers:SV
 counts:SV
abbrev wJ.v(p:wJ):Value := .agg #[.int .i64 p.config.parts,.int .i64 p.config.delay,.int .i64 p.config.late,.int .i64 p.config.ahead,.int .i64 p.config.rate,.int .i64 p.config.span,p.known.1,.int .i64 p.now,.int .i64 p.top,.int .i64 p.next,.int .i64 p.refused,p.producers.1,p.counts.1]
abbrev wJ.cs(p:wJ):List Value:=[.int .i64 p.config.parts,.int .i64 p.config.delay,.int .i64 p.config.late,.int .i64 p.config.ahead,.int .i64 p.config.rate,.int .i64 p.config.span,p.known.1,.int .i64 p.now,.int .i64 p.top,.int .i64 p.next,.int .i64 p.refused,p.producers.1,p.counts.1]
instance:Enc wJ where
 sz:=13
 cells p:=p.cs
 val p:=p.v
 pos:=by omega
 len _:=rfl
 one p v (hv:v∈p.cs):=by
  simp only[List.mem_cons,List.not_mem_nil,or_false] at hv
  rcases hv with rfl | rfl | rfl | rfl | rfl | rfl | rfl | rfl | rfl | rfl | rfl | rfl | rfl<;>first | rfl | exact SV.prop _
 cells_val _:=rfl
structure uG where
 addr:SV
 buf:SV
abbrev uG.v(p:uG):Value := .agg #[p.addr.1,p.buf.1]
abbrev uG.cs(p:uG):List Value:=[p.addr.1,p.buf.1]
instance:Enc uG where
 sz:=2
 cells p:=p.cs
 val p:=p.v
 pos:=by omega
 len _:=rfl
 one p v (hv:v∈p.cs):=by
  simp only[List.mem_cons,List.not_mem_nil,or_false] at hv
  rcases hv with rfl | rfl<;>first | rfl | exact SV.prop _
 cells_val _:=rfl
structure uK where
 part:Int
 first:Int
 horizon:Int
 events:SV
abbrev uK.v(p:uK):Value := .agg #[.int .i64 p.part,.int .i64 p.first,.int .i64 p.horizon,p.events.1]
abbrev uK.cs(p:uK):List Value:=[.int .i64 p.part,.int .i64 p.first,.int .i64 p.horizon,p.events.1]
instance:Enc uK where
 sz:=4
 cells p:=p.cs
 val p:=p.v
 pos:=by omega
 len _:=rfl
 one p v (hv:v∈p.cs):=by
  simp only[List.mem_cons,List.not_mem_nil,or_false] at hv
  rcases hv with rfl | rfl | rfl | rfl<;>first | rfl | exact SV.prop _
 cells_val _:=rfl
structure ZK where
 name:ByteArray
 type_:Int
 unit_:ByteArray
 deriving DecidableEq
abbrev ZK.v(p:ZK):Value := .agg #[.string p.name,.int .i64 p.type_,.string p.unit_]
abbrev ZK.cs(p:ZK):List Value:=[.string p.name,.int .i64 p.type_,.string p.unit_]
instance:Enc ZK where
 sz:=3
 cells p:=p.cs
 val p:=p.v
 pos:=by omega
 len _:=rfl
 one p v (hv:v∈p.cs):=by
  simp only[List.mem_cons,List.not_mem_nil,or_false] at hv
  rcases hv with rfl | rfl | rfl<;>first | rfl | exact SV.prop _
 cells_val _:=rfl
structure FI where
 source:ByteArray
 schema:Int
 cols:SV
abbrev FI.v(p:FI):Value := .agg #[.string p.source,.int .i64 p.schema,p.cols.1]
abbrev FI.cs(p:FI):List Value:=[.string p.source,.int .i64 p.schema,p.cols.1]
instance:Enc FI where
 sz:=3
 cells p:=p.cs
 val p:=p.v
 pos:=by omega
 len _:=rfl
 one p v (hv:v∈p.cs):=by
  simp only[List.mem_cons,List.not_mem_nil,or_false] at hv
  rcases hv with rfl | rfl | rfl<;>first | rfl | exact SV.prop _
 cells_val _:=rfl
structure XG where
 term:Int
 C_:Int
 deriving DecidableEq
abbrev XG.v(p:XG):Value := .agg #[.int .i64 p.term,.int .i64 p.C_]
abbrev XG.cs(p:XG):List Value:=[.int .i64 p.term,.int .i64 p.C_]
instance:Enc XG where
 sz:=2
 cells p:=p.cs
 val p:=p.v
 pos:=by omega
 len _:=rfl
 one p v (hv:v∈p.cs):=by
  simp only[List.mem_cons,List.not_mem_nil,or_false] at hv
  rcases hv with rfl | rfl<;>first | rfl | exact SV.prop _
 cells_val _:=rfl
structure PU where
 save:Bool
 hard:XG
 from_:Int
 recs:SV
 send:SV
abbrev PU.v(p:PU):Value := .agg #[.bool p.save,.int .i64 p.hard.term,.int .i64 p.hard.C_,.int .i64 p.from_,p.recs.1,p.send.1]
abbrev PU.cs(p:PU):List Value:=[.bool p.save,.int .i64 p.hard.term,.int .i64 p.hard.C_,.int .i64 p.from_,p.recs.1,p.send.1]
instance:Enc PU where
 sz:=6
 cells p:=p.cs
 val p:=p.v
 pos:=by omega
 len _:=rfl
 one p v (hv:v∈p.cs):=by
  simp only[List.mem_cons,List.not_mem_nil,or_false] at hv
  rcases hv with rfl | rfl | rfl | rfl | rfl | rfl<;>first | rfl | exact SV.prop _
 cells_val _:=rfl
structure QU where
 flight:SV
 split:Int
abbrev QU.v(p:QU):Value := .agg #[p.flight.1,.int .i64 p.split]
abbrev QU.cs(p:QU):List Value:=[p.flight.1,.int .i64 p.split]
instance:Enc QU where
 sz:=2
 cells p:=p.cs
 val p:=p.v
 pos:=by omega
 len _:=rfl
 one p v (hv:v∈p.cs):=by
  simp only[List.mem_cons,List.not_mem_nil,or_false] at hv
  rcases hv with rfl | rfl<;>first | rfl | exact SV.prop _
 cells_val _:=rfl
structure sQ where
 files:SV
 queue:SV
 set_:SV
 lost:Int
 down:Bool
 armed:Int
 keep:SV
abbrev sQ.v(p:sQ):Value := .agg #[p.files.1,p.queue.1,p.set_.1,.int .i64 p.lost,.bool p.down,.int .i64 p.armed,p.keep.1]
abbrev sQ.cs(p:sQ):List Value:=[p.files.1,p.queue.1,p.set_.1,.int .i64 p.lost,.bool p.down,.int .i64 p.armed,p.keep.1]
instance:Enc sQ where
 sz:=7
 cells p:=p.cs
 val p:=p.v
 pos:=by omega
 len _:=rfl
 one p v (hv:v∈p.cs):=by
  simp only[List.mem_cons,List.not_mem_nil,or_false] at hv
  rcases hv with rfl | rfl | rfl | rfl | rfl | rfl | rfl<;>first | rfl | exact SV.prop _
 cells_val _:=rfl
structure aL where
 from_:Int
 to_:Int
 body:ByteArray
 deriving DecidableEq
abbrev aL.v(p:aL):Value := .agg #[.int .i64 p.from_,.int .i64 p.to_,.string p.body]
abbrev aL.cs(p:aL):List Value:=[.int .i64 p.from_,.int .i64 p.to_,.string p.body]
instance:Enc aL where
 sz:=3
 cells p:=p.cs
 val p:=p.v
 pos:=by omega
 len _:=rfl
 one p v (hv:v∈p.cs):=by
  simp only[List.mem_cons,List.not_mem_nil,or_false] at hv
  rcases hv with rfl | rfl | rfl<;>first | rfl | exact SV.prop _
 cells_val _:=rfl
structure jS where
 kind:Int
 from_:Int
 to_:Int
 term:Int
 index:Int
 prev:Int
 commit:Int
 yes:Bool
 recs:SV
abbrev jS.v(p:jS):Value := .agg #[.int .i64 p.kind,.int .i64 p.from_,.int .i64 p.to_,.int .i64 p.term,.int .i64 p.index,.int .i64 p.prev,.int .i64 p.commit,.bool p.yes,p.recs.1]
abbrev jS.cs(p:jS):List Value:=[.int .i64 p.kind,.int .i64 p.from_,.int .i64 p.to_,.int .i64 p.term,.int .i64 p.index,.int .i64 p.prev,.int .i64 p.commit,.bool p.yes,p.recs.1]
instance:Enc jS where
 sz:=9
 cells p:=p.cs
 val p:=p.v
 pos:=by omega
 len _:=rfl
 one p v (hv:v∈p.cs):=by
  simp only[List.mem_cons,List.not_mem_nil,or_false] at hv
  rcases hv with rfl | rfl | rfl | rfl | rfl | rfl | rfl | rfl | rfl<;>first | rfl | exact SV.prop _
 cells_val _:=rfl
structure gM where
 rest_:ByteArray
 bad:Bool
 deriving DecidableEq
abbrev gM.v(p:gM):Value := .agg #[.string p.rest_,.bool p.bad]
abbrev gM.cs(p:gM):List Value:=[.string p.rest_,.bool p.bad]
instance:Enc gM where
 sz:=2
 cells p:=p.cs
 val p:=p.v
 pos:=by omega
 len _:=rfl
 one p v (hv:v∈p.cs):=by
  simp only[List.mem_cons,List.not_mem_nil,or_false] at hv
  rcases hv with rfl | rfl<;>first | rfl | exact SV.prop _
 cells_val _:=rfl
structure QD where
 id:Int
 epoch:Int
 next:Int
 last:SV
abbrev QD.v(p:QD):Value := .agg #[.int .i64 p.id,.int .i64 p.epoch,.int .i64 p.next,p.last.1]
abbrev QD.cs(p:QD):List Value:=[.int .i64 p.id,.int .i64 p.epoch,.int .i64 p.next,p.last.1]
instance:Enc QD where
 sz:=4
 cells p:=p.cs
 val p:=p.v
 pos:=by omega
 len _:=rfl
 one p v (hv:v∈p.cs):=by
  simp only[List.mem_cons,List.not_mem_nil,or_false] at hv
  rcases hv with rfl | rfl | rfl | rfl<;>first | rfl | exact SV.prop _
 cells_val _:=rfl
structure WH where
 term:Int
 data:ByteArray
 deriving DecidableEq
abbrev WH.v(p:WH):Value := .agg #[.int .i64 p.term,.string p.data]
abbrev WH.cs(p:WH):List Value:=[.int .i64 p.term,.string p.data]
instance:Enc WH where
 sz:=2
 cells p:=p.cs
 val p:=p.v
 pos:=by omega
 len _:=rfl
 one p v (hv:v∈p.cs):=by
  simp only[List.mem_cons,List.not_mem_nil,or_false] at hv
  rcases hv with rfl | rfl<;>first | rfl | exact SV.prop _
 cells_val _:=rfl
structure wN where
 now:ByteArray
 last:ByteArray
 deriving DecidableEq
abbrev wN.v(p:wN):Value := .agg #[.string p.now,.string p.last]
abbrev wN.cs(p:wN):List Value:=[.string p.now,.string p.last]
instance:Enc wN where
 sz:=2
 cells p:=p.cs
 val p:=p.v
 pos:=by omega
 len _:=rfl
 one p v (hv:v∈p.cs):=by
  simp only[List.mem_cons,List.not_mem_nil,or_false] at hv
  rcases hv with rfl | rfl<;>first | rfl | exact SV.prop _
 cells_val _:=rfl
structure sG where
 d:SV
 base:Int
 c:SV
 list:SV
 bytes:Int
 broken:Bool
abbrev sG.v(p:sG):Value := .agg #[p.d.1,.int .i64 p.base,p.c.1,p.list.1,.int .i64 p.bytes,.bool p.broken]
abbrev sG.cs(p:sG):List Value:=[p.d.1,.int .i64 p.base,p.c.1,p.list.1,.int .i64 p.bytes,.bool p.broken]
instance:Enc sG where
 sz:=6
 cells p:=p.cs
 val p:=p.v
 pos:=by omega
 len _:=rfl
 one p v (hv:v∈p.cs):=by
  simp only[List.mem_cons,List.not_mem_nil,or_false] at hv
  rcases hv with rfl | rfl | rfl | rfl | rfl | rfl<;>first | rfl | exact SV.prop _
 cells_val _:=rfl
structure rQ where
 disk:SV
 file:Int
 slot:Int
 value:ByteArray
 sure:Bool
abbrev rQ.v(p:rQ):Value := .agg #[p.disk.1,.int .i64 p.file,.int .i64 p.slot,.string p.value,.bool p.sure]
abbrev rQ.cs(p:rQ):List Value:=[p.disk.1,.int .i64 p.file,.int .i64 p.slot,.string p.value,.bool p.sure]
instance:Enc rQ where
 sz:=5
 cells p:=p.cs
 val p:=p.v
 pos:=by omega
 len _:=rfl
 one p v (hv:v∈p.cs):=by
  simp only[List.mem_cons,List.not_mem_nil,or_false] at hv
  rcases hv with rfl | rfl | rfl | rfl | rfl<;>first | rfl | exact SV.prop _
 cells_val _:=rfl
structure F9 where
 file:Int
 number:Int
 deriving DecidableEq
abbrev F9.v(p:F9):Value := .agg #[.int .i64 p.file,.int .i64 p.number]
abbrev F9.cs(p:F9):List Value:=[.int .i64 p.file,.int .i64 p.number]
instance:Enc F9 where
 sz:=2
 cells p:=p.cs
 val p:=p.v
 pos:=by omega
 len _:=rfl
 one p v (hv:v∈p.cs):=by
  simp only[List.mem_cons,List.not_mem_nil,or_false] at hv
  rcases hv with rfl | rfl<;>first | rfl | exact SV.prop _
 cells_val _:=rfl
theorem JV{K:Value→Prop}{x1:Int}{x2:ByteArray}{x3:Int}{x4:Int}{x5:Option Addr}{n5 c5:Nat}:M0 prog (G6 X5 #[(1,.int .i64 x1),(2,.string x2),(3,.int .i64 x3),(4,.int .i64 x4),(5,.slice x5 n5 c5)]) K=K (.agg #[(.int .i64 0),.int .i64 x1,.string x2,.int .i64 x3,.int .i64 x4,.slice x5 n5 c5]):=V4 fun w=>by kernel_rfl
theorem EY{K:Value→Prop}{x2:Int}{x3:Int}{x4:Int}:M0 prog (G6 E5 #[(2,.int .i64 x2),(3,.int .i64 x3),(4,.int .i64 x4)]) K=K (.agg #[(.int .i64 0),(.int .i64 0),.int .i64 x2,.int .i64 x3,.int .i64 x4,(.int .i64 0)]):=V4 fun w=>by kernel_rfl
theorem Lh0{K:Value→Prop}{x1:Int}:M0 prog (G6 R3 #[(1,.int .i64 x1)]) K=K (.agg #[(.int .i64 0),.int .i64 x1,(.string ⟨#[]⟩)]):=V4 fun w=>by kernel_rfl
theorem IV{K:Value→Prop}{x1:Int}{x4:ByteArray}{x5:Int}{x6:Int}{x7:Option Addr}{n7 c7:Nat}:M0 prog (G6 Y1 #[(1,.int .i64 x1),(4,.string x4),(5,.int .i64 x5),(6,.int .i64 x6),(7,.slice x7 n7 c7)]) K=K (.agg #[(.int .i64 0),.int .i64 x1,(.int .i64 0),(.int .i64 0),.string x4,.int .i64 x5,.int .i64 x6,.slice x7 n7 c7]):=V4 fun w=>by kernel_rfl
theorem GK{K:Value→Prop}{x0:Option Addr}{x1:Option Addr}:M0 prog (G6 J4 #[(0,.pointer x0),(1,.pointer x1)]) K=K (.agg #[.pointer x0,.pointer x1,(.slice none 0 0)]):=V4 fun w=>by kernel_rfl
theorem od0{K:Value→Prop}{x1:Option Addr}:M0 prog (G6 Q3 #[(1,.pointer x1)]) K=K (.agg #[(.pointer none),(.pointer none),(.pointer none),(.pointer none),(.pointer none),(.pointer none),(.pointer none),(.pointer none),(.pointer none),(.pointer none),(.pointer none),(.pointer none),.pointer x1,(.slice none 0 0)]):=V4 fun w=>by kernel_rfl
theorem WW{K:Value→Prop}{x0:Int}:M0 prog (G6 Y1 #[(0,.int .i64 x0)]) K=K (.agg #[.int .i64 x0,(.int .i64 0),(.int .i64 0),(.int .i64 0),(.string ⟨#[]⟩),(.int .i64 0),(.int .i64 0),(.slice none 0 0)]):=V4 fun w=>by kernel_rfl
theorem cn0{K:Value→Prop}{x0:ByteArray}:M0 prog (G6 cB #[(0,.string x0)]) K=K (.agg #[.string x0,(.int .i64 0),(.string ⟨#[]⟩)]):=V4 fun w=>by kernel_rfl
theorem sZ{K:Value→Prop}{x0:ByteArray}{x1:Int}{x2:Option Addr}{n2 c2:Nat}:M0 prog (G6 Y7 #[(0,.string x0),(1,.int .i64 x1),(2,.slice x2 n2 c2)]) K=K (.agg #[.string x0,.int .i64 x1,.slice x2 n2 c2]):=V4 fun w=>by kernel_rfl
theorem va0{K:Value→Prop}{x0:Int}:M0 prog (G6 O8 #[(0,.int .i64 x0)]) K=K (.agg #[.int .i64 x0,(.int .i64 0),(.int .i64 0),(.slice none 0 0)]):=V4 fun w=>by kernel_rfl
theorem wp0{K:Value→Prop} :M0 prog (G6 y9 #[]) K=K (.agg #[(.slice none 0 0),(.int .i64 0)]):=V4 fun w=>by kernel_rfl
theorem md0{K:Value→Prop}{x0:Option Nat}{x2:Option Nat}:M0 prog (G6 F5 #[(0,.map x0),(2,.map x2)]) K=K (.agg #[.map x0,(.slice none 0 0),.map x2,(.int .i64 0),(.bool false),(.int .i64 0),(.slice none 0 0)]):=V4 fun w=>by kernel_rfl
theorem qd0{K:Value→Prop}{x0:ByteArray}:M0 prog (G6 K8 #[(0,.string x0)]) K=K (.agg #[.string x0,(.bool false)]):=V4 fun w=>by kernel_rfl
theorem tp0{K:Value→Prop} :M0 prog (G6 Y2 #[]) K=K (.agg #[(.bool false),(.int .i64 0),(.int .i64 0),(.int .i64 0),(.slice none 0 0),(.slice none 0 0)]):=V4 fun w=>by kernel_rfl
theorem VS{K:Value→Prop}{x0:Int}{x1:ByteArray}:M0 prog (G6 U3 #[(0,.int .i64 x0),(1,.string x1)]) K=K (.agg #[.int .i64 x0,.string x1]):=V4 fun w=>by kernel_rfl
theorem UU{K:Value→Prop}{x2:Int}{x3:Option Addr}{n3 c3:Nat}{x4:Option Addr}{n4 c4:Nat}:M0 prog (G6 Y2 #[(2,.int .i64 x2),(3,.slice x3 n3 c3),(4,.slice x4 n4 c4)]) K=K (.agg #[(.bool false),(.int .i64 0),(.int .i64 0),.int .i64 x2,.slice x3 n3 c3,.slice x4 n4 c4]):=V4 fun w=>by kernel_rfl
theorem GY{K:Value→Prop}{x0:Int}{x1:Int}:M0 prog (G6 M3 #[(0,.int .i64 x0),(1,.int .i64 x1)]) K=K (.agg #[.int .i64 x0,.int .i64 x1,(.int .i64 0),(.slice none 0 0)]):=V4 fun w=>by kernel_rfl
theorem YQ{K:Value→Prop}{x0:Option Addr}{x1:Int}{x2:Option Addr}{x3:Option Addr}{n3 c3:Nat}{x4:Int}:M0 prog (G6 R4 #[(0,.pointer x0),(1,.int .i64 x1),(2,.pointer x2),(3,.slice x3 n3 c3),(4,.int .i64 x4)]) K=K (.agg #[.pointer x0,.int .i64 x1,.pointer x2,.slice x3 n3 c3,.int .i64 x4,(.bool false)]):=V4 fun w=>by kernel_rfl
theorem gd0{K:Value→Prop}{x0:Option Addr}{x1:Int}:M0 prog (G6 M4 #[(0,.pointer x0),(1,.int .i64 x1)]) K=K (.agg #[.pointer x0,.int .i64 x1,(.int .i64 0),(.string ⟨#[]⟩),(.bool false)]):=V4 fun w=>by kernel_rfl
theorem vU{K:Value→Prop}{x0:Int}{y1_0 y1_1:Value}{x2:Option Addr}{n2 c2:Nat}:M0 prog (G6 I1 #[(0,.int .i64 x0),(1,.agg #[y1_0,y1_1]),(2,.slice x2 n2 c2)]) K=K (.agg #[.int .i64 x0,y1_0,y1_1,.slice x2 n2 c2,(.int .i64 0),(.int .i64 0),(.bool false),(.bool false),(.bool false),(.int .i64 0),(.int .i64 0),(.int .i64 0),(.int .i64 0),(.int .i64 0),(.int .i64 0)]):=V4 fun w=>by kernel_rfl
theorem kk0{K:Value→Prop}{x1:Int}:M0 prog (G6 H5 #[(1,.int .i64 x1)]) K=K (.agg #[(.int .i64 0),.int .i64 x1]):=V4 fun w=>by kernel_rfl
theorem XQ{K:Value→Prop}{x0:Int}{x1:Int}:M0 prog (G6 H5 #[(0,.int .i64 x0),(1,.int .i64 x1)]) K=K (.agg #[.int .i64 x0,.int .i64 x1]):=V4 fun w=>by kernel_rfl
theorem KV{K:Value→Prop}{x4:Option Addr}{n4 c4:Nat}:M0 prog (G6 Y2 #[(4,.slice x4 n4 c4)]) K=K (.agg #[(.bool false),(.int .i64 0),(.int .i64 0),(.int .i64 0),(.slice none 0 0),.slice x4 n4 c4]):=V4 fun w=>by kernel_rfl
theorem Gh0{K:Value→Prop}{x0:Bool}{y1_0 y1_1:Value}:M0 prog (G6 Y2 #[(0,.bool x0),(1,.agg #[y1_0,y1_1])]) K=K (.agg #[.bool x0,y1_0,y1_1,(.int .i64 0),(.slice none 0 0),(.slice none 0 0)]):=V4 fun w=>by kernel_rfl
theorem TS{K:Value→Prop} :M0 prog (G6 U4 #[]) K=K (.agg #[(.int .i64 0),(.int .i64 0),(.string ⟨#[]⟩)]):=V4 fun w=>by kernel_rfl
theorem SS{K:Value→Prop}{x0:Int}{x1:Int}{x2:Int}{x3:Int}{x4:Int}{x5:Int}{x6:Int}{x7:Bool}:M0 prog (G6 U1 #[(0,.int .i64 x0),(1,.int .i64 x1),(2,.int .i64 x2),(3,.int .i64 x3),(4,.int .i64 x4),(5,.int .i64 x5),(6,.int .i64 x6),(7,.bool x7)]) K=K (.agg #[.int .i64 x0,.int .i64 x1,.int .i64 x2,.int .i64 x3,.int .i64 x4,.int .i64 x5,.int .i64 x6,.bool x7,(.slice none 0 0)]):=V4 fun w=>by kernel_rfl
theorem VU{K:Value→Prop}{x0:ByteArray}{x1:ByteArray}:M0 prog (G6 D8 #[(0,.string x0),(1,.string x1)]) K=K (.agg #[.string x0,.string x1]):=V4 fun w=>by kernel_rfl
theorem oP{K:Value→Prop}{x0:Int}{x1:Int}:M0 prog (G6 R3 #[(0,.int .i64 x0),(1,.int .i64 x1)]) K=K (.agg #[.int .i64 x0,.int .i64 x1,(.string ⟨#[]⟩)]):=V4 fun w=>by kernel_rfl
theorem FY{K:Value→Prop}{x0:Int}{x1:Int}{x2:ByteArray}:M0 prog (G6 U4 #[(0,.int .i64 x0),(1,.int .i64 x1),(2,.string x2)]) K=K (.agg #[.int .i64 x0,.int .i64 x1,.string x2]):=V4 fun w=>by kernel_rfl
theorem ua0{K:Value→Prop}{x0:Int}:M0 prog (G6 M3 #[(0,.int .i64 x0)]) K=K (.agg #[.int .i64 x0,(.int .i64 0),(.int .i64 0),(.slice none 0 0)]):=V4 fun w=>by kernel_rfl
theorem up0{K:Value→Prop} :M0 prog (G6 U3 #[]) K=K (.agg #[(.int .i64 0),(.string ⟨#[]⟩)]):=V4 fun w=>by kernel_rfl
theorem tZ{K:Value→Prop}{x0:Int}{x1:Int}{x2:Int}{x3:Int}:M0 prog (G6 U1 #[(0,.int .i64 x0),(1,.int .i64 x1),(2,.int .i64 x2),(3,.int .i64 x3)]) K=K (.agg #[.int .i64 x0,.int .i64 x1,.int .i64 x2,.int .i64 x3,(.int .i64 0),(.int .i64 0),(.int .i64 0),(.bool false),(.slice none 0 0)]):=V4 fun w=>by kernel_rfl
theorem ed0{K:Value→Prop}{x0:Int}{x2:ByteArray}:M0 prog (G6 R3 #[(0,.int .i64 x0),(2,.string x2)]) K=K (.agg #[.int .i64 x0,(.int .i64 0),.string x2]):=V4 fun w=>by kernel_rfl
theorem Jh0{K:Value→Prop}{x0:Int}:M0 prog (G6 R3 #[(0,.int .i64 x0)]) K=K (.agg #[.int .i64 x0,(.int .i64 0),(.string ⟨#[]⟩)]):=V4 fun w=>by kernel_rfl
theorem uZ{K:Value→Prop}{x0:Int}{x1:Int}:M0 prog (G6 O4 #[(0,.int .i64 x0),(1,.int .i64 x1)]) K=K (.agg #[.int .i64 x0,.int .i64 x1]):=V4 fun w=>by kernel_rfl
theorem pq0:(prog.fieldsOf H5).toList=[{ name:= "Term",type:=Q0,offset:=0,embedded:=false,tag:= "",pkgPath:= "",byteOffset:=0 },{ name:= "Vote",type:=Q0,offset:=1,embedded:=false,tag:= "",pkgPath:= "",byteOffset:=8 }]:=by kernel_rfl
theorem ig0(p q:XG)(w:World):(Op.equalIn 10000 H5 p.v q.v).run prog w = .ok (decide (p=q)) w:=by
 obtain⟨a0,a1⟩:=p
 obtain⟨b0,b1⟩:=q
 show (Op.equalIn 10000 H5 (.agg #[.int .i64 a0,.int .i64 a1]) (.agg #[.int .i64 b0,.int .i64 b1])).run prog w=_
 rw[show (10000:Nat)=9999+1 from rfl,run_equalIn_agg w 9999 H5 _ _ (by kernel_rfl) (by kernel_rfl),pq0]
 rw[show (9999:Nat)=9998+1 from rfl]
 have e:decide ((⟨a0,a1⟩:XG)=⟨b0,b1⟩)=(decide (a0=b0)&&(decide (a1=b1)&&true)):=by
  rw[Bool.eq_iff_iff];simp
 rw[e]
 have h0:=run_equalIn_int (P:=prog) w 9998 Q0 .i64 .i64 a0 b0 (by kernel_rfl)
 have h1:=run_equalIn_int (P:=prog) w 9998 Q0 .i64 .i64 a1 b1 (by kernel_rfl)
 exact eT (by decide) (RH (by kernel_rfl) rfl) (RH (by kernel_rfl) rfl) h0 <| eT (by decide) (RH (by kernel_rfl) rfl) (RH (by kernel_rfl) rfl) h1 <| vn0
theorem do0{K:Value→Prop}{xo yo:Operand}(p q:XG):M0 prog (Y3 .neq H5 xo yo p.v q.v) K=K (.bool (!decide (p=q))):=V4 fun w=>by
 refine ZR (run_eqGuard_agg w .neq _ _ _ _ _ (by kernel_rfl)) ?_
 show (binOp .neq H5 (.agg _) (.agg _)).run _ _=_
 rw[run_neq_struct]
 have:=ig0 p q w
 rw[show (p.v:Value) = .agg _ from rfl,show (q.v:Value) = .agg _ from rfl] at this
 rw[this]
 rfl
theorem Cn0:(prog.fieldsOf R3).toList=[{ name:= "Kind",type:=Q0,offset:=0,embedded:=false,tag:= "",pkgPath:= "",byteOffset:=0 },{ name:= "N",type:=Q0,offset:=1,embedded:=false,tag:= "",pkgPath:= "",byteOffset:=8 },{ name:= "S",type:=U2,offset:=2,embedded:=false,tag:= "",pkgPath:= "",byteOffset:=16 }]:=by kernel_rfl
theorem oe0(p q:R9)(w:World):(Op.equalIn 10000 R3 p.v q.v).run prog w = .ok (decide (p=q)) w:=by
 obtain⟨a0,a1,a2⟩:=p
 obtain⟨b0,b1,b2⟩:=q
 show (Op.equalIn 10000 R3 (.agg #[.int .i64 a0,.int .i64 a1,.string a2]) (.agg #[.int .i64 b0,.int .i64 b1,.string b2])).run prog w=_
 rw[show (10000:Nat)=9999+1 from rfl,run_equalIn_agg w 9999 R3 _ _ (by kernel_rfl) (by kernel_rfl),Cn0]
 rw[show (9999:Nat)=9998+1 from rfl]
 have e:decide ((⟨a0,a1,a2⟩:R9)=⟨b0,b1,b2⟩)=(decide (a0=b0)&&(decide (a1=b1)&&(decide (a2=b2)&&true))):=by
  rw[Bool.eq_iff_iff];simp
 rw[e]
 have h0:=run_equalIn_int (P:=prog) w 9998 Q0 .i64 .i64 a0 b0 (by kernel_rfl)
 have h1:=run_equalIn_int (P:=prog) w 9998 Q0 .i64 .i64 a1 b1 (by kernel_rfl)
 have h2:=run_equalIn_string (P:=prog) w 9998 U2 a2 b2 (by kernel_rfl)
 rw[ZZ] at h2
 exact eT (by decide) (RH (by kernel_rfl) rfl) (RH (by kernel_rfl) rfl) h0 <| eT (by decide) (RH (by kernel_rfl) rfl) (RH (by kernel_rfl) rfl) h1 <| eT (by decide) (RH (by kernel_rfl) rfl) (RH (by kernel_rfl) rfl) h2 <| vn0
theorem CR{K:Value→Prop}{xo yo:Operand}(p q:R9):M0 prog (Y3 .eql R3 xo yo p.v q.v) K=K (.bool (decide (p=q))):=V4 fun w=>by
 refine ZR (run_eqGuard_agg w .eql _ _ _ _ _ (by kernel_rfl)) ?_
 show (binOp .eql R3 (.agg _) (.agg _)).run _ _=_
 rw[run_eql_struct]
 have:=oe0 p q w
 rw[show (p.v:Value) = .agg _ from rfl,show (q.v:Value) = .agg _ from rfl] at this
 rw[this]
 rfl
theorem mi0:(prog.fieldsOf O4).toList=[{ name:= "file",type:=Q0,offset:=0,embedded:=false,tag:= "",pkgPath:= "errata/disk",byteOffset:=0 },{ name:= "number",type:=Q0,offset:=1,embedded:=false,tag:= "",pkgPath:= "errata/disk",byteOffset:=8 }]:=by kernel_rfl
theorem QZ(p q:F9)(w:World):(Op.equalIn 10000 O4 p.v q.v).run prog w = .ok (decide (p=q)) w:=by
 obtain⟨a0,a1⟩:=p
 obtain⟨b0,b1⟩:=q
 show (Op.equalIn 10000 O4 (.agg #[.int .i64 a0,.int .i64 a1]) (.agg #[.int .i64 b0,.int .i64 b1])).run prog w=_
 rw[show (10000:Nat)=9999+1 from rfl,run_equalIn_agg w 9999 O4 _ _ (by kernel_rfl) (by kernel_rfl),mi0]
 rw[show (9999:Nat)=9998+1 from rfl]
 have e:decide ((⟨a0,a1⟩:F9)=⟨b0,b1⟩)=(decide (a0=b0)&&(decide (a1=b1)&&true)):=by
  rw[Bool.eq_iff_iff];simp
 rw[e]
 have h0:=run_equalIn_int (P:=prog) w 9998 Q0 .i64 .i64 a0 b0 (by kernel_rfl)
 have h1:=run_equalIn_int (P:=prog) w 9998 Q0 .i64 .i64 a1 b1 (by kernel_rfl)
 exact eT (by decide) (RH (by kernel_rfl) rfl) (RH (by kernel_rfl) rfl) h0 <| eT (by decide) (RH (by kernel_rfl) rfl) (RH (by kernel_rfl) rfl) h1 <| vn0
end Go.Proofs.YtngbebnhegcokaaGreatDoor
namespace Go.Proofs.YtngbebnhegcokaaGreatDoor
open Go.Proofs.Tryz (prog)
open Go.ChangeShapes Go.WideShapes Go.ChangeAt Go.RowKit
set_option maxRecDepth 100000
theorem rO0:ownKnob prog.godebug=none:=by kernel_rfl
theorem dE0:laidOutB prog=true:=by kernel_rfl
theorem Ez0{n:Int}(h:(Lit.int .i64 n).wf=true) : -9223372036854775808≤n∧n≤9223372036854775807:=by
 have h1:IntKind.i64.min≤n∧n≤9223372036854775807:=by simpa [Lit.wf] using h
 have h2:IntKind.i64.min = -9223372036854775808:=by decide +kernel
 omega
section
variable {H:Type} {enc:TypeId×Value→H} {W:World} {base:Nat} {spare:Nat→Bool} {held:Bool}
theorem aG(n:Nat)(cs:List Value)(y:DataW H×List MemPlace)(h:DataW.trod enc prog W base spare held n Q0 cs=some y):∃a:Int,cs=Enc.cells a∧JN W a:=by
 obtain⟨i,e,h1,h2⟩:=DataW.trod_int TW h
 exact⟨i,e,Ez0 h2⟩
theorem cS:prog.cellsOf U2=1:=by kernel_rfl
theorem tn0(n:Nat)(cs:List Value)(y:DataW H×List MemPlace)(h:DataW.trod enc prog W base spare held n U2 cs=some y):∃a:ByteArray,cs=Enc.cells a∧fr0 W a:=by
 obtain⟨i,e,h1,h2⟩:=DataW.trod_string C8 h
 exact⟨i,e,h2⟩
def Lk0(W:World)(p:ZE):Prop:=JN W p.parts∧JN W p.delay∧JN W p.late∧JN W p.ahead∧JN W p.rate∧JN W p.span
theorem fZ:prog.underlying E5=some (.struct #[{ name:= "Parts",type:=Q0,offset:=0,embedded:=false,tag:= "",pkgPath:= "",byteOffset:=0 },{ name:= "Delay",type:=Q0,offset:=1,embedded:=false,tag:= "",pkgPath:= "",byteOffset:=8 },{ name:= "Late",type:=Q0,offset:=2,embedded:=false,tag:= "",pkgPath:= "",byteOffset:=16 },{ name:= "Ahead",type:=Q0,offset:=3,embedded:=false,tag:= "",pkgPath:= "",byteOffset:=24 },{ name:= "Rate",type:=Q0,offset:=4,embedded:=false,tag:= "",pkgPath:= "",byteOffset:=32 },{ name:= "Span",type:=Q0,offset:=5,embedded:=false,tag:= "",pkgPath:= "",byteOffset:=40 }]):=by kernel_rfl
theorem in0:prog.cellsOf E5=6:=by kernel_rfl
theorem Uh0(n:Nat)(cs:List Value)(y:DataW H×List MemPlace)(h:DataW.trod enc prog W base spare held n E5 cs=some y):∃a:ZE,cs=Enc.cells a∧Lk0 W a:=by
 obtain⟨xs,m,_,_,hl,hlen,hf⟩:=DataW.trod_struct fZ h
 rw[in0] at hl
 match cs,hl with
 | [v0,v1,v2,v3,v4,v5],_ =>
  have f0:DataW.trod enc prog W base spare held m Q0 (([v0,v1,v2,v3,v4,v5].drop 0).take (prog.cellsOf Q0))=xs[0]? := hf 0 _ rfl
  have c0:prog.cellsOf Q0=1:=by kernel_rfl
  rw[c0] at f0
  have f1:DataW.trod enc prog W base spare held m Q0 (([v0,v1,v2,v3,v4,v5].drop 1).take (prog.cellsOf Q0))=xs[1]? := hf 1 _ rfl
  have c1:prog.cellsOf Q0=1:=by kernel_rfl
  rw[c1] at f1
  have f2:DataW.trod enc prog W base spare held m Q0 (([v0,v1,v2,v3,v4,v5].drop 2).take (prog.cellsOf Q0))=xs[2]? := hf 2 _ rfl
  have c2:prog.cellsOf Q0=1:=by kernel_rfl
  rw[c2] at f2
  have f3:DataW.trod enc prog W base spare held m Q0 (([v0,v1,v2,v3,v4,v5].drop 3).take (prog.cellsOf Q0))=xs[3]? := hf 3 _ rfl
  have c3:prog.cellsOf Q0=1:=by kernel_rfl
  rw[c3] at f3
  have f4:DataW.trod enc prog W base spare held m Q0 (([v0,v1,v2,v3,v4,v5].drop 4).take (prog.cellsOf Q0))=xs[4]? := hf 4 _ rfl
  have c4:prog.cellsOf Q0=1:=by kernel_rfl
  rw[c4] at f4
  have f5:DataW.trod enc prog W base spare held m Q0 (([v0,v1,v2,v3,v4,v5].drop 5).take (prog.cellsOf Q0))=xs[5]? := hf 5 _ rfl
  have c5:prog.cellsOf Q0=1:=by kernel_rfl
  rw[c5] at f5
  have hx:∀i,i<6→∃z,xs[i]? = some z:=fun i hi=>⟨xs[i]'(by rw[hlen];exact hi),by simp [hlen,hi]⟩
  obtain⟨z0,h0⟩:=hx 0 (by omega)
  obtain⟨i0,e0,q0⟩:=aG _ _ _ (f0.trans h0)
  simp [Enc.cells] at e0
  subst e0
  obtain⟨z1,h1⟩:=hx 1 (by omega)
  obtain⟨i1,e1,q1⟩:=aG _ _ _ (f1.trans h1)
  simp [Enc.cells] at e1
  subst e1
  obtain⟨z2,h2⟩:=hx 2 (by omega)
  obtain⟨i2,e2,q2⟩:=aG _ _ _ (f2.trans h2)
  simp [Enc.cells] at e2
  subst e2
  obtain⟨z3,h3⟩:=hx 3 (by omega)
  obtain⟨i3,e3,q3⟩:=aG _ _ _ (f3.trans h3)
  simp [Enc.cells] at e3
  subst e3
  obtain⟨z4,h4⟩:=hx 4 (by omega)
  obtain⟨i4,e4,q4⟩:=aG _ _ _ (f4.trans h4)
  simp [Enc.cells] at e4
  subst e4
  obtain⟨z5,h5⟩:=hx 5 (by omega)
  obtain⟨i5,e5,q5⟩:=aG _ _ _ (f5.trans h5)
  simp [Enc.cells] at e5
  subst e5
  exact⟨⟨i0,i1,i2,i3,i4,i5⟩,rfl,q0,q1,q2,q3,q4,q5⟩
def dW(W:World)(p:R9):Prop:=JN W p.kind∧JN W p.n∧fr0 W p.s
theorem Fn0:prog.underlying R3=some (.struct #[{ name:= "Kind",type:=Q0,offset:=0,embedded:=false,tag:= "",pkgPath:= "",byteOffset:=0 },{ name:= "N",type:=Q0,offset:=1,embedded:=false,tag:= "",pkgPath:= "",byteOffset:=8 },{ name:= "S",type:=U2,offset:=2,embedded:=false,tag:= "",pkgPath:= "",byteOffset:=16 }]):=by kernel_rfl
theorem Ep0:prog.cellsOf R3=3:=by kernel_rfl
theorem nk0(n:Nat)(cs:List Value)(y:DataW H×List MemPlace)(h:DataW.trod enc prog W base spare held n R3 cs=some y):∃a:R9,cs=Enc.cells a∧dW W a:=by
 obtain⟨xs,m,_,_,hl,hlen,hf⟩:=DataW.trod_struct Fn0 h
 rw[Ep0] at hl
 match cs,hl with
 | [v0,v1,v2],_ =>
  have f0:DataW.trod enc prog W base spare held m Q0 (([v0,v1,v2].drop 0).take (prog.cellsOf Q0))=xs[0]? := hf 0 _ rfl
  have c0:prog.cellsOf Q0=1:=by kernel_rfl
  rw[c0] at f0
  have f1:DataW.trod enc prog W base spare held m Q0 (([v0,v1,v2].drop 1).take (prog.cellsOf Q0))=xs[1]? := hf 1 _ rfl
  have c1:prog.cellsOf Q0=1:=by kernel_rfl
  rw[c1] at f1
  have f2:DataW.trod enc prog W base spare held m U2 (([v0,v1,v2].drop 2).take (prog.cellsOf U2))=xs[2]? := hf 2 _ rfl
  have c2:prog.cellsOf U2=1:=by kernel_rfl
  rw[c2] at f2
  have hx:∀i,i<3→∃z,xs[i]? = some z:=fun i hi=>⟨xs[i]'(by rw[hlen];exact hi),by simp [hlen,hi]⟩
  obtain⟨z0,h0⟩:=hx 0 (by omega)
  obtain⟨i0,e0,q0⟩:=aG _ _ _ (f0.trans h0)
  simp [Enc.cells] at e0
  subst e0
  obtain⟨z1,h1⟩:=hx 1 (by omega)
  obtain⟨i1,e1,q1⟩:=aG _ _ _ (f1.trans h1)
  simp [Enc.cells] at e1
  subst e1
  obtain⟨z2,h2⟩:=hx 2 (by omega)
  obtain⟨i2,e2,q2⟩:=tn0 _ _ _ (f2.trans h2)
  simp [Enc.cells] at e2
  subst e2
  exact⟨⟨i0,i1,i2⟩,rfl,q0,q1,q2⟩
def VR(W:World)(p:PD):Prop:=JN W p.kind∧JN W p.producer∧JN W p.epoch∧JN W p.seq∧fr0 W p.source∧JN W p.schema∧JN W p.time∧(∃l:List R9,Q4 p.row.1 l (oJ W)∧l.length≤maxLen∧∀x∈l,dW W x)
theorem En0:prog.underlying Y1=some (.struct #[{ name:= "Kind",type:=Q0,offset:=0,embedded:=false,tag:= "",pkgPath:= "",byteOffset:=0 },{ name:= "Producer",type:=Q0,offset:=1,embedded:=false,tag:= "",pkgPath:= "",byteOffset:=8 },{ name:= "Epoch",type:=Q0,offset:=2,embedded:=false,tag:= "",pkgPath:= "",byteOffset:=16 },{ name:= "Seq",type:=Q0,offset:=3,embedded:=false,tag:= "",pkgPath:= "",byteOffset:=24 },{ name:= "Source",type:=U2,offset:=4,embedded:=false,tag:= "",pkgPath:= "",byteOffset:=32 },{ name:= "Schema",type:=Q0,offset:=5,embedded:=false,tag:= "",pkgPath:= "",byteOffset:=48 },{ name:= "Time",type:=Q0,offset:=6,embedded:=false,tag:= "",pkgPath:= "",byteOffset:=56 },{ name:= "Row",type:=G5,offset:=7,embedded:=false,tag:= "",pkgPath:= "",byteOffset:=64 }]):=by kernel_rfl
theorem bf0:prog.cellsOf Y1=8:=by kernel_rfl
theorem mk0(n:Nat)(cs:List Value)(y:DataW H×List MemPlace)(h:DataW.trod enc prog W base spare held n Y1 cs=some y):∃a:PD,cs=Enc.cells a∧VR W a:=by
 obtain⟨xs,m,_,_,hl,hlen,hf⟩:=DataW.trod_struct En0 h
 rw[bf0] at hl
 match cs,hl with
 | [v0,v1,v2,v3,v4,v5,v6,v7],_ =>
  have f0:DataW.trod enc prog W base spare held m Q0 (([v0,v1,v2,v3,v4,v5,v6,v7].drop 0).take (prog.cellsOf Q0))=xs[0]? := hf 0 _ rfl
  have c0:prog.cellsOf Q0=1:=by kernel_rfl
  rw[c0] at f0
  have f1:DataW.trod enc prog W base spare held m Q0 (([v0,v1,v2,v3,v4,v5,v6,v7].drop 1).take (prog.cellsOf Q0))=xs[1]? := hf 1 _ rfl
  have c1:prog.cellsOf Q0=1:=by kernel_rfl
  rw[c1] at f1
  have f2:DataW.trod enc prog W base spare held m Q0 (([v0,v1,v2,v3,v4,v5,v6,v7].drop 2).take (prog.cellsOf Q0))=xs[2]? := hf 2 _ rfl
  have c2:prog.cellsOf Q0=1:=by kernel_rfl
  rw[c2] at f2
  have f3:DataW.trod enc prog W base spare held m Q0 (([v0,v1,v2,v3,v4,v5,v6,v7].drop 3).take (prog.cellsOf Q0))=xs[3]? := hf 3 _ rfl
  have c3:prog.cellsOf Q0=1:=by kernel_rfl
  rw[c3] at f3
  have f4:DataW.trod enc prog W base spare held m U2 (([v0,v1,v2,v3,v4,v5,v6,v7].drop 4).take (prog.cellsOf U2))=xs[4]? := hf 4 _ rfl
  have c4:prog.cellsOf U2=1:=by kernel_rfl
  rw[c4] at f4
  have f5:DataW.trod enc prog W base spare held m Q0 (([v0,v1,v2,v3,v4,v5,v6,v7].drop 5).take (prog.cellsOf Q0))=xs[5]? := hf 5 _ rfl
  have c5:prog.cellsOf Q0=1:=by kernel_rfl
  rw[c5] at f5
  have f6:DataW.trod enc prog W base spare held m Q0 (([v0,v1,v2,v3,v4,v5,v6,v7].drop 6).take (prog.cellsOf Q0))=xs[6]? := hf 6 _ rfl
  have c6:prog.cellsOf Q0=1:=by kernel_rfl
  rw[c6] at f6
  have f7:DataW.trod enc prog W base spare held m G5 (([v0,v1,v2,v3,v4,v5,v6,v7].drop 7).take (prog.cellsOf G5))=xs[7]? := hf 7 _ rfl
  have c7:prog.cellsOf G5=1:=by kernel_rfl
  rw[c7] at f7
  have hx:∀i,i<8→∃z,xs[i]? = some z:=fun i hi=>⟨xs[i]'(by rw[hlen];exact hi),by simp [hlen,hi]⟩
  obtain⟨z0,h0⟩:=hx 0 (by omega)
  obtain⟨i0,e0,q0⟩:=aG _ _ _ (f0.trans h0)
  simp [Enc.cells] at e0
  subst e0
  obtain⟨z1,h1⟩:=hx 1 (by omega)
  obtain⟨i1,e1,q1⟩:=aG _ _ _ (f1.trans h1)
  simp [Enc.cells] at e1
  subst e1
  obtain⟨z2,h2⟩:=hx 2 (by omega)
  obtain⟨i2,e2,q2⟩:=aG _ _ _ (f2.trans h2)
  simp [Enc.cells] at e2
  subst e2
  obtain⟨z3,h3⟩:=hx 3 (by omega)
  obtain⟨i3,e3,q3⟩:=aG _ _ _ (f3.trans h3)
  simp [Enc.cells] at e3
  subst e3
  obtain⟨z4,h4⟩:=hx 4 (by omega)
  obtain⟨i4,e4,q4⟩:=tn0 _ _ _ (f4.trans h4)
  simp [Enc.cells] at e4
  subst e4
  obtain⟨z5,h5⟩:=hx 5 (by omega)
  obtain⟨i5,e5,q5⟩:=aG _ _ _ (f5.trans h5)
  simp [Enc.cells] at e5
  subst e5
  obtain⟨z6,h6⟩:=hx 6 (by omega)
  obtain⟨i6,e6,q6⟩:=aG _ _ _ (f6.trans h6)
  simp [Enc.cells] at e6
  subst e6
  obtain⟨z7,h7⟩:=hx 7 (by omega)
  obtain⟨l7,r7,m7,q7⟩:=lY (α:=R9) (Q:=dW W) (by kernel_rfl:prog.underlying G5=some (.slice R3)) (by kernel_rfl) (fun n cs y=>nk0 n cs y) (f7.trans h7)
  have o7:v7.oneCell'=true:=Q4.oneCell (oJ.row r7)
  exact⟨⟨i0,i1,i2,i3,i4,i5,i6,⟨v7,o7⟩⟩,rfl,q0,q1,q2,q3,q4,q5,q6,⟨l7,oJ.row r7,m7,q7⟩⟩
def jK(W:World)(p:xB):Prop:=JN W p.kind∧JN W p.id∧JN W p.n∧fr0 W p.data∧(∃l:List Int,Q4 p.keep.1 l (oJ W)∧l.length≤maxLen∧∀x∈l,JN W x)
theorem Wa0:prog.underlying H6=some (.struct #[{ name:= "Kind",type:=Q0,offset:=0,embedded:=false,tag:= "",pkgPath:= "",byteOffset:=0 },{ name:= "Id",type:=Q0,offset:=1,embedded:=false,tag:= "",pkgPath:= "",byteOffset:=8 },{ name:= "N",type:=Q0,offset:=2,embedded:=false,tag:= "",pkgPath:= "",byteOffset:=16 },{ name:= "Data",type:=U2,offset:=3,embedded:=false,tag:= "",pkgPath:= "",byteOffset:=24 },{ name:= "Keep",type:=J6,offset:=4,embedded:=false,tag:= "",pkgPath:= "",byteOffset:=40 }]):=by kernel_rfl
theorem XU:prog.cellsOf H6=5:=by kernel_rfl
theorem wZ(n:Nat)(cs:List Value)(y:DataW H×List MemPlace)(h:DataW.trod enc prog W base spare held n H6 cs=some y):∃a:xB,cs=Enc.cells a∧jK W a:=by
 obtain⟨xs,m,_,_,hl,hlen,hf⟩:=DataW.trod_struct Wa0 h
 rw[XU] at hl
 match cs,hl with
 | [v0,v1,v2,v3,v4],_ =>
  have f0:DataW.trod enc prog W base spare held m Q0 (([v0,v1,v2,v3,v4].drop 0).take (prog.cellsOf Q0))=xs[0]? := hf 0 _ rfl
  have c0:prog.cellsOf Q0=1:=by kernel_rfl
  rw[c0] at f0
  have f1:DataW.trod enc prog W base spare held m Q0 (([v0,v1,v2,v3,v4].drop 1).take (prog.cellsOf Q0))=xs[1]? := hf 1 _ rfl
  have c1:prog.cellsOf Q0=1:=by kernel_rfl
  rw[c1] at f1
  have f2:DataW.trod enc prog W base spare held m Q0 (([v0,v1,v2,v3,v4].drop 2).take (prog.cellsOf Q0))=xs[2]? := hf 2 _ rfl
  have c2:prog.cellsOf Q0=1:=by kernel_rfl
  rw[c2] at f2
  have f3:DataW.trod enc prog W base spare held m U2 (([v0,v1,v2,v3,v4].drop 3).take (prog.cellsOf U2))=xs[3]? := hf 3 _ rfl
  have c3:prog.cellsOf U2=1:=by kernel_rfl
  rw[c3] at f3
  have f4:DataW.trod enc prog W base spare held m J6 (([v0,v1,v2,v3,v4].drop 4).take (prog.cellsOf J6))=xs[4]? := hf 4 _ rfl
  have c4:prog.cellsOf J6=1:=by kernel_rfl
  rw[c4] at f4
  have hx:∀i,i<5→∃z,xs[i]? = some z:=fun i hi=>⟨xs[i]'(by rw[hlen];exact hi),by simp [hlen,hi]⟩
  obtain⟨z0,h0⟩:=hx 0 (by omega)
  obtain⟨i0,e0,q0⟩:=aG _ _ _ (f0.trans h0)
  simp [Enc.cells] at e0
  subst e0
  obtain⟨z1,h1⟩:=hx 1 (by omega)
  obtain⟨i1,e1,q1⟩:=aG _ _ _ (f1.trans h1)
  simp [Enc.cells] at e1
  subst e1
  obtain⟨z2,h2⟩:=hx 2 (by omega)
  obtain⟨i2,e2,q2⟩:=aG _ _ _ (f2.trans h2)
  simp [Enc.cells] at e2
  subst e2
  obtain⟨z3,h3⟩:=hx 3 (by omega)
  obtain⟨i3,e3,q3⟩:=tn0 _ _ _ (f3.trans h3)
  simp [Enc.cells] at e3
  subst e3
  obtain⟨z4,h4⟩:=hx 4 (by omega)
  obtain⟨l4,r4,m4,q4⟩:=lY (α:=Int) (Q:=JN W) (by kernel_rfl:prog.underlying J6=some (.slice Q0)) (by kernel_rfl) (fun n cs y=>aG n cs y) (f4.trans h4)
  have o4:v4.oneCell'=true:=Q4.oneCell (oJ.row r4)
  exact⟨⟨i0,i1,i2,i3,⟨v4,o4⟩⟩,rfl,q0,q1,q2,q3,⟨l4,oJ.row r4,m4,q4⟩⟩
end
end Go.Proofs.YtngbebnhegcokaaGreatDoor
namespace Go.Proofs.YtngbebnhegcokaaGreatDoor
open Go.Proofs.Tryz (prog)
open Go.RowKit
def Gives(P:Program)(B:Base)(s:Sem Next)(v:Value):Prop:=∀(w:World) (σ:List Dat) (K:PtK),Rel B w σ→(∀w',Rel B w' σ→K v w')→upK P s w K
def Makes(P:Program)(B:Base)(s:Sem Next)(post:Value→List Dat→Prop):Prop:=∀(w:World) (σ:List Dat) (K:PtK),Rel B w σ→(∀v τ w',post v τ→Rel B w' (σ++τ)→K v w')→upK P s w K
def Does(P:Program)(B:Base)(e:Dat)(s:Sem Next)(post:Value→Dat→List Dat→Prop):Prop :=
 ∀(w:World) (σ:List Dat) (i:Nat) (K:PtK),Rel B w σ→σ[i]? = some e→(∀v e' τ w',post v e' τ→Rel B w' (σ.set i e'++τ)→K v w')→upK P s w K
section
variable {P:Program} {B:Base} {s:Sem Next} {v:Value} {w:World} {σ:List Dat} {K:PtK} {post:Value→List Dat→Prop} {e:Dat} {postD:Value→Dat→List Dat→Prop} {i:Nat}
theorem Gives.intro(h:∀(B':Base) (w:World) (K:PtK),(∀{d:Dat},d B→d B')→Rel B' w []→(∀w' τ,Rel B' w' τ→K v w')→upK P s w K):Gives P B s v:=by
 intro w σ K hr k
 obtain⟨B',h',back,_,base⟩:=hr.frz
 refine h B' w K base h' fun w' τ h2=>k w' ?_
 have:=back w' [] h2.nil
 simpa using this
theorem Makes.intro(h:∀(B':Base) (w:World) (K:PtK),(∀{d:Dat},d B→d B')→Rel B' w []→(∀v τ w',post v τ→Rel B' w' τ→K v w')→upK P s w K):Makes P B s post:=by
 intro w σ K hr k
 obtain⟨B',h',back,_,base⟩:=hr.frz
 exact h B' w K base h' fun v τ w' hp h2=>k v τ w' hp (back w' τ h2)
theorem Does.intro(h:∀(B':Base) (w:World) (K:PtK),(∀{d:Dat},d B→d B')→Rel B' w [e]→(∀v e' τ w',postD v e' τ→Rel B' w' (e' :: τ)→K v w')→upK P s w K):Does P B e s postD:=by
 intro w σ i K hr hi k
 obtain⟨B',h',back,_,base⟩:=hr.focus hi
 exact h B' w K base h' fun v e' τ w' hp h2=>k v e' τ w' hp (back w' e' τ h2)
theorem Rel.ask(h:Rel B w σ)(G:∀B':Base,(∀{i:Nat} {d:Dat},σ[i]? = some d→d B')→(∀{d:Dat},d B→d B')→Gives P B' s v)(k:∀w',Rel B w' σ→K v w'):upK P s w K:=by
 obtain⟨B',h',back,own,base⟩:=h.frz
 refine G B' own base w [] K h' fun w' h2=>k w' ?_
 have:=back w' [] h2
 simpa using this
theorem Rel.make(h:Rel B w σ)(G:∀B':Base,(∀{i:Nat} {d:Dat},σ[i]? = some d→d B')→(∀{d:Dat},d B→d B')→Makes P B' s post)(k:∀v τ w',post v τ→Rel B w' (σ++τ)→K v w'):upK P s w K:=by
 obtain⟨B',h',back,own,base⟩:=h.frz
 exact G B' own base w [] K h' fun v τ w' hp h2=>k v τ w' hp (back w' τ h2)
theorem Rel.act(h:Rel B w σ)(i:Nat)(hi:σ[i]? = some e)(G:∀B':Base,(∀{j:Nat} {d:Dat},j≠i→σ[j]? = some d→d B')→(∀{d:Dat},d B→d B')→Does P B' e s postD)
  (k:∀v e' τ w',postD v e' τ→Rel B w' (σ.set i e'++τ)→K v w'):upK P s w K:=by
 obtain⟨B',h',back,own,base⟩:=h.focus hi
 refine G B' own base w [e] 0 K h' rfl fun v e' τ w' hp h2=>k v e' τ w' hp ?_
 exact back w' e' τ h2
theorem dH{f:FuncId}{first captured args:Array Value}(h:upK P (Z0 f (first++args++captured)) w K):upK P (aA (.func (.func f) first captured) args) w K:=h
theorem OG{Kp:Value→Prop}{f:FuncId}{a b:Array Value}:M0 P (iG (.func f) a b) Kp=Kp (.func (.func f) a b):=V4 fun w=>rfl
theorem Rel.pick(L:List Nat)(hL:L.Nodup)(h:Rel B w σ):Rel B w (L.map fun i=>(σ[i]?).getD emp):=by
 obtain⟨c,h⟩:=h
 refine⟨fun k=>match L.idxOf? (c k-1) with | some j=>if c k=0 then 0 else j+1 | none=>0,h.os,h.tape,h.output,h.size,fun k hk hs=>?_,h.same,fun j d hj=>?_⟩
 ·have h0:=h.keepc k hk hs
  simp only[h0]
  split<;>simp
 ·simp only[List.getElem?_map,Option.map_eq_some_iff] at hj
  obtain⟨i,hi,rfl⟩:=hj
  cases hd:σ[i]? with
  | none=>trivial
  | some d =>
   refine Dat.wide _ (fun k hk hs=>?_) (h.own i d hd)
   have hk:c k=i+1:=hk
   have hidx:L.idxOf? i=some j:=by
    rw[List.idxOf?,List.findIdx?_eq_some_iff_getElem]
    obtain⟨hlt,rfl⟩:=List.getElem?_eq_some_iff.1 hi
    refine⟨hlt,by simp,fun m hm=>?_⟩
    simp only[beq_iff_eq,Bool.not_eq_true]
    have:=List.nodup_iff_pairwise_ne.1 hL
    rw[List.pairwise_iff_getElem] at this
    have:=this m j (by omega) hlt hm
    simpa using this
   simp only[hk,Nat.add_sub_cancel,hidx]
   rfl
end
theorem Rel.Bk0{B:Base}{w:World}{σ:List Dat}{d:Dat}(h:Rel B w (σ++[d])):∃B',B.ext B'∧Rel B' w σ∧d B':=by
 obtain⟨B',h1,h2,h3⟩:=h.freeze (d:=d) (i:=σ.length) (by rw[List.getElem?_append_right (Nat.le_refl _)];simp)
 rw[List.set_append_right _ _ (Nat.le_refl _)] at h2
 exact⟨B',h1,h2.drop,h3⟩
section
variable {α:Type} [Enc α] {P:Program} {K:PtK} {B:Base} {w:World} {σ:List Dat} {T E:TypeId} {by_:Nat} {l:List α}
theorem Rel.Nh0(h:Rel B w σ)(i:Nat){g n cap lo:Nat}(hi:σ[i]? = some (V3 E (.slice (some ⟨g,0,none⟩) n cap) l))(hT:sliceB P T E (Enc.sz α) by_=true)(hlo:lo≤n){U:TypeId}{bs:Array Bool}{K':Value→World→Prop}
  (k:∀w',Rel B w' (σ.set i (V3 E (.slice (some ⟨g,0,none⟩) lo cap) (l.take lo)))→K' (.slice (some ⟨g,0,none⟩) lo cap) w') :
  upK P (J5 .clear #[T] U bs #[cutV (Enc.sz α) (.slice (some ⟨g,0,none⟩) n cap) lo n]) w fun _ w'=>M0 P (d9 T (.slice (some ⟨g,0,none⟩) n cap) none (some (.int .i64 lo)) none) fun v'=>K' v' w':=by
 obtain⟨c,h⟩:=h
 obtain⟨rfl,cur,hb,h1,hm,h3,h4⟩:=(V3.own (h.own i _ hi)).inv
 have hle:l.length * Enc.sz α≤cap * Enc.sz α:=Nat.mul_le_mul_right _ h1
 have hlm:lo * Enc.sz α≤l.length * Enc.sz α:=Nat.mul_le_mul_right _ hlo
 have fin:∀w' (cur':Array Value),Step (only (i+1)) c w c w'→Blk c (i+1) w' g E cur'→cur'.size=cur.size→cur'.toList.take (lo * Enc.sz α)=cur.toList.take (lo * Enc.sz α) →
   M0 P (d9 T (.slice (some ⟨g,0,none⟩) l.length cap) none (some (.int .i64 lo)) none) fun v'=>K' v' w':=by
  intro w' cur' st hb' hs ht
  rw[V4 fun w=>QN (lo:=0) (hi:=lo) hT Bnd.none Bnd.some (Nat.zero_le _) (by omega) w]
  have e:(if cap=0 then(some (⟨g,0,none⟩:Addr)) else(some (⟨g,0,none⟩:Addr)).map (·.add (0 * Enc.sz α)))=some ⟨g,0,none⟩:=by simp [addr_add]
  rw[e,Nat.sub_zero,Nat.sub_zero]
  refine k w' ⟨c,h.step hi st (nC.V3 (nC.mk_ hb' (by simp;omega) (by omega) hm (by rw[hs,h3]) ?_))⟩
  rw[ht,←wF,←h4,List.take_take,Nat.min_eq_left hlm]
 obtain⟨hu,_⟩:=v_ hT
 show upK P (J5 .clear #[T] U bs #[.slice (if cap=lo then some ⟨g,0,none⟩ else(some (⟨g,0,none⟩:Addr)).map (·.add (lo * Enc.sz α))) (l.length-lo) (cap-lo)]) w _
 by_cases hc:cap=lo
 ·have hn:l.length-lo=0:=by omega
  rw[if_pos hc,hn]
  refine JC (v := .tuple #[]) (w':=w) (V9 ?_) (fin w cur (Step.refl _ c w) hb rfl rfl)
  simp [Builtin.clear_,run_underlying hu]
 ·rw[if_neg hc]
  simp only[Option.map_some,addr_add,Nat.zero_add]
  exact cl0 (α:=α) hT hb (by rw[h3,←Nat.add_mul];exact Nat.mul_le_mul_right _ (by omega)) fun w' cur' st hb' hs ht=>fin w' cur' st hb' hs ht
end
section
variable {P:Program} {Kp:Value→Prop} {T:TypeId} {xo yo:Operand} {a b:ByteArray}
theorem AJ0 (h : a.size + b.size ≤ 9223372036854775807) : M0 P (Y3 .add T xo yo (.string a) (.string b)) Kp = Kp (.string (a ++ b)) := V4 fun w => by
  have : (Op.stringOp .add a b : Sem Value) = pure (.string (a ++ b)) := by
    simp only [Op.stringOp]
    rw [if_neg (by have : IntKind.i64.max = 9223372036854775807 := by decide +kernel
                   omega)]
  show (vN (Op.stringOp .add a b)).run P w = _
  rw [this]
  rfl
end
theorem CJ{P:Program}{Kp:Value→Prop}{B:Base}{w:World}{σ:List Dat}{T E:TypeId}{n b:Nat}{cs:Array Value}(h:Rel B w σ)(i:Nat)(hi:σ[i]? = some (O1 b E cs))(ht:agB P T n=true)(hn:cs.size=n) :
  S9 P (do loadVar T (←asAddr (.pointer (some ⟨b,0,none⟩)))) w Kp=Kp (.agg cs):=by
 have hr:(loadVar T ⟨b,0,none⟩).run P w = .ok (.agg cs) w:=by
  have h1:=h.uX i hi ht hn
  unfold Is X0 vN Instr.loadAt Instr.sureAddr at h1
  simp only[pure_bind] at h1
  rw[Sem.run_bind] at h1
  cases hl:(loadVar T ⟨b,0,none⟩).run P w with
  | ok v w' =>
   rw[hl] at h1
   have h1:Result.ok (Next.value v) w' = .ok (.value (.agg cs)) w:=h1
   injection h1 with h1 h2
   injection h1 with h1
   rw[h1,h2]
  | halt x w'=>rw[hl] at h1;cases h1
 refine propext ⟨fun⟨v,h1,h2⟩=>?_,fun h2=>⟨_,hr,h2⟩⟩
 have h1:(loadVar T ⟨b,0,none⟩).run P w = .ok v w:=h1
 rw[hr] at h1
 injection h1 with h1
 exact h1 ▸ h2
theorem AO{σ:List Dat}{d:Dat}:(σ++[d])[σ.length]? = some d:=by rw[List.getElem?_append_right (Nat.le_refl _)];simp
theorem Rel.mid{B:Base}{w:World}{σ ρ τ:List Dat}(h:Rel B w (σ++ρ++τ)):Rel B w (σ++τ):=by
 obtain⟨c,h⟩:=h
 refine⟨fun k=>if c k≤σ.length then c k else if c k≤σ.length+ρ.length then 0 else c k - ρ.length,h.os,h.tape,h.output,h.size,fun k hk hs=>?_,h.same,fun j d hj=>?_⟩
 ·have:=h.keepc k hk hs
  simp only[this]
  rfl
 ·by_cases hl:j<σ.length
  ·rw[List.getElem?_append_left hl] at hj
   refine d.wide (fun k hk hs=>?_) (h.own j d (by rw[List.append_assoc,List.getElem?_append_left hl];exact hj))
   have hk:c k=j+1:=hk
   show (if c k≤σ.length then c k else _)=_
   rw[if_pos (by omega)]
   exact hk
  ·rw[List.getElem?_append_right (by omega)] at hj
   refine d.wide (fun k hk hs=>?_) (h.own (j+ρ.length) d (by rw[List.getElem?_append_right (by simp;omega)];simp;rw[show j+ρ.length-(σ.length+ρ.length)=j - σ.length by omega];exact hj))
   have hk:c k=j+ρ.length+1:=hk
   show (if c k≤σ.length then c k else if c k≤σ.length+ρ.length then 0 else c k - ρ.length)=_
   rw[if_neg (by omega),if_neg (by omega)]
   omega
def Dat.all{α:Type}(L:List α)(f:α→Dat):Dat:=⟨fun B=>∀x∈L,f x B,fun hl h x hx=>(f x).mono hl (h x hx)⟩
theorem Rel.gather{B:Base}{w:World}{σ:List Dat}{α:Type}{L:List α}{f g:α→Dat}(h:Rel B w (σ++L.map f))(hfg:∀x∈L,∀B,f x B→g x B):Rel B w (σ++[Dat.all L g]):=by
 obtain⟨c,h⟩:=h
 refine⟨fun k=>if c k≤σ.length then c k else σ.length+1,h.os,h.tape,h.output,h.size,fun k hk hs=>?_,h.same,fun j d hj=>?_⟩
 ·have:=h.keepc k hk hs
  simp only[this]
  rfl
 ·rcases Nat.lt_trichotomy j σ.length with hl | hl | hl
  ·rw[List.getElem?_append_left hl] at hj
   refine d.wide (fun k hk hs=>?_) (h.own j d (by rw[List.getElem?_append_left hl];exact hj))
   have hk:c k=j+1:=hk
   show (if c k≤σ.length then c k else _)=_
   rw[if_pos (by omega)]
   exact hk
  ·subst hl
   rw[List.getElem?_append_right (Nat.le_refl _)] at hj
   simp at hj
   subst hj
   intro x hx
   obtain⟨m,hm,rfl⟩:=List.getElem_of_mem hx
   refine Dat.wide _ (fun k hk hs=>?_) (hfg _ hx _ (h.own (σ.length+m) (f L[m]) (by rw[List.getElem?_append_right (by omega)];simp [hm])))
   have hk:c k=σ.length+m+1:=hk
   show (if c k≤σ.length then c k else _)=_
   rw[if_neg (by omega)]
  ·rw[List.getElem?_eq_none (by simp;omega)] at hj;cases hj
theorem Dat.all_append{α:Type}{L M:List α}{f:α→Dat}{B:Base}(h1:(Dat.all L f) B)(h2:(Dat.all M f) B):(Dat.all (L++M) f) B:=fun x hx=>(List.mem_append.1 hx).elim (h1 x) (h2 x)
def kV{α:Type}(p:α→Bool)(l:List α):Int:=match l.findIdx? p with
 | some i=>i
 | none => -1
theorem mV{α:Type}{p:α→Bool}{l:List α}{i:Nat}(hi:i<l.length)(hno:∀x∈l.take i,p x=false)(h:p l[i]=true):kV p l=i:=by
 unfold kV
 have:l.findIdx? p=some i:=by
  rw[List.findIdx?_eq_some_iff_getElem]
  refine⟨hi,h,fun j hj=>?_⟩
  have:=hno l[j] (List.mem_take_iff_getElem.2 ⟨j,by omega,rfl⟩)
  simp [this]
 rw[this]
theorem lV{α:Type}{p:α→Bool}{l:List α}(hno:∀x∈l,p x=false):kV p l = -1:=by
 unfold kV
 have:l.findIdx? p=none:=List.findIdx?_eq_none_iff.2 hno
 rw[this]
theorem Qg0{α:Type}{p:α→Bool}{l:List α}:(kV p l<0↔∀x∈l,p x=false)∧kV p l<l.length+1:=by
 unfold kV
 split
 ·rename_i i h
  obtain⟨hi,hp,_⟩:=List.findIdx?_eq_some_iff_getElem.1 h
  refine⟨⟨fun h=>by omega,fun h=>?_⟩,by omega⟩
  rw[h _ (List.getElem_mem hi)] at hp
  cases hp
 ·rename_i h
  exact⟨⟨fun _=>List.findIdx?_eq_none_iff.1 h,fun _=>by omega⟩,by omega⟩
section
variable {P:Program} {K:PtK} {B:Base} {w:World} {σ:List Dat} {E:TypeId}
theorem Rel.xI(h:Rel B w σ)(i:Nat){n b:Nat}{cs ds:Array Value}{T':TypeId}(hi:σ[i]? = some (O1 b E cs))(ht:agB P T' n=true)(hn:ds.size=n)(hc:cs.size=n)(h1:∀v∈ds.toList,v.oneCell'=true)
  (k:∀w',Rel B w' (σ.set i (O1 b E ds))→K undef w'):upK P (F4 T' (.pointer (some ⟨b,0,none⟩)) (.agg ds)) w K:=by
 refine h.Av0 i hi ht hn (by omega) h1 fun w' h=>k w' ?_
 simp only[List.take_zero,List.nil_append,Nat.zero_add] at h
 rw[List.drop_of_length_le (by simp;omega),List.append_nil,Array.toArray_toList] at h
 exact h
end
def yT:List Dat→Dat
 | []=>emp
 | d :: l=>d.star (yT l)
section
variable {B:Base} {w:World}
theorem Rel.jI{σ:List Dat}(h:Rel B w σ):Rel B w (σ++[emp]):=by
 obtain⟨c,h⟩:=h
 exact⟨c,h.push (Step.refl _ c w) trivial⟩
theorem Rel.dS{L:List Dat}:∀{σ:List Dat},Rel B w (σ++[yT L])→Rel B w (σ++L):=by
 induction L with
 | nil=>intro σ h;rw[List.append_nil];exact h.drop
 | cons a L ih =>
  intro σ h
  have h:=h.split (i:=σ.length) (a:=a) (b:=yT L) AO
  rw[List.set_append_right _ _ (Nat.le_refl _),Nat.sub_self,List.set_cons_zero] at h
  have:=ih h
  rw[List.append_assoc] at this
  exact this
theorem Rel.VM{L:List Dat}:∀{σ:List Dat},Rel B w (σ++L)→Rel B w (σ++[yT L]):=by
 induction L with
 | nil=>intro σ h;rw[List.append_nil] at h;exact h.jI
 | cons a L ih =>
  intro σ h
  have h:Rel B w ((σ++[a])++L):=by rw[List.append_assoc];exact h
  have h:=(ih h).yN0 σ.length (a:=a) AO
  rw[List.set_append_right _ _ (Nat.le_refl _),Nat.sub_self,List.set_cons_zero] at h
  exact h
end
theorem Ij0:∀{a b:List Int},a.Pairwise (·<·)→b.Pairwise (·<·)→(∀x,x∈a↔x∈b)→a=b
 | [],[],_,_,_=>rfl
 | [],y :: b,_,_,h=>by have:=(h y).2 List.mem_cons_self;cases this
 | x :: a,[],_,_,h=>by have:=(h x).1 List.mem_cons_self;cases this
 | x :: a,y :: b,ha,hb,h=>by
  rw[List.pairwise_cons] at ha hb
  have e:x=y:=by
   rcases List.mem_cons.1 ((h x).1 List.mem_cons_self) with e | e
   ·exact e
   ·rcases List.mem_cons.1 ((h y).2 List.mem_cons_self) with e2 | e2
    ·exact e2.symm
    ·have:=ha.1 y e2
     have:=hb.1 x e
     omega
  subst e
  rw[Ij0 ha.2 hb.2 fun z=>⟨fun hz=>?_,fun hz=>?_⟩]
  ·rcases List.mem_cons.1 ((h z).1 (List.mem_cons_of_mem _ hz)) with e | e
   ·have:=ha.1 z hz;omega
   ·exact e
  ·rcases List.mem_cons.1 ((h z).2 (List.mem_cons_of_mem _ hz)) with e | e
   ·have:=hb.1 z hz;omega
   ·exact e
instance:Enc UInt8 where
 sz:=1
 cells x:=[.int .u8 x.toNat]
 val x := .int .u8 x.toNat
 pos:=by omega
 len _:=rfl
 one _ v hv:=by
  simp only[List.mem_cons,List.not_mem_nil,or_false] at hv
  rcases hv with rfl
  rfl
 cells_val _:=rfl
abbrev bl(s:ByteArray):List UInt8:=s.data.toList
abbrev ofL(l:List UInt8):ByteArray:=⟨l.toArray⟩
theorem BD(l:List UInt8):bl (ofL l)=l:=rfl
theorem bW(s:ByteArray):ofL (bl s)=s:=by
 obtain⟨⟨l⟩⟩:=s
 rfl
theorem y8(s:ByteArray):(bl s).length=s.size:=by
 obtain⟨⟨l⟩⟩:=s
 rfl
theorem wC0{s t:ByteArray}(h:bl s=bl t):s=t:=by rw[←bW s,h,bW]
theorem J_(l:List UInt8):(ofL l).size=l.length:=rfl
theorem di0(s:ByteArray)(lo hi:Nat):s.extract lo hi=ofL (((bl s).take hi).drop lo):=by
 apply wC0
 show (s.extract lo hi).data.toList=((bl s).take hi).drop lo
 rw[ByteArray.data_extract,Array.toList_extract,List.extract_eq_take_drop]
 rw[List.drop_take]
section
variable {P:Program} {Kp:Value→Prop} {T:TypeId} {s:ByteArray} {w:World}
theorem bS{lo hi:Nat}{lov hiv:Option Value}(hT:P.underlying T=some .string)(hlo:Bnd lov 0 lo)(hhi:Bnd hiv s.size hi)(h1:lo≤hi)(h2:hi≤s.size) :
  M0 P (d9 T (.string s) lov hiv none) Kp=Kp (.string (ofL (((bl s).take hi).drop lo))):=V4 fun w=>by
 rw[←di0]
 refine V9 ?_
 rcases hlo with⟨rfl,rfl⟩ | rfl<;>rcases hhi with⟨rfl,rfl⟩ | rfl <;>
  simp [Instr.sliceAt,Instr.slice,run_underlying hT,Instr.sliceBounds,Instr.sliceBound,asIntOf,h1,h2]
theorem BJ0{i:Nat}(hT:P.underlying T=some .string)(hi:i<s.size):M0 P (RZ T (.string s) (.int .i64 i)) Kp=Kp (.int .u8 ((bl s)[i]'(by rw[y8];exact hi)).toNat):=V4 fun w=>by
 refine V9 ?_
 have h0:(0:Int)≤i:=by omega
 have hg:s[i]? = some ((bl s)[i]'(by rw[y8];exact hi)):=by
  rw[getElem?_pos s i hi]
  congr 1
 simp [Instr.index,asIntOf,run_underlying hT,hg]
theorem oK{U:TypeId}{bs:Array Bool}(hT:P.underlying T=some .string):Y0 P (J5 .len #[T] U bs #[.string s]) w Kp=Kp (.int .i64 (bl s).length):=by
 rw[WC hT,y8]
end
section
variable {P:Program} {K:PtK} {w:World} {T E:TypeId} {by_:Nat} {c:Nat→Nat} {t:Nat}
theorem GC0{g n cap lo:Nat}{l:List UInt8}{s:ByteArray}{T2:TypeId}{a:Option Addr}{dc:Nat}(hT:sliceB P T E 1 by_=true)(h:nC c t w E (.slice (some ⟨g,0,none⟩) n cap) l)
  (hlo:lo≤l.length) (ha:a=some ⟨g,lo * 1,none⟩∨lo=l.length∧a=some ⟨g,0,none⟩) {U:TypeId} {bs:Array Bool}
  (k:∀w',Step (only t) c w c w'→nC c t w' E (.slice (some ⟨g,0,none⟩) n cap) (l.take lo++(bl s).take (l.length-lo)++l.drop (lo+((bl s).take (l.length-lo)).length))→K (.int .i64 ((bl s).take (l.length-lo)).length) w') :
  upK P (J5 .copy #[T,T2] U bs #[.slice a (n-lo) dc,.string s]) w K:=by
 obtain⟨hu,i,z,hinfo,hz,hs,hby,hzs⟩:=v_ hT
 obtain⟨rfl,cur,hb,h1',hm,h3,h4⟩:=h.inv
 have h3:cur.size=cap:=by rw[h3];exact Nat.mul_one cap
 have h4:cur.toList.take l.length=flat l:=by rw[←h4];congr 1;exact(Nat.mul_one _).symm
 have hlen:((bl s).take (l.length-lo)).length=Nat.min s.size (l.length-lo):=by rw[List.length_take,y8];exact Nat.min_comm _ _
 have hf:(Builtin.firstCells 1 (Nat.min s.size (l.length-lo)) (.string s)).run P w = .ok (flat ((bl s).take (l.length-lo))).toArray w:=by
  unfold Builtin.firstCells
  rw[Sem.run_pure]
  congr 1
  apply Array.ext'
  rw[di0,Array.toList_map]
  have e:∀l:List UInt8,flat l=l.map fun b=>Value.int .u8 (b.toNat:Int):=by
   intro l
   induction l with
   | nil=>rfl
   | cons a l ih=>rw[pI,ih];rfl
  rw[e]
  show List.map _ ((((bl s).take (Nat.min s.size (l.length-lo))).drop 0))=_
  rw[List.drop_zero]
  congr 1
  have:Nat.min s.size (l.length-lo)=min (l.length-lo) (bl s).length:=by rw[y8];exact Nat.min_comm _ _
  rw[this,←List.take_take,List.take_length]
 have hll:((bl s).take (l.length-lo)).length≤l.length-lo:=List.length_take_le _ _
 have hfl:(flat ((bl s).take (l.length-lo))).length=((bl s).take (l.length-lo)).length:=by rw[M7];exact Nat.mul_one _
 rcases ha with rfl | ⟨rfl,rfl⟩
 ·have hst:=run_storeCells_at P g (lo * 1) E (flat ((bl s).take (l.length-lo))) 0 cur w hb.2 (by rw[hfl];omega) (oi0 _)
  simp only[Nat.add_zero,Nat.mul_one] at hst ⊢
  rw[hfl] at hst
  refine JC (v := .int .i64 ((bl s).take (l.length-lo)).length) (V9 ?_) (k _ (hb.uc0 (cur.toList.take lo++flat ((bl s).take (l.length-lo))++cur.toList.drop (lo+((bl s).take (l.length-lo)).length)).toArray) (nC.mk_ (hb.setRow _) (by simp;omega) h1' hm ?_ ?_))
  ·rw[hlen] at hst ⊢
   simp [Builtin.copy_,run_underlying hu,sizeOf,typeInfo,hinfo,hs,Builtin.lenOf,hf,hst,goInt]
  ·show _=cap * 1
   simp only[List.size_toArray,List.length_append,List.length_take,List.length_drop,Array.length_toList,hfl]
   rw[List.length_take] at hll
   omega
  ·show List.take (l.length * 1) _=_
   rw[Nat.mul_one]
   have e:=MX cur.toList (flat ((bl s).take (l.length-lo))) lo l.length (by rw[hfl];omega) (by simp;omega)
   rw[hfl] at e
   refine e.trans ?_
   have ft:∀(k:Nat) (l:List UInt8),(flat l).take k=flat (l.take k):=fun k l=>by rw[←wF];congr 1;exact(Nat.mul_one k).symm
   have fd:∀(k:Nat) (l:List UInt8),(flat l).drop k=flat (l.drop k):=fun k l=>by rw[←uL];congr 1;exact(Nat.mul_one k).symm
   rw[h4,ft,fd,sF,sF]
 ·have hz0:(bl s).take (l.length-l.length)=[]:=by simp
  rw[hz0] at hf hlen
  refine JC (v := .int .i64 ((bl s).take (l.length-l.length)).length) (w':=w) (V9 ?_) (k w (Step.refl _ c w) ?_)
  ·rw[hz0]
   have hn:Nat.min s.size (l.length-l.length)=0:=by rw[Nat.sub_self];exact Nat.min_zero _
   rw[hn] at hf
   simp [Builtin.copy_,run_underlying hu,sizeOf,typeInfo,hinfo,hs,Builtin.lenOf,hf,goInt,storeCells,flat,show Nat.min s.size 0=0 from Nat.min_zero _]
  ·have e2:l.take l.length++(bl s).take (l.length-l.length)++l.drop (l.length+((bl s).take (l.length-l.length)).length)=l:=by rw[hz0];simp
   rw[e2]
   exact h
theorem Rel.vw0{B:Base}{σ:List Dat}(h:Rel B w σ)(i:Nat){g n cap lo:Nat}{l:List UInt8}{s:ByteArray}{T2:TypeId}{a:Option Addr}{dc:Nat}(hi:σ[i]? = some (V3 E (.slice (some ⟨g,0,none⟩) n cap) l))(hT:sliceB P T E 1 by_=true)
  (hlo:lo≤l.length) (ha:a=some ⟨g,lo * 1,none⟩∨lo=l.length∧a=some ⟨g,0,none⟩) {U:TypeId} {bs:Array Bool}
  (k:∀w',Rel B w' (σ.set i (V3 E (.slice (some ⟨g,0,none⟩) n cap) (l.take lo++(bl s).take (l.length-lo)++l.drop (lo+((bl s).take (l.length-lo)).length))))→K (.int .i64 ((bl s).take (l.length-lo)).length) w') :
  upK P (J5 .copy #[T,T2] U bs #[.slice a (n-lo) dc,.string s]) w K:=by
 obtain⟨c,h⟩:=h
 exact GC0 hT (V3.own (h.own i _ hi)) hlo ha fun w' st hr=>k w' ⟨c,h.step hi st hr.V3⟩
end
theorem uq0(l:List UInt8):∀s:ByteArray,(l.map fun b=>(b.toNat:Int)).foldl (fun r n=>r.push (UInt8.ofNat n.toNat)) s=ofL (bl s++l):=by
 induction l with
 | nil=>intro s;simp [bW]
 | cons a l ih =>
  intro s
  rw[List.map_cons,List.foldl_cons,ih]
  congr 1
  have:UInt8.ofNat (a.toNat:Int).toNat=a:=by simp
  rw[this]
  simp [bl,ByteArray.push]
theorem ju0(l:List UInt8):flat l=(l.map fun b=>(b.toNat:Int)).map (Value.int .u8):=by
 induction l with
 | nil=>rfl
 | cons a l ih=>rw[pI,ih];rfl
section
variable {P:Program} {K:PtK} {B:Base} {w:World} {σ:List Dat} {S D E:TypeId}
theorem Op0{v:Value}{l:List UInt8}(hr:Q4 v l ⟨w,fun _=>True⟩)(hS:P.underlying S=some (.slice E))(hE:P.underlying E=some (.int .u8))(hD:P.underlying D=some .string):(iU S D v).run P w = .ok (.value (.string (ofL l))) w:=by
 obtain⟨a,cap,rfl,hc,h⟩:=hr
 refine V9 ?_
 rw[run_convert_bytes_string w S D E a _ cap hS hE hD]
 rcases h with rfl | ⟨g,o,rfl,h⟩
 ·cases a with
  | none=>simp [Conv.bytesToString];rfl
  | some a =>
   show (Conv.bytesToString (.slice (some a) 0 cap)).run P w=_
   rw[run_bytesToString w a 0 cap [] (by simp [loadCells,loadCellsFrom])]
   rfl
 ·have hl:(loadCells ⟨g,o,none⟩ l.length).run P w = .ok ((l.map fun b=>(b.toNat:Int)).map (Value.int .u8)).toArray w:=by
   have:=run_loadCells_list (P:=P) w ⟨g,o,none⟩ (flat l) fun j v hv=>by rw[addr_add];exact h.2.2 j v hv
   have e:(flat l).length=l.length:=by rw[M7];exact Nat.mul_one _
   rw[e,ju0] at this
   exact this
  rw[run_bytesToString w _ l.length cap _ hl,uq0]
  rfl
theorem Rel.toStr(h:Rel B w σ){v:Value}{l:List UInt8}(r:Rd B σ [] v l)(hS:P.underlying S=some (.slice E))(hE:P.underlying E=some (.int .u8))(hD:P.underlying D=some .string)(k:K (.string (ofL l)) w):upK P (iU S D v) w K :=
 JC (Op0 (h.rd r) hS hE hD) k
end
def zC0(E:TypeId)(v:Value)(l:List UInt8):Dat:=⟨fun B=>∃g cap cur fz,v = .slice (some ⟨g,0,none⟩) l.length cap∧B.keep g∧B.W.heap[g]? = some (.cells cur E fz)∧l.length≤cap∧cap≤maxLen∧cur.size=cap∧cur.toList.take l.length=flat l∧(fz.1=fz.2∨cur.size≤fz.1),
 fun {B B'} hl ⟨g,cap,cur,fz,h1,h2,h3,h4⟩=>by
  obtain⟨h5,h6⟩:=hl g h2 (Array.getElem?_eq_some_iff.1 h3).1
  exact⟨g,cap,cur,fz,h1,h5,h6.trans h3,h4⟩⟩
section
variable {P:Program} {K:PtK} {Kp:Value→Prop} {B:Base} {w:World} {σ:List Dat} {S D E T:TypeId} {by_:Nat}
theorem zC0.read{v:Value}{l:List UInt8}(h:zC0 E v l B):Q4 v l B:=by
 obtain⟨g,cap,cur,fz,rfl,h2,h3,h4,h5,h6,h7,h8⟩:=h
 refine⟨_,cap,rfl,h4,.inr ⟨g,0,rfl,h2,(Array.getElem?_eq_some_iff.1 h3).1,fun j v hv=>?_⟩⟩
 rw[←h7,List.getElem?_take] at hv
 split at hv
 ·rw[Nat.zero_add]
  simp only[World.cell?,h3]
  simpa using hv
 ·cases hv
end
end Go.Proofs.YtngbebnhegcokaaGreatDoor
