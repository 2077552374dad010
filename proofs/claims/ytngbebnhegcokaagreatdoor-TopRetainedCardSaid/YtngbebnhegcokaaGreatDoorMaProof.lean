/-
  TopRetained holds: for every configuration, all entries, all cuts and every time the law answers true. No condition.
-/
import Derived.Test.YtngbebnhegcokaaGreatDoorMaF
namespace Go.Proofs.YtngbebnhegcokaaGreatDoor
open Go.Proofs.Tryz (prog)
open Go.ChangeShapes Go.WideShapes Go.ChangeAt Go.RowKit
set_option maxRecDepth 100000
theorem LW(H:Type)(enc:TypeId×Value→H)(W:World)(base:Nat)(args:Array Value)(ds gs:List (DataW H))(before:List MemPlace)
  (hval0:∀(j:Nat) t v,Tryz.f4.params[j]? = some t→args[j]? = some v→Value.okWide prog W .any base t v)
  (hW:DataW.Whole enc prog Tryz.f4.params.toList Rows.topRetainedSpec.vars false W args.toList ds gs before) (hL:laidMetH prog Rows.topRetainedRow.laid W) :
  Calls prog gB args W fun e W'=>∃v,e = .returned v∧Rows.topRetainedSpec.post enc prog Tryz.f4 false true false false W args v W':=by
 obtain⟨args⟩:=args
 have hval:∀(j:Nat) t v,Tryz.f4.params[j]? = some t→(Array.mk args)[j]? = some v→Value.okWide prog W .any base t v:=hval0
 have hW':=hW
 obtain⟨p,q,hA0,hV,rfl,_,_⟩:=hW
 have hA:DataW.TrodAll enc prog W 0 (fun _=>true) true Tryz.f4.params.toList args ds p:=hA0
 rw[Tryz.params4] at hA hval
 obtain⟨v0,vs0,d0,ds0,p0,q0,rfl,rfl,rfl,h0,hA⟩:=trodAll_cons hA
 obtain⟨v1,vs1,d1,ds1,p1,q1,rfl,rfl,rfl,h1,hA⟩:=trodAll_cons hA
 obtain⟨v2,vs2,d2,ds2,p2,q2,rfl,rfl,rfl,h2,hA⟩:=trodAll_cons hA
 obtain⟨v3,vs3,d3,ds3,p3,q3,rfl,rfl,rfl,h3,hA⟩:=trodAll_cons hA
 obtain⟨rfl,rfl,rfl⟩:=trodAll_nil hA
 obtain⟨rfl,rfl⟩:=trodVars_none hV
 obtain⟨c0,rfl,z0⟩:=okWide_struct XX (hval 0 V4 v0 rfl rfl)
 obtain⟨fu0,hf0⟩:=h0
 obtain⟨x0,hx0,hq0⟩:=af0 _ _ _ hf0
 have hx0:c0.toList=Enc.cells x0:=hx0
 obtain rfl:c0=(Enc.cells x0).toArray:=by rw[←hx0]
 obtain⟨a1,n1,c1,rfl⟩:=okWide_slice GX (hval 1 D6 v1 rfl rfl)
 obtain⟨fu1,hf1⟩:=h1
 obtain⟨l1,hl1,hm1,hq1⟩:=nb0 (α:=xD) (Q:=aR W) GX lc0 (fun n cs y=>Qh0 n cs y) hf1
 obtain⟨a2,n2,c2,rfl⟩:=okWide_slice gk0 (hval 2 R6 v2 rfl rfl)
 obtain⟨fu2,hf2⟩:=h2
 obtain⟨l2,hl2,hm2,hq2⟩:=nb0 (α:=Int) (Q:=CQ W) gk0 cI (fun n cs y=>JI n cs y) hf2
 have u3:prog.underlying Q0=some (.int .i64):=by kernel_rfl
 obtain⟨x3,rfl,rfl,rfl,wx3⟩:=open_int u3 (hval 3 Q0 v3 rfl rfl) h3
 have hc:=V_.call (mh0 (W:=W) (c:=x0) (fr:=x3) (K:=fun v w'=>v = .bool true∧Below W.heap.size W w') (qz0 hL) (bj0 hL) (bj0 hL).1 (EE.row hl1) hm1 hq1 (EE.row hl2) fun w' σ h=>⟨rfl,EE.fin h⟩)
 have hty:∀t∈Tryz.f4.params.toList,prog.readableRec t=true∧t<prog.types.size:=by
  have hall:(Tryz.f4.params.toList.all fun t=>prog.readableRec t&&decide (t<prog.types.size))=true:=by kernel_rfl
  intro t ht
  have:=List.all_eq_true.1 hall t ht
  simpa using this
 refine hc.mono fun e W' he=>?_
 cases e with
 | returned v =>
  obtain⟨rfl,hB⟩:=he
  exact⟨_,rfl,rz0 kz0 hW' rfl rfl rfl rfl Zw0 hty hB⟩
 | panicked ch=>exact he.elim
 | outgrown=>exact he.elim
theorem MW(os:Os):laidMet prog Rows.topRetainedRow.laid ((Sa0 os).forCall (fun _ _=>0) ⟨#[],#[.agg #[.int .i64 0,.int .i64 0,.int .i64 0,.int .i64 0,.int .i64 0,.int .i64 0],.slice none 0 0,.slice none 0 0,.int .i64 0],[]⟩).memory :=
 laidMet_of_run' 8 (by kernel_rfl) (by kernel_rfl)
theorem VZ(os:Os){H:Type}(enc:TypeId×Value→H):∃places,DataW.whole enc prog ((Sa0 os).forCall (fun _ _=>0) ⟨#[],#[.agg #[.int .i64 0,.int .i64 0,.int .i64 0,.int .i64 0,.int .i64 0,.int .i64 0],.slice none 0 0,.slice none 0 0,.int .i64 0],[]⟩).memory Tryz.f4.params.toList Rows.topRetainedSpec.vars false (#[.agg #[.int .i64 0,.int .i64 0,.int .i64 0,.int .i64 0,.int .i64 0,.int .i64 0],.slice none 0 0,.slice none 0 0,.int .i64 0]:Array Value).toList 8=some ([.agg [.lit (.int .i64 0),.lit (.int .i64 0),.lit (.int .i64 0),.lit (.int .i64 0),.lit (.int .i64 0),.lit (.int .i64 0)],.nil,.nil,.lit (.int .i64 0)],[],places) :=
 ⟨[],by kernel_rfl⟩
set_option maxRecDepth 100000 in
theorem UY(os:Os)(started:os.Started)(H:Type)(enc:TypeId×Value→H)(F:Stop.Interp) :
  ReturnsInHanded {} Tryz.checked os gB .any ((OpenSpec.ofChange Rows.topRetainedSpec).preRow enc prog Tryz.f4 Rows.topRetainedRow.domain false Rows.topRetainedRow.laid) (((OpenSpec.ofChange Rows.topRetainedSpec).at F).post enc prog Tryz.f4 false true false false):=by
 obtain⟨places,hx⟩:=VZ os enc
 refine returnsInHanded_of_row (C:=Tryz.checked) (s:=OpenSpec.ofChange Rows.topRetainedSpec) YH0 started (by kernel_rfl) Tryz.func4
  (witness_row_at (enc:=enc) (C:=Tryz.checked) false (Sa0 os) #[.agg #[.int .i64 0,.int .i64 0,.int .i64 0,.int .i64 0,.int .i64 0,.int .i64 0],.slice none 0 0,.slice none 0 0,.int .i64 0] rfl (by kernel_rfl) (by kernel_rfl) (by kernel_rfl)
   (OpenSpec.preRow_of_cond 8 hx (by kernel_rfl) (fun k hk=>by cases hk) (by kernel_rfl) (MW os))) ?_
 intro W base args ds gs before hval hW _ _ _ hL _ _
 exact LW H enc W base args ds gs before hval hW hL
theorem ac0:Rows.TopRetainedSaid :=
 OpenClaim.holds_of_cond gB Tryz.f4 rfl rfl rfl rfl rfl rfl rfl ⟨rfl,rfl,rfl,rfl,rfl⟩ rfl rfl rfl rfl rfl (by kernel_rfl) Tryz.func4 (by kernel_rfl)
  (of_decide_eq_true (by kernel_rfl)) (by unfold Func.isWrapper;first | (rw[if_pos (by decide +kernel)];kernel_rfl) | (rw[if_neg (by decide +kernel)];exact⟨rfl,rfl⟩))
  (fun os started H enc _ F=>by rw[OpenClaim.pre_eq_preRow];exact UY os started H enc F)
theorem UZ(f:FuncId)(fn:Func)(hf:Tryz.pinned.checked.prog.funcNamed Rows.topRetainedRow.func=some f)(hfn:Tryz.pinned.checked.prog.funcs[f]? = some fn) :
  true=Tryz.pinned.checked.prog.looks []∧∀(j:Nat) t,fn.params[j]? = some t→Tryz.pinned.checked.prog.wantsStandIn t=false:=by
 obtain rfl:f=gB:=Option.some.inj ((show prog.funcNamed Rows.topRetainedRow.func=some gB by kernel_rfl).symm.trans hf) |>.symm
 obtain rfl:fn=Tryz.f4:=(Option.some.inj (Tryz.func4.symm.trans hfn)).symm
 refine⟨by kernel_rfl,fun j t ht=>?_⟩
 rw[Tryz.params4] at ht
 have hall:((#[V4,D6,R6,Q0]:Array TypeId).toList.all fun t=>!prog.wantsStandIn t)=true:=by kernel_rfl
 have:=List.all_eq_true.1 hall t (Array.mem_toList_iff.2 (Array.mem_of_getElem? ht))
 show prog.wantsStandIn t=false
 simpa using this
theorem topRetainedCard_holds:Rows.TopRetainedCardSaid :=
 Claim7.holds_tied_plain_at .later [] _ _ _ _ ac0 (fun _ h=>by cases h) (by kernel_rfl) (fun _ h=>by cases h) topRetained_row_tie rfl ⟨rfl,rfl⟩ (by kernel_rfl) rfl UZ (by kernel_rfl)
end Go.Proofs.YtngbebnhegcokaaGreatDoor
