/-
  TopLogs holds: for every configuration, all entries and all operations the law answers true. No condition.
-/
import Derived.Test.YtngbebnhegcokaaGreatDoorMbF
set_option linter.all false
namespace Go.Proofs.YtngbebnhegcokaaGreatDoor
open Go.Proofs.Tryz (prog)
open Go.ChangeShapes Go.WideShapes Go.ChangeAt Go.RowKit
set_option maxRecDepth 100000
theorem we0(H:Type)(enc:TypeId×Value→H)(W:World)(base:Nat)(args:Array Value)(ds gs:List (DataW H))(before:List MemPlace)
  (hval0:∀(j:Nat) t v,Tryz.f3.params[j]? = some t→args[j]? = some v→Value.okWide prog W .any base t v)
  (hW:DataW.Whole enc prog Tryz.f3.params.toList Rows.topLogsSpec.vars false W args.toList ds gs before) (hL:laidMetH prog Rows.topLogsRow.laid W) :
  Calls prog aD args W fun e W'=>∃v,e = .returned v∧Rows.topLogsSpec.post enc prog Tryz.f3 false true false false W args v W':=by
 obtain⟨args⟩:=args
 have hval:∀(j:Nat) t v,Tryz.f3.params[j]? = some t→(Array.mk args)[j]? = some v→Value.okWide prog W .any base t v:=hval0
 have hW':=hW
 obtain⟨p,q,hA0,hV,rfl,_,_⟩:=hW
 have hA:DataW.TrodAll enc prog W 0 (fun _=>true) true Tryz.f3.params.toList args ds p:=hA0
 rw[Tryz.params3] at hA hval
 obtain⟨v0,vs0,d0,ds0,p0,q0,rfl,rfl,rfl,h0,hA⟩:=trodAll_cons hA
 obtain⟨v1,vs1,d1,ds1,p1,q1,rfl,rfl,rfl,h1,hA⟩:=trodAll_cons hA
 obtain⟨v2,vs2,d2,ds2,p2,q2,rfl,rfl,rfl,h2,hA⟩:=trodAll_cons hA
 obtain⟨rfl,rfl,rfl⟩:=trodAll_nil hA
 obtain⟨rfl,rfl⟩:=trodVars_none hV
 obtain⟨c0,rfl,z0⟩:=okWide_struct fZ (hval 0 E5 v0 rfl rfl)
 obtain⟨fu0,hf0⟩:=h0
 obtain⟨x0,hx0,hq0⟩:=Uh0 _ _ _ hf0
 have hx0:c0.toList=Enc.cells x0:=hx0
 obtain rfl:c0=(Enc.cells x0).toArray:=by rw[←hx0]
 obtain⟨a1,n1,c1,rfl⟩:=okWide_slice QY (hval 1 Z4 v1 rfl rfl)
 obtain⟨fu1,hf1⟩:=h1
 obtain⟨l1,hl1,hm1,hq1⟩:=lY (α:=PD) (Q:=VR W) QY bf0 (fun n cs y=>mk0 n cs y) hf1
 obtain⟨a2,n2,c2,rfl⟩:=okWide_slice PS (hval 2 AA v2 rfl rfl)
 obtain⟨fu2,hf2⟩:=h2
 obtain⟨l2,hl2,hm2,hq2⟩:=lY (α:=xB) (Q:=jK W) PS XU (fun n cs y=>wZ n cs y) hf2
 have hc:=OB.call (Iv0 (W:=W) (c:=x0) (K:=fun v w'=>v = .bool true∧Below W.heap.size W w') (eE0 hL) (El0 hL) (El0 hL).1 (oJ.row hl1) hm1 hq1 (oJ.row hl2) hm2 hq2 fun w' σ h=>⟨rfl,oJ.fin h⟩)
 have hty:∀t∈Tryz.f3.params.toList,prog.readableRec t=true∧t<prog.types.size:=by
  have hall:(Tryz.f3.params.toList.all fun t=>prog.readableRec t&&decide (t<prog.types.size))=true:=by kernel_rfl
  intro t ht
  have:=List.all_eq_true.1 hall t ht
  simpa using this
 refine hc.mono fun e W' he=>?_
 cases e with
 | returned v =>
  obtain⟨rfl,hB⟩:=he
  exact⟨_,rfl,fE0 dE0 hW' rfl rfl rfl rfl NK0 hty hB⟩
 | panicked ch=>exact he.elim
 | outgrown=>exact he.elim
theorem ye0(os:Os):laidMet prog Rows.topLogsRow.laid ((Id0 os).forCall (fun _ _=>0) ⟨#[],#[.agg #[.int .i64 0,.int .i64 0,.int .i64 0,.int .i64 0,.int .i64 0,.int .i64 0],.slice none 0 0,.slice none 0 0],[]⟩).memory :=
 laidMet_of_run' 8 (by kernel_rfl) (by kernel_rfl)
theorem Nk0(os:Os){H:Type}(enc:TypeId×Value→H):∃places,DataW.whole enc prog ((Id0 os).forCall (fun _ _=>0) ⟨#[],#[.agg #[.int .i64 0,.int .i64 0,.int .i64 0,.int .i64 0,.int .i64 0,.int .i64 0],.slice none 0 0,.slice none 0 0],[]⟩).memory Tryz.f3.params.toList Rows.topLogsSpec.vars false (#[.agg #[.int .i64 0,.int .i64 0,.int .i64 0,.int .i64 0,.int .i64 0,.int .i64 0],.slice none 0 0,.slice none 0 0]:Array Value).toList 8=some ([.agg [.lit (.int .i64 0),.lit (.int .i64 0),.lit (.int .i64 0),.lit (.int .i64 0),.lit (.int .i64 0),.lit (.int .i64 0)],.nil,.nil],[],places) :=
 ⟨[],by kernel_rfl⟩
set_option maxRecDepth 100000 in
theorem Mj0(os:Os)(started:os.Started)(H:Type)(enc:TypeId×Value→H)(F:Stop.Interp) :
  ReturnsInHanded {} Tryz.checked os aD .any ((OpenSpec.ofChange Rows.topLogsSpec).preRow enc prog Tryz.f3 Rows.topLogsRow.domain false Rows.topLogsRow.laid) (((OpenSpec.ofChange Rows.topLogsSpec).at F).post enc prog Tryz.f3 false true false false):=by
 obtain⟨places,hx⟩:=Nk0 os enc
 refine returnsInHanded_of_row (C:=Tryz.checked) (s:=OpenSpec.ofChange Rows.topLogsSpec) rO0 started (by kernel_rfl) Tryz.func3
  (witness_row_at (enc:=enc) (C:=Tryz.checked) false (Id0 os) #[.agg #[.int .i64 0,.int .i64 0,.int .i64 0,.int .i64 0,.int .i64 0,.int .i64 0],.slice none 0 0,.slice none 0 0] rfl (by kernel_rfl) (by kernel_rfl) (by kernel_rfl)
   (OpenSpec.preRow_of_cond 8 hx (by kernel_rfl) (fun k hk=>by cases hk) (by kernel_rfl) (ye0 os))) ?_
 intro W base args ds gs before hval hW _ _ _ hL _ _
 exact we0 H enc W base args ds gs before hval hW hL
theorem Ro0:Rows.TopLogsSaid :=
 OpenClaim.holds_of_cond aD Tryz.f3 rfl rfl rfl rfl rfl rfl rfl ⟨rfl,rfl,rfl,rfl,rfl⟩ rfl rfl rfl rfl rfl (by kernel_rfl) Tryz.func3 (by kernel_rfl)
  (of_decide_eq_true (by kernel_rfl)) (by unfold Func.isWrapper;first | (rw[if_pos (by decide +kernel)];kernel_rfl) | (rw[if_neg (by decide +kernel)];exact⟨rfl,rfl⟩))
  (fun os started H enc _ F=>by rw[OpenClaim.pre_eq_preRow];exact Mj0 os started H enc F)
theorem Mk0(f:FuncId)(fn:Func)(hf:Tryz.pinned.checked.prog.funcNamed Rows.topLogsRow.func=some f)(hfn:Tryz.pinned.checked.prog.funcs[f]? = some fn) :
  true=Tryz.pinned.checked.prog.looks []∧∀(j:Nat) t,fn.params[j]? = some t→Tryz.pinned.checked.prog.wantsStandIn t=false:=by
 obtain rfl:f=aD:=Option.some.inj ((show prog.funcNamed Rows.topLogsRow.func=some aD by kernel_rfl).symm.trans hf) |>.symm
 obtain rfl:fn=Tryz.f3:=(Option.some.inj (Tryz.func3.symm.trans hfn)).symm
 refine⟨by kernel_rfl,fun j t ht=>?_⟩
 rw[Tryz.params3] at ht
 have hall:((#[E5,Z4,AA]:Array TypeId).toList.all fun t=>!prog.wantsStandIn t)=true:=by kernel_rfl
 have:=List.all_eq_true.1 hall t (Array.mem_toList_iff.2 (Array.mem_of_getElem? ht))
 show prog.wantsStandIn t=false
 simpa using this
theorem topLogsCard_holds:Rows.TopLogsCardSaid :=
 Claim7.holds_tied_plain_at .later [] _ _ _ _ Ro0 (fun _ h=>by cases h) (by kernel_rfl) (fun _ h=>by cases h) topLogs_row_tie rfl ⟨rfl,rfl⟩ (by kernel_rfl) rfl Mk0 (by kernel_rfl)
end Go.Proofs.YtngbebnhegcokaaGreatDoor
