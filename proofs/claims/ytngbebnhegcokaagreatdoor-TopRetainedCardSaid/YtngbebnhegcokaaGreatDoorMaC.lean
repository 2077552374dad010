/-
  Part 3 of the proof that TopRetained holds, for the parts that follow; made small by program out of longer texts. No condition.
-/
import Derived.Test.YtngbebnhegcokaaGreatDoorMaB
namespace Go.Proofs.YtngbebnhegcokaaGreatDoor
open Go.Proofs.Tryz (prog)
set_option linter.unusedVariables false
set_option maxRecDepth 100000
section
variable {w:World} {K:PtK}
def UB.pt(p0 t1:Value)(w:World)(K:PtK):Prop :=
 upK prog (oC U2 p0) w fun p2 w1 =>
 M0 prog (O0 U2 p2 0) fun t4 =>
 Y0 prog (X0 Q0 t4) w1 fun t5 =>
 Y0 prog (X0 Q0 t1) w1 fun t6 =>
 M0 prog (V3 .eql Q0 (.tmp 5) (.tmp 6) t5 t6) fun t7 =>
 K t7 w1
theorem UB.aQ:UB.pt=fun p0 t1 w K=>FN prog Tryz.f202 (VR Tryz.f202) [3] .leaf [p0,t1] w K:=by kernel_rfl
theorem UB.call{p0 t1:Value}{w:World}{K:PtK}(h:UB.pt p0 t1 w K):Calls prog pG #[p0,t1] w (kP K) :=
 fM (args:=[p0,t1]) Tryz.func202 (by kernel_rfl) (by rw[UB.aQ] at h;exact h)
theorem UB.up{p0 t1:Value}{w:World}{K:PtK}(h:Calls prog pG #[p0,t1] w (kP K)):upK prog (Z0 pG #[p0,t1]) w K :=
 JH (fn:=Tryz.f202) Tryz.func202 (by kernel_rfl) (by kernel_rfl) h
def I8.pt(x0 target1 cmp2:Value)(w:World)(K:PtK):Prop :=
 Y0 prog (M5 .len #[J4] Q0 #[false] #[x0]) w fun t13 =>
 kD (X:=Value×Unit) (fun jv1 w1 =>
  M0 prog (V3 .lss Q0 (.tmp 36) (.tmp 37) jv1.1 t13) fun t38 =>
  ifB t38
  (M0 prog (I5 J4 x0 jv1.1) fun t43 =>
  Y0 prog (X0 U2 t43) w1 fun t44 =>
  upK prog (dA cmp2 #[t44,target1]) w1 fun t46 w2 =>
  M0 prog (V3 .eql Q0 (.tmp 46) (.const (.int .i64 0)) t46 (.int .i64 0)) fun t47 =>
  K (.tuple #[jv1.1,t47]) w2)
  (K (.tuple #[jv1.1,(.bool false)]) w1))
 (fun J1 =>
  LOOP (X:=Value×Value×Unit) (fun lv3 w3 next3 =>
  M0 prog (V3 .lss Q0 (.tmp 15) (.tmp 16) lv3.1 lv3.2.1) fun t17 =>
  ifB t17
  (M0 prog (V3 .add Q0 (.tmp 18) (.tmp 19) lv3.1 lv3.2.1) fun t20 =>
   upK prog (bT Q0 fk0 t20) w3 fun t21 w4 =>
   M0 prog (V3 .shr fk0 (.tmp 21) (.const (.int .u64 1)) t21 (.int .u64 1)) fun t22 =>
   upK prog (bT fk0 Q0 t22) w4 fun t23 w5 =>
   M0 prog (I5 J4 x0 t23) fun t27 =>
   Y0 prog (X0 U2 t27) w5 fun t28 =>
   upK prog (dA cmp2 #[t28,target1]) w5 fun t30 w6 =>
   M0 prog (V3 .lss Q0 (.tmp 30) (.const (.int .i64 0)) t30 (.int .i64 0)) fun t31 =>
   ifB t31
   (M0 prog (V3 .add Q0 (.tmp 32) (.const (.int .i64 1)) t23 (.int .i64 1)) fun t33 =>
   next3 (t33,lv3.2.1,()) w6)
   (next3 (lv3.1,t23,()) w6))
  (J1 (lv3.1,()) w3))
  ((.int .i64 0),t13,()) w)
theorem I8.up{x0 target1 cmp2:Value}(h:I8.pt x0 target1 cmp2 w K):upK prog (Z0 H9 #[x0,target1,cmp2]) w K :=
 upF [6,7] (.node none .leaf (.node none .leaf (.node none .leaf (.node (some [9]) .leaf .leaf)))) [x0,target1,cmp2] Tryz.func203 h
def VB.pt(x0 id1:Value)(w:World)(K:PtK):Prop :=
 upK prog (oC U2 x0) w fun x2 w1 =>
 M0 prog (O0 U2 x2 0) fun t5 =>
 Y0 prog (X0 Q0 t5) w1 fun t6 =>
 M0 prog (V3 .sub Q0 (.tmp 6) (.tmp 7) t6 id1) fun t8 =>
 K t8 w1
theorem VB.aQ:VB.pt=fun x0 id1 w K=>FN prog Tryz.f204 (VR Tryz.f204) [4] .leaf [x0,id1] w K:=by kernel_rfl
theorem VB.call{x0 id1:Value}{w:World}{K:PtK}(h:VB.pt x0 id1 w K):Calls prog qG #[x0,id1] w (kP K) :=
 fM (args:=[x0,id1]) Tryz.func204 (by kernel_rfl) (by rw[VB.aQ] at h;exact h)
theorem VB.up{x0 id1:Value}{w:World}{K:PtK}(h:Calls prog qG #[x0,id1] w (kP K)):upK prog (Z0 qG #[x0,id1]) w K :=
 JH (fn:=Tryz.f204) Tryz.func204 (by kernel_rfl) (by kernel_rfl) h
def j_.pt(s0 i1 v2:Value)(w:World)(K:PtK):Prop :=
 M0 prog (y9 J4 s0 (some i1) none none) fun t12 =>
 Y0 prog (M5 .len #[J4] Q0 #[false] #[v2]) w fun t14 =>
 M0 prog (V3 .eql Q0 (.tmp 15) (.const (.int .i64 0)) t14 (.int .i64 0)) fun t16 =>
 ifB t16
 (K s0 w)
 (Y0 prog (M5 .len #[J4] Q0 #[false] #[s0]) w fun t19 =>
  M0 prog (V3 .eql Q0 (.tmp 20) (.tmp 21) i1 t19) fun t22 =>
  ifB t22
  (upK prog (M5 .append #[J4,J4] J4 #[false,false] #[s0,v2]) w fun t25 w1 =>
  K t25 w1)
  (M0 prog (V3 .add Q0 (.tmp 26) (.tmp 27) t19 t14) fun t28 =>
  Y0 prog (M5 .cap #[J4] Q0 #[false] #[s0]) w fun t30 =>
  M0 prog (V3 .gtr Q0 (.tmp 28) (.tmp 30) t28 t30) fun t31 =>
  ifB t31
  (M0 prog (y9 J4 s0 none (some i1) none) fun t34 =>
   M0 prog (V3 .add Q0 (.tmp 35) (.tmp 36) t19 t14) fun t37 =>
   M0 prog (V3 .sub Q0 (.tmp 37) (.tmp 38) t37 i1) fun t39 =>
   upK prog (M5 .append #[J4,Q0] J4 #[false,false] #[t34,t39]) w fun t40 w2 =>
   M0 prog (y9 J4 t40 (some i1) none none) fun t43 =>
   upK prog (M5 .copy #[J4,J4] Q0 #[false,false] #[t43,v2]) w2 fun t45 w3 =>
   M0 prog (V3 .add Q0 (.tmp 47) (.tmp 48) i1 t14) fun t49 =>
   M0 prog (y9 J4 t40 (some t49) none none) fun t50 =>
   M0 prog (y9 J4 s0 (some i1) none none) fun t53 =>
   upK prog (M5 .copy #[J4,J4] Q0 #[false,false] #[t50,t53]) (tick w3) fun t54 w4 =>
   K t40 w4)
  (M0 prog (V3 .add Q0 (.tmp 57) (.tmp 58) t19 t14) fun t59 =>
   M0 prog (y9 J4 s0 none (some t59) none) fun t60 =>
   M0 prog (V3 .add Q0 (.tmp 63) (.tmp 64) i1 t14) fun t65 =>
   M0 prog (y9 J4 t60 (some t65) none none) fun t66 =>
   upK prog (Z0 UO #[v2,t66]) w fun t67 w5 =>
   M0 prog (sUn .not t67) fun t68 =>
   ifB t68
   (M0 prog (V3 .add Q0 (.tmp 70) (.tmp 71) i1 t14) fun t72 =>
   M0 prog (y9 J4 t60 (some t72) none none) fun t73 =>
   M0 prog (y9 J4 t60 (some i1) none none) fun t76 =>
   upK prog (M5 .copy #[J4,J4] Q0 #[false,false] #[t73,t76]) (tick w5) fun t77 w6 =>
   M0 prog (y9 J4 t60 (some i1) none none) fun t80 =>
   upK prog (M5 .copy #[J4,J4] Q0 #[false,false] #[t80,v2]) w6 fun t82 w7 =>
   K t60 w7)
   (M0 prog (y9 J4 t60 (some t19) none none) fun t86 =>
   upK prog (M5 .copy #[J4,J4] Q0 #[false,false] #[t86,v2]) w5 fun t88 w8 =>
   M0 prog (y9 J4 t60 (some i1) none none) fun t91 =>
   upK prog (Z0 DN #[t91,t14]) w8 fun t93 w9 =>
   K t60 w9))))
theorem j_.up{s0 i1 v2:Value}(h:j_.pt s0 i1 v2 w K):upK prog (Z0 xA #[s0,i1,v2]) w K :=
 upF [6] .leaf [s0,i1,v2] Tryz.func205 h
def V9.pt(s0 del1:Value)(w:World)(K:PtK):Prop :=
 upK prog (Z0 X_ #[s0,del1]) w fun t10 w1 =>
 M0 prog (V3 .eql Q0 (.tmp 11) (.const (.int .i64 (-1))) t10 (.int .i64 (-1))) fun t12 =>
 ifB t12
 (K s0 w1)
 (M0 prog (V3 .add Q0 (.tmp 14) (.const (.int .i64 1)) t10 (.int .i64 1)) fun t15 =>
  LOOP (X:=Value×Value×Unit) (fun lv2 w2 next2 =>
  Y0 prog (M5 .len #[P7] Q0 #[false] #[s0]) w2 fun t18 =>
  M0 prog (V3 .lss Q0 (.tmp 16) (.tmp 18) lv2.2.1 t18) fun t19 =>
  ifB t19
  (kD (X:=Value×Unit) (fun jv1 w3 =>
   M0 prog (V3 .add Q0 (.tmp 20) (.const (.int .i64 1)) lv2.2.1 (.int .i64 1)) fun t21 =>
   next2 (jv1.1,t21,()) w3)
   (fun J1 =>
   M0 prog (I5 P7 s0 lv2.2.1) fun t24 =>
   Y0 prog (X0 R4 t24) w2 fun t25 =>
   upK prog (A7 R4) w2 fun v7 w4 =>
   upK prog (I4 R4 v7 t25) w4 fun tu w5 =>
   Y0 prog (X0 R4 v7) w5 fun t27 =>
   upK prog (dA del1 #[t27]) w5 fun t28 w6 =>
   M0 prog (sUn .not t28) fun t29 =>
   ifB t29
   (Y0 prog (X0 R4 v7) w6 fun t32 =>
    M0 prog (I5 P7 s0 lv2.1) fun t33 =>
    upK prog (I4 R4 t33 t32) w6 fun tu_1 w7 =>
    M0 prog (V3 .add Q0 (.tmp 34) (.const (.int .i64 1)) lv2.1 (.int .i64 1)) fun t35 =>
    J1 (t35,()) w7)
   (J1 (lv2.1,()) w6)))
  (M0 prog (y9 P7 s0 (some lv2.1) none none) fun t38 =>
   upK prog (M5 .clear #[P7] T_ #[false] #[t38]) w2 fun tu_2 w8 =>
   M0 prog (y9 P7 s0 none (some lv2.1) none) fun t41 =>
   K t41 w8))
  (t10,t15,()) w1)
theorem V9.up{s0 del1:Value}(h:V9.pt s0 del1 w K):upK prog (Z0 R_ #[s0,del1]) w K :=
 upF [4] (.node none .leaf (.node none .leaf (.node none .leaf (.node none (.node none .leaf (.node none (.node none (.node none .leaf (.node (some [5]) .leaf .leaf)) .leaf) .leaf)) .leaf)))) [s0,del1] Tryz.func206 h
def EA.pt(p0 t1:Value)(w:World)(K:PtK):Prop :=
 upK prog (oC R4 p0) w fun p2 w1 =>
 M0 prog (O0 R4 p2 0) fun t4 =>
 Y0 prog (X0 Q0 t4) w1 fun t5 =>
 Y0 prog (X0 Q0 t1) w1 fun t6 =>
 M0 prog (V3 .eql Q0 (.tmp 5) (.tmp 6) t5 t6) fun t7 =>
 K t7 w1
theorem EA.aQ:EA.pt=fun p0 t1 w K=>FN prog Tryz.f207 (VR Tryz.f207) [3] .leaf [p0,t1] w K:=by kernel_rfl
theorem EA.call{p0 t1:Value}{w:World}{K:PtK}(h:EA.pt p0 t1 w K):Calls prog zD #[p0,t1] w (kP K) :=
 fM (args:=[p0,t1]) Tryz.func207 (by kernel_rfl) (by rw[EA.aQ] at h;exact h)
theorem EA.up{p0 t1:Value}{w:World}{K:PtK}(h:Calls prog zD #[p0,t1] w (kP K)):upK prog (Z0 zD #[p0,t1]) w K :=
 JH (fn:=Tryz.f207) Tryz.func207 (by kernel_rfl) (by kernel_rfl) h
def O8.pt(m0 del1:Value)(w:World)(K:PtK):Prop :=
 upK prog (em0 M7 m0) w fun t7 w1 =>
 LOOP (X:=Unit) (fun lv2 w2 next2 =>
  upK prog (Ot0 t7 false T_) w2 fun t8 w3 =>
  M0 prog (U5 t8 0) fun t9 =>
  ifB t9
  (upK prog (bm0 t7) w3 fun t10 w4 =>
  M0 prog (U5 t10 0) fun t11 =>
  M0 prog (U5 t10 1) fun t12 =>
  upK prog (A7 R4) w4 fun k4 w5 =>
  upK prog (I4 R4 k4 t11) w5 fun tu w6 =>
  Y0 prog (X0 R4 k4) w6 fun t14 =>
  upK prog (dA del1 #[t14,t12]) w6 fun t16 w7 =>
  ifB t16
  (Y0 prog (X0 R4 k4) w7 fun t18 =>
   upK prog (M5 .delete #[M7,R4] T_ #[false,false] #[m0,t18]) w7 fun tu_1 w8 =>
   next2 (()) w8)
  (next2 (()) w7))
  (K (.tuple #[]) w3))
 (()) w1
theorem O8.up{m0 del1:Value}(h:O8.pt m0 del1 w K):upK prog (Z0 N9 #[m0,del1]) w K :=
 upF [] .leaf [m0,del1] Tryz.func208 h
def GA.pt(p0 t1 t2:Value)(w:World)(K:PtK):Prop :=
 upK prog (oC R4 p0) w fun p3 w1 =>
 M0 prog (O0 R4 p3 0) fun t6 =>
 Y0 prog (X0 Q0 t6) w1 fun t7 =>
 Y0 prog (X0 Q0 t2) w1 fun t8 =>
 M0 prog (V3 .eql Q0 (.tmp 7) (.tmp 8) t7 t8) fun t9 =>
 K t9 w1
theorem GA.aQ:GA.pt=fun p0 t1 t2 w K=>FN prog Tryz.f209 (VR Tryz.f209) [5] .leaf [p0,t1,t2] w K:=by kernel_rfl
theorem GA.call{p0 t1 t2:Value}{w:World}{K:PtK}(h:GA.pt p0 t1 t2 w K):Calls prog BD #[p0,t1,t2] w (kP K) :=
 fM (args:=[p0,t1,t2]) Tryz.func209 (by kernel_rfl) (by rw[GA.aQ] at h;exact h)
theorem GA.up{p0 t1 t2:Value}{w:World}{K:PtK}(h:Calls prog BD #[p0,t1,t2] w (kP K)):upK prog (Z0 BD #[p0,t1,t2]) w K :=
 JH (fn:=Tryz.f209) Tryz.func209 (by kernel_rfl) (by kernel_rfl) h
def UQ.pt(l0:Value)(w:World)(K:PtK):Prop :=
 upK prog (A7 V5) w fun b3 w1 =>
 Y0 prog (M5 .len #[Z4] Q0 #[false] #[l0]) w1 fun t7 =>
 LOOP (X:=Value×Unit) (fun lv2 w2 next2 =>
  M0 prog (V3 .lss Q0 (.tmp 8) (.tmp 7) lv2.1 t7) fun t9 =>
  ifB t9
  (M0 prog (I5 Z4 l0 lv2.1) fun t10 =>
  Y0 prog (X0 M3 t10) w2 fun t11 =>
  upK prog (Z0 ZE #[t11]) w2 fun t13 w3 =>
  upK prog (Z0 G7 #[b3,t13]) w3 fun t14 w4 =>
  M0 prog (V3 .add Q0 (.tmp 8) (.const (.int .i64 1)) lv2.1 (.int .i64 1)) fun t15 =>
  next2 (t15,()) w4)
  (upK prog (Z0 I9 #[b3]) w2 fun t16 w5 =>
  K t16 w5))
 ((.int .i64 0),()) w1
theorem UQ.up{l0:Value}(h:UQ.pt l0 w K):upK prog (Z0 oK #[l0]) w K :=
 upF [2] .leaf [l0] Tryz.func210 h
def tC.pt(s0 del1:Value)(w:World)(K:PtK):Prop :=
 upK prog (Z0 nE #[s0,del1]) w fun t10 w1 =>
 M0 prog (V3 .eql Q0 (.tmp 11) (.const (.int .i64 (-1))) t10 (.int .i64 (-1))) fun t12 =>
 ifB t12
 (K s0 w1)
 (M0 prog (V3 .add Q0 (.tmp 14) (.const (.int .i64 1)) t10 (.int .i64 1)) fun t15 =>
  LOOP (X:=Value×Value×Unit) (fun lv2 w2 next2 =>
  Y0 prog (M5 .len #[R6] Q0 #[false] #[s0]) w2 fun t18 =>
  M0 prog (V3 .lss Q0 (.tmp 16) (.tmp 18) lv2.2.1 t18) fun t19 =>
  ifB t19
  (kD (X:=Value×Unit) (fun jv1 w3 =>
   M0 prog (V3 .add Q0 (.tmp 20) (.const (.int .i64 1)) lv2.2.1 (.int .i64 1)) fun t21 =>
   next2 (jv1.1,t21,()) w3)
   (fun J1 =>
   M0 prog (I5 R6 s0 lv2.2.1) fun t24 =>
   Y0 prog (X0 Q0 t24) w2 fun t25 =>
   upK prog (dA del1 #[t25]) w2 fun t28 w4 =>
   M0 prog (sUn .not t28) fun t29 =>
   ifB t29
   (M0 prog (I5 R6 s0 lv2.1) fun t33 =>
    upK prog (I4 Q0 t33 t25) w4 fun tu w5 =>
    M0 prog (V3 .add Q0 (.tmp 34) (.const (.int .i64 1)) lv2.1 (.int .i64 1)) fun t35 =>
    J1 (t35,()) w5)
   (J1 (lv2.1,()) w4)))
  (M0 prog (y9 R6 s0 (some lv2.1) none none) fun t38 =>
   upK prog (M5 .clear #[R6] T_ #[false] #[t38]) w2 fun tu_1 w6 =>
   M0 prog (y9 R6 s0 none (some lv2.1) none) fun t41 =>
   K t41 w6))
  (t10,t15,()) w1)
theorem tC.up{s0 del1:Value}(h:tC.pt s0 del1 w K):upK prog (Z0 ED #[s0,del1]) w K :=
 upF [4] (.node none .leaf (.node none .leaf (.node none .leaf (.node none (.node none .leaf (.node none (.node none (.node none .leaf (.node (some [5]) .leaf .leaf)) .leaf) .leaf)) .leaf)))) [s0,del1] Tryz.func211 h
def wD.pt(i0 t1:Value)(w:World)(K:PtK):Prop :=
 Y0 prog (X0 J7 t1) w fun t5 =>
 M0 prog (D5 t5) fun t6 =>
 M0 prog (O0 I1 t6 0) fun t7 =>
 Y0 prog (X0 Q0 t7) w fun t8 =>
 M0 prog (V3 .eql Q0 (.tmp 4) (.tmp 8) i0 t8) fun t9 =>
 K t9 w
theorem wD.up{i0 t1:Value}(h:wD.pt i0 t1 w K):upK prog (Z0 sF #[i0,t1]) w K :=
 upF [3] .leaf [i0,t1] Tryz.func212 h
def O_.pt(s0 i1 j2:Value)(w:World)(K:PtK):Prop :=
 Y0 prog (M5 .len #[X6] Q0 #[false] #[s0]) w fun t12 =>
 M0 prog (y9 X6 s0 (some i1) (some j2) (some t12)) fun t13 =>
 M0 prog (V3 .eql Q0 (.tmp 14) (.tmp 15) i1 j2) fun t16 =>
 ifB t16
 (K s0 w)
 (Y0 prog (M5 .len #[X6] Q0 #[false] #[s0]) w fun t19 =>
  M0 prog (y9 X6 s0 none (some i1) none) fun t22 =>
  M0 prog (y9 X6 s0 (some j2) none none) fun t25 =>
  upK prog (M5 .append #[X6,X6] X6 #[false,false] #[t22,t25]) (tick w) fun t26 w1 =>
  Y0 prog (M5 .len #[X6] Q0 #[false] #[t26]) w1 fun t29 =>
  M0 prog (y9 X6 t26 (some t29) (some t19) none) fun t31 =>
  upK prog (M5 .clear #[X6] T_ #[false] #[t31]) w1 fun tu w2 =>
  K t26 w2)
theorem O_.up{s0 i1 j2:Value}(h:O_.pt s0 i1 j2 w K):upK prog (Z0 eB #[s0,i1,j2]) w K :=
 upF [6] .leaf [s0,i1,j2] Tryz.func213 h
def vO.pt(m0:Value)(w:World)(K:PtK):Prop :=
 upK prog (oC Y1 m0) w fun m1 w1 =>
 upK prog (A7 F3) w1 fun t2 w2 =>
 Y0 prog (X0 Y1 m1) w2 fun t3 =>
 upK prog (J6 U_ 1 #[(0,t3)]) w2 fun t4 w3 =>
 M0 prog (H6 F3 #[(4,t4)]) fun t5 =>
 upK prog (I4 F3 t2 t5) w3 fun tu w4 =>
 U9 prog (do loadVar F3 (←asAddr t2)) w4 fun t2_1 =>
 K t2_1 w4
theorem vO.up{m0:Value}(h:vO.pt m0 w K):upK prog (Z0 A_ #[m0]) w K :=
 upF [] .leaf [m0] Tryz.func214 h
def fE.pt(r0:Value)(w:World)(K:PtK):Prop :=
 upK prog (Z0 RB #[r0]) w fun t6 w1 =>
 Y0 prog (M5 .len #[R6] Q0 #[false] #[t6]) w1 fun t7 =>
 LOOP (X:=Value×Value×Unit) (fun lv2 w2 next2 =>
  M0 prog (V3 .lss Q0 (.tmp 8) (.tmp 7) lv2.2.1 t7) fun t9 =>
  ifB t9
  (M0 prog (I5 R6 t6 lv2.2.1) fun t10 =>
  Y0 prog (X0 Q0 t10) w2 fun t11 =>
  M0 prog (D5 r0) fun t15 =>
  M0 prog (O0 I1 t15 7) fun t16 =>
  M0 prog (I5 FM t16 t11) fun t17 =>
  Y0 prog (X0 Q0 t17) w2 fun t18 =>
  M0 prog (M5 .max #[Q0,Q0] Q0 #[false,false] #[lv2.1,t18]) fun t19 =>
  M0 prog (V3 .add Q0 (.tmp 8) (.const (.int .i64 1)) lv2.2.1 (.int .i64 1)) fun t20 =>
  next2 (t19,t20,()) w2)
  (M0 prog (D5 r0) fun t23 =>
  M0 prog (O0 I1 t23 4) fun t24 =>
  Y0 prog (X0 Q0 t24) (tick w2) fun t25 =>
  M0 prog (V3 .gtr Q0 (.tmp 21) (.tmp 25) lv2.1 t25) fun t26 =>
  ifB t26
  (M0 prog (D5 r0) fun t32 =>
   M0 prog (O0 I1 t32 1) fun t33 =>
   M0 prog (O0 O5 t33 0) fun t34 =>
   Y0 prog (X0 Q0 t34) (tick w2) fun t35 =>
   upK prog (Z0 C_ #[r0,lv2.1]) (tick w2) fun t30 w3 =>
   Is prog (X0 Q0 t34) t35 w3∧M0 prog (V3 .eql Q0 (.tmp 30) (.tmp 35) t30 t35) fun t36 =>
   ifB t36
   (M0 prog (D5 r0) fun t40 =>
   M0 prog (O0 I1 t40 4) fun t41 =>
   upK prog (I4 Q0 t41 lv2.1) w3 fun tu w4 =>
   K (.tuple #[]) w4)
   (K (.tuple #[]) w3))
  (K (.tuple #[]) (tick w2))))
 ((.int .i64 0),(.int .i64 0),()) w1
theorem fE.up{r0:Value}(h:fE.pt r0 w K):upK prog (Z0 ZF #[r0]) w K :=
 upF [] .leaf [r0] Tryz.func215 h
def h_.pt(s0 f1:Value)(w:World)(K:PtK):Prop :=
 upK prog (Z0 bB #[s0,f1]) w fun t7 w1 =>
 M0 prog (V3 .geq Q0 (.tmp 7) (.const (.int .i64 0)) t7 (.int .i64 0)) fun t8 =>
 K t8 w1
theorem h_.up{s0 f1:Value}(h:h_.pt s0 f1 w K):upK prog (Z0 uA #[s0,f1]) w K :=
 upF [4] .leaf [s0,f1] Tryz.func216 h
def OG.pt(v0:Value)(w:World)(K:PtK):Prop :=
 upK prog (oC R3 v0) w fun v1 w1 =>
 Y0 prog (X0 R3 v1) w1 fun t3 =>
 upK prog (Z0 nT #[t3]) w1 fun t4 w2 =>
 M0 prog (sUn .not t4) fun t5 =>
 K t5 w2
theorem OG.aQ:OG.pt=fun v0 w K=>FN prog Tryz.f217 (VR Tryz.f217) [2] .leaf [v0] w K:=by kernel_rfl
theorem OG.call{v0:Value}{w:World}{K:PtK}(h:OG.pt v0 w K):Calls prog qP #[v0] w (kP K) :=
 fM (args:=[v0]) Tryz.func217 (by kernel_rfl) (by rw[OG.aQ] at h;exact h)
theorem OG.up{v0:Value}{w:World}{K:PtK}(h:Calls prog qP #[v0] w (kP K)):upK prog (Z0 qP #[v0]) w K :=
 JH (fn:=Tryz.f217) Tryz.func217 (by kernel_rfl) (by kernel_rfl) h
def fT.pt(v0:Value)(w:World)(K:PtK):Prop :=
 upK prog (oC R3 v0) w fun v1 w1 =>
 M0 prog (O0 R3 v1 0) fun t3 =>
 Y0 prog (X0 Q0 t3) w1 fun t4 =>
 M0 prog (V3 .eql Q0 (.tmp 4) (.const (.int .i64 0)) t4 (.int .i64 0)) fun t6 =>
 ifB t6
 (Y0 prog (X0 R3 v1) (tick w1) fun t7 =>
  M0 prog (O0 R3 v1 1) fun t8 =>
  Y0 prog (X0 Q0 t8) (tick w1) fun t9 =>
  upK prog (Z0 FV #[t9]) (tick w1) fun t10 w2 =>
  Is prog (X0 R3 v1) t7 w2∧M0 prog (V3 .eql R3 (.tmp 7) (.tmp 10) t7 t10) fun t11 =>
  K t11 w2)
 (M0 prog (V3 .eql Q0 (.tmp 4) (.const (.int .i64 1)) t4 (.int .i64 1)) fun t13 =>
  ifB t13
  (Y0 prog (X0 R3 v1) (tick w1) fun t14 =>
  M0 prog (O0 R3 v1 2) fun t15 =>
  Y0 prog (X0 M3 t15) (tick w1) fun t16 =>
  upK prog (Z0 FU #[t16]) (tick w1) fun t17 w3 =>
  Is prog (X0 R3 v1) t14 w3∧M0 prog (V3 .eql R3 (.tmp 14) (.tmp 17) t14 t17) fun t18 =>
  ifB t18
  (M0 prog (O0 R3 v1 2) fun t20 =>
   Y0 prog (X0 M3 t20) w3 fun t21 =>
   Y0 prog (M5 .len #[M3] Q0 #[false] #[t21]) w3 fun t22 =>
   M0 prog (V3 .leq Q0 (.tmp 22) (.const (.int .i64 200)) t22 (.int .i64 200)) fun t23 =>
   K t23 w3)
  (K (.bool false) w3))
  (Y0 prog (X0 R3 v1) (tick w1) fun t25 =>
  upK prog (Z0 NQ #[(.bool false)]) (tick w1) fun t26 w4 =>
  Is prog (X0 R3 v1) t25 w4∧M0 prog (V3 .eql R3 (.tmp 25) (.tmp 26) t25 t26) fun t27 =>
  ifB t27
  (K (.bool true) w4)
  (Y0 prog (X0 R3 v1) w4 fun t29 =>
   upK prog (Z0 NQ #[(.bool true)]) w4 fun t30 w5 =>
   Is prog (X0 R3 v1) t29 w5∧M0 prog (V3 .eql R3 (.tmp 29) (.tmp 30) t29 t30) fun t31 =>
   K t31 w5)))
theorem fT.up{v0:Value}(h:fT.pt v0 w K):upK prog (Z0 nT #[v0]) w K :=
 upF [2] .leaf [v0] Tryz.func218 h
def IM.pt(d0 f1 at2 s3:Value)(w:World)(K:PtK):Prop :=
 upK prog (Z0 LH #[d0]) w fun t12 w1 =>
 upK prog (Z0 GN #[d0,f1,at2,s3]) w1 fun t17 w2 =>
 ifB t12
 (M0 prog (D5 d0) fun t21 =>
  M0 prog (O0 P5 t21 6) fun t22 =>
  Y0 prog (X0 R6 t22) w2 fun t23 =>
  upK prog (Z0 lG #[d0,t23]) w2 fun t24 w3 =>
  K (.int .i64 9) w3)
 (K t17 w2)
theorem IM.up{d0 f1 at2 s3:Value}(h:IM.pt d0 f1 at2 s3 w K):upK prog (Z0 mG #[d0,f1,at2,s3]) w K :=
 upF [8] .leaf [d0,f1,at2,s3] Tryz.func235 h
def JS.pt(slot0 s1:Value)(w:World)(K:PtK):Prop :=
 upK prog (bT Q0 p_ slot0) w fun t8 w1 =>
 upK prog (J6 WA 1 #[(0,t8)]) w1 fun t9 w2 =>
 Y0 prog (M5 .len #[M3] Q0 #[false] #[s1]) w2 fun t11 =>
 LOOP (X:=Value×Value×Unit) (fun lv3 w3 next3 =>
  Y0 prog (M5 .len #[WA] Q0 #[false] #[lv3.1]) w3 fun t13 =>
  M0 prog (V3 .lss Q0 (.tmp 13) (.const (.int .i64 5)) t13 (.int .i64 5)) fun t14 =>
  ifB t14
  (upK prog (bT Q0 p_ lv3.2.1) w3 fun t19 w4 =>
  upK prog (J6 WA 1 #[(0,t19)]) w4 fun t20 w5 =>
  upK prog (M5 .append #[WA,WA] WA #[false,false] #[lv3.1,t20]) w5 fun t21 w6 =>
  M0 prog (V3 .shr Q0 (.tmp 15) (.const (.int .u64 8)) lv3.2.1 (.int .u64 8)) fun t16 =>
  next3 (t21,t16,()) w6)
  (upK prog (bT WA M3 lv3.1) w3 fun t23 w7 =>
  K t23 w7))
 (t9,t11,()) w2
theorem JS.up{slot0 s1:Value}(h:JS.pt slot0 s1 w K):upK prog (Z0 nP #[slot0,s1]) w K :=
 upF [4] .leaf [slot0,s1] Tryz.func236 h
def EG.pt(j0 bytes1 n2:Value)(w:World)(K:PtK):Prop :=
 M0 prog (D5 j0) fun t9 =>
 M0 prog (O0 Y4 t9 2) fun t10 =>
 Y0 prog (X0 V8 t10) (tick w) fun t11 =>
 upK prog (Z0 J8 #[bytes1]) (tick w) fun t13 w1 =>
 Is prog (X0 V8 t10) t11 w1∧upK prog (Z0 J8 #[n2]) w1 fun t15 w2 =>
 Is prog (X0 V8 t10) t11 w2∧M0 prog (V3 .add M3 (.tmp 13) (.tmp 15) t13 t15) fun t16 =>
 upK prog (Z0 wM #[t11,t16]) w2 fun t17 w3 =>
 M0 prog (V3 .neq D7 (.tmp 19) (.const (.int .i64 0)) t17 (.int .i64 0)) fun t20 =>
 M0 prog (D5 j0) fun t21 =>
 M0 prog (O0 Y4 t21 5) fun t22 =>
 upK prog (I4 SB t22 t20) w3 fun tu w4 =>
 K t17 w4
theorem EG.up{j0 bytes1 n2:Value}(h:EG.pt j0 bytes1 n2 w K):upK prog (Z0 KE #[j0,bytes1,n2]) w K :=
 upF [6] .leaf [j0,bytes1,n2] Tryz.func237 h
def K_.pt(s0 f1:Value)(w:World)(K:PtK):Prop :=
 Y0 prog (M5 .len #[Q9] Q0 #[false] #[s0]) w fun t7 =>
 LOOP (X:=Value×Unit) (fun lv1 w1 next1 =>
  M0 prog (V3 .lss Q0 (.tmp 8) (.tmp 7) lv1.1 t7) fun t9 =>
  ifB t9
  (M0 prog (I5 Q9 s0 lv1.1) fun t14 =>
  Y0 prog (X0 A8 t14) w1 fun t15 =>
  upK prog (dA f1 #[t15]) w1 fun t16 w2 =>
  ifB t16
  (K lv1.1 w2)
  (M0 prog (V3 .add Q0 (.tmp 8) (.const (.int .i64 1)) lv1.1 (.int .i64 1)) fun t18 =>
   next1 (t18,()) w2))
  (K (.int .i64 (-1)) w1))
 ((.int .i64 0),()) w
theorem K_.up{s0 f1:Value}(h:K_.pt s0 f1 w K):upK prog (Z0 aB #[s0,f1]) w K :=
 upF [4] .leaf [s0,f1] Tryz.func238 h
def F_.pt(k0 t1:Value)(w:World)(K:PtK):Prop :=
 upK prog (oC A8 k0) w fun k2 w1 =>
 M0 prog (O0 A8 k2 0) fun t4 =>
 Y0 prog (X0 M3 t4) w1 fun t5 =>
 M0 prog (O0 U1 t1 4) fun t6 =>
 Y0 prog (X0 M3 t6) w1 fun t7 =>
 M0 prog (V3 .eql M3 (.tmp 5) (.tmp 7) t5 t7) fun t8 =>
 ifB t8
 (M0 prog (O0 A8 k2 1) fun t10 =>
  Y0 prog (X0 Q0 t10) w1 fun t11 =>
  M0 prog (O0 U1 t1 5) fun t12 =>
  Y0 prog (X0 Q0 t12) w1 fun t13 =>
  M0 prog (V3 .eql Q0 (.tmp 11) (.tmp 13) t11 t13) fun t14 =>
  K t14 w1)
 (K (.bool false) w1)
theorem F_.aQ:F_.pt=fun k0 t1 w K=>FN prog Tryz.f239 (VR Tryz.f239) [3] .leaf [k0,t1] w K:=by kernel_rfl
theorem F_.call{k0 t1:Value}{w:World}{K:PtK}(h:F_.pt k0 t1 w K):Calls prog yC #[k0,t1] w (kP K) :=
 fM (args:=[k0,t1]) Tryz.func239 (by kernel_rfl) (by rw[F_.aQ] at h;exact h)
theorem F_.up{k0 t1:Value}{w:World}{K:PtK}(h:Calls prog yC #[k0,t1] w (kP K)):upK prog (Z0 yC #[k0,t1]) w K :=
 JH (fn:=Tryz.f239) Tryz.func239 (by kernel_rfl) (by kernel_rfl) h
def F8.pt(s10 s21 eq2:Value)(w:World)(K:PtK):Prop :=
 Y0 prog (M5 .len #[X4] Q0 #[false] #[s10]) w fun t11 =>
 Y0 prog (M5 .len #[LB] Q0 #[false] #[s21]) w fun t13 =>
 M0 prog (V3 .neq Q0 (.tmp 11) (.tmp 13) t11 t13) fun t14 =>
 ifB t14
 (K (.bool false) w)
 (Y0 prog (M5 .len #[X4] Q0 #[false] #[s10]) w fun t16 =>
  LOOP (X:=Value×Unit) (fun lv1 w1 next1 =>
  M0 prog (V3 .lss Q0 (.tmp 17) (.tmp 16) lv1.1 t16) fun t18 =>
  ifB t18
  (M0 prog (I5 X4 s10 lv1.1) fun t20 =>
   Y0 prog (X0 R3 t20) w1 fun t21 =>
   upK prog (A7 R3) w1 fun v18 w2 =>
   upK prog (I4 R3 v18 t21) w2 fun tu w3 =>
   M0 prog (I5 LB s21 lv1.1) fun t24 =>
   Y0 prog (X0 iB t24) w3 fun t25 =>
   upK prog (A7 iB) w3 fun v29 w4 =>
   upK prog (I4 iB v29 t25) w4 fun tu_1 w5 =>
   Y0 prog (X0 R3 v18) w5 fun t27 =>
   Y0 prog (X0 iB v29) w5 fun t28 =>
   upK prog (dA eq2 #[t27,t28]) w5 fun t29 w6 =>
   M0 prog (sUn .not t29) fun t30 =>
   ifB t30
   (K (.bool false) w6)
   (M0 prog (V3 .add Q0 (.tmp 17) (.const (.int .i64 1)) lv1.1 (.int .i64 1)) fun t31 =>
   next1 (t31,()) w6))
  (K (.bool true) w1))
  ((.int .i64 0),()) w)
theorem F8.up{s10 s21 eq2:Value}(h:F8.pt s10 s21 eq2 w K):upK prog (Z0 E9 #[s10,s21,eq2]) w K :=
 upF [6] .leaf [s10,s21,eq2] Tryz.func240 h
def G_.pt(v0 c1:Value)(w:World)(K:PtK):Prop :=
 upK prog (oC R3 v0) w fun v2 w1 =>
 upK prog (oC iB c1) w1 fun c3 w2 =>
 M0 prog (O0 R3 v2 0) fun t5 =>
 Y0 prog (X0 Q0 t5) w2 fun t6 =>
 M0 prog (O0 iB c3 1) fun t7 =>
 Y0 prog (X0 Q0 t7) w2 fun t8 =>
 M0 prog (V3 .eql Q0 (.tmp 6) (.tmp 8) t6 t8) fun t9 =>
 K t9 w2
theorem G_.aQ:G_.pt=fun v0 c1 w K=>FN prog Tryz.f241 (VR Tryz.f241) [4] .leaf [v0,c1] w K:=by kernel_rfl
theorem G_.call{v0 c1:Value}{w:World}{K:PtK}(h:G_.pt v0 c1 w K):Calls prog zC #[v0,c1] w (kP K) :=
 fM (args:=[v0,c1]) Tryz.func241 (by kernel_rfl) (by rw[G_.aQ] at h;exact h)
theorem G_.up{v0 c1:Value}{w:World}{K:PtK}(h:Calls prog zC #[v0,c1] w (kP K)):upK prog (Z0 zC #[v0,c1]) w K :=
 JH (fn:=Tryz.f241) Tryz.func241 (by kernel_rfl) (by kernel_rfl) h
def Z9.pt(s0 f1:Value)(w:World)(K:PtK):Prop :=
 Y0 prog (M5 .len #[P7] Q0 #[false] #[s0]) w fun t7 =>
 LOOP (X:=Value×Unit) (fun lv1 w1 next1 =>
  M0 prog (V3 .lss Q0 (.tmp 8) (.tmp 7) lv1.1 t7) fun t9 =>
  ifB t9
  (M0 prog (I5 P7 s0 lv1.1) fun t14 =>
  Y0 prog (X0 R4 t14) w1 fun t15 =>
  upK prog (dA f1 #[t15]) w1 fun t16 w2 =>
  ifB t16
  (K lv1.1 w2)
  (M0 prog (V3 .add Q0 (.tmp 8) (.const (.int .i64 1)) lv1.1 (.int .i64 1)) fun t18 =>
   next1 (t18,()) w2))
  (K (.int .i64 (-1)) w1))
 ((.int .i64 0),()) w
theorem Z9.up{s0 f1:Value}(h:Z9.pt s0 f1 w K):upK prog (Z0 X_ #[s0,f1]) w K :=
 upF [4] .leaf [s0,f1] Tryz.func244 h
def MC.pt(s0 f1:Value)(w:World)(K:PtK):Prop :=
 Y0 prog (M5 .len #[R6] Q0 #[false] #[s0]) w fun t7 =>
 LOOP (X:=Value×Unit) (fun lv1 w1 next1 =>
  M0 prog (V3 .lss Q0 (.tmp 8) (.tmp 7) lv1.1 t7) fun t9 =>
  ifB t9
  (M0 prog (I5 R6 s0 lv1.1) fun t14 =>
  Y0 prog (X0 Q0 t14) w1 fun t15 =>
  upK prog (dA f1 #[t15]) w1 fun t16 w2 =>
  ifB t16
  (K lv1.1 w2)
  (M0 prog (V3 .add Q0 (.tmp 8) (.const (.int .i64 1)) lv1.1 (.int .i64 1)) fun t18 =>
   next1 (t18,()) w2))
  (K (.int .i64 (-1)) w1))
 ((.int .i64 0),()) w
theorem MC.up{s0 f1:Value}(h:MC.pt s0 f1 w K):upK prog (Z0 nE #[s0,f1]) w K :=
 upF [4] .leaf [s0,f1] Tryz.func245 h
def L_.pt(s0 f1:Value)(w:World)(K:PtK):Prop :=
 Y0 prog (M5 .len #[X4] Q0 #[false] #[s0]) w fun t7 =>
 LOOP (X:=Value×Unit) (fun lv1 w1 next1 =>
  M0 prog (V3 .lss Q0 (.tmp 8) (.tmp 7) lv1.1 t7) fun t9 =>
  ifB t9
  (M0 prog (I5 X4 s0 lv1.1) fun t14 =>
  Y0 prog (X0 R3 t14) w1 fun t15 =>
  upK prog (dA f1 #[t15]) w1 fun t16 w2 =>
  ifB t16
  (K lv1.1 w2)
  (M0 prog (V3 .add Q0 (.tmp 8) (.const (.int .i64 1)) lv1.1 (.int .i64 1)) fun t18 =>
   next1 (t18,()) w2))
  (K (.int .i64 (-1)) w1))
 ((.int .i64 0),()) w
theorem L_.up{s0 f1:Value}(h:L_.pt s0 f1 w K):upK prog (Z0 bB #[s0,f1]) w K :=
 upF [4] .leaf [s0,f1] Tryz.func246 h
def mX.pt(n0:Value)(w:World)(K:PtK):Prop :=
 upK prog (A7 R3) w fun t2 w1 =>
 M0 prog (H6 R3 #[(0,(.int .i64 0)),(1,n0)]) fun t4 =>
 upK prog (I4 R3 t2 t4) w1 fun tu w2 =>
 U9 prog (do loadVar R3 (←asAddr t2)) w2 fun t2_1 =>
 K t2_1 w2
theorem mX.up{n0:Value}(h:mX.pt n0 w K):upK prog (Z0 FV #[n0]) w K :=
 upF [] .leaf [n0] Tryz.func247 h
def sV.pt(s0:Value)(w:World)(K:PtK):Prop :=
 upK prog (A7 R3) w fun t2 w1 =>
 M0 prog (H6 R3 #[(0,(.int .i64 1)),(2,s0)]) fun t4 =>
 upK prog (I4 R3 t2 t4) w1 fun tu w2 =>
 U9 prog (do loadVar R3 (←asAddr t2)) w2 fun t2_1 =>
 K t2_1 w2
theorem sV.up{s0:Value}(h:sV.pt s0 w K):upK prog (Z0 FU #[s0]) w K :=
 upF [] .leaf [s0] Tryz.func248 h
def rV.pt(b0:Value)(w:World)(K:PtK):Prop :=
 upK prog (A7 R3) w fun t2 w1 =>
 ifB b0
 (M0 prog (H6 R3 #[(0,(.int .i64 2)),(1,(.int .i64 1))]) fun t4 =>
  upK prog (I4 R3 t2 t4) w1 fun tu w2 =>
  U9 prog (do loadVar R3 (←asAddr t2)) w2 fun t2_1 =>
  K t2_1 w2)
 (M0 prog (H6 R3 #[(0,(.int .i64 2))]) fun t5 =>
  upK prog (I4 R3 t2 t5) w1 fun tu_1 w3 =>
  U9 prog (do loadVar R3 (←asAddr t2)) w3 fun t2_2 =>
  K t2_2 w3)
theorem rV.up{b0:Value}(h:rV.pt b0 w K):upK prog (Z0 NQ #[b0]) w K :=
 upF [] .leaf [b0] Tryz.func249 h
def JM.pt(d0 f1 at2 s3:Value)(w:World)(K:PtK):Prop :=
 upK prog (Z0 iJ #[d0,f1]) w fun t15 w1 =>
 M0 prog (V3 .neq D7 (.tmp 16) (.const (.int .i64 0)) t15 (.int .i64 0)) fun t17 =>
 ifB t17
 (K t15 w1)
 (M0 prog (V3 .lss Q0 (.tmp 20) (.const (.int .i64 0)) at2 (.int .i64 0)) fun t21 =>
  ifB t21
  (K (.int .i64 1) w1)
  (M0 prog (V3 .gtr Q0 (.tmp 23) (.const (.int .i64 16777216)) at2 (.int .i64 16777216)) fun t24 =>
  ifB t24
  (K (.int .i64 6) w1)
  (Y0 prog (M5 .len #[M3] Q0 #[false] #[s3]) w1 fun t27 =>
   M0 prog (V3 .sub Q0 (.const (.int .i64 16777216)) (.tmp 28) (.int .i64 16777216) at2) fun t29 =>
   M0 prog (V3 .gtr Q0 (.tmp 27) (.tmp 29) t27 t29) fun t30 =>
   ifB t30
   (K (.int .i64 6) w1)
   (M0 prog (V3 .eql M3 (.tmp 33) (.const (.string ⟨#[]⟩)) s3 (.string ⟨#[]⟩)) fun t34 =>
   ifB t34
   (K (.int .i64 0) w1)
   (M0 prog (D5 d0) fun t36 =>
    M0 prog (O0 P5 t36 0) fun t37 =>
    Y0 prog (X0 O6 t37) w1 fun t38 =>
    Y0 prog (XJ O6 t38 f1 false) w1 fun t40 =>
    upK prog (A7 L8) w1 fun x10 w2 =>
    upK prog (I4 L8 x10 t40) w2 fun tu w3 =>
    M0 prog (O0 L8 x10 0) fun t41 =>
    Y0 prog (X0 M3 t41) w3 fun t42 =>
    upK prog (Z0 DU #[t42,at2,s3]) w3 fun t45 w4 =>
    M0 prog (O0 L8 x10 0) fun t46 =>
    upK prog (I4 M3 t46 t45) w4 fun tu_1 w5 =>
    M0 prog (D5 d0) fun t48 =>
    M0 prog (O0 P5 t48 0) fun t49 =>
    Y0 prog (X0 O6 t49) (tick w5) fun t50 =>
    Y0 prog (X0 L8 x10) (tick w5) fun t52 =>
    upK prog (jX O6 t50 f1 t52) (tick w5) fun tu_2 w6 =>
    M0 prog (V3 .quo Q0 (.tmp 53) (.const (.int .i64 64)) at2 (.int .i64 64)) fun t54 =>
    LOOP (X:=Value×Unit) (fun lv7 w7 next7 =>
    Y0 prog (M5 .len #[M3] Q0 #[false] #[s3]) w7 fun t58 =>
    M0 prog (V3 .add Q0 (.tmp 56) (.tmp 58) at2 t58) fun t59 =>
    M0 prog (V3 .sub Q0 (.tmp 59) (.const (.int .i64 1)) t59 (.int .i64 1)) fun t60 =>
    M0 prog (V3 .quo Q0 (.tmp 60) (.const (.int .i64 64)) t60 (.int .i64 64)) fun t61 =>
    M0 prog (V3 .leq Q0 (.tmp 55) (.tmp 61) lv7.1 t61) fun t62 =>
    ifB t62
    (kD (X:=Unit) (fun jv1 w8 =>
     M0 prog (V3 .add Q0 (.tmp 63) (.const (.int .i64 1)) lv7.1 (.int .i64 1)) fun t64 =>
     next7 (t64,()) w8)
     (fun J1 =>
     M0 prog (H6 R4 #[(0,f1),(1,lv7.1)]) fun t67 =>
     upK prog (A7 R4) w7 fun p12 w9 =>
     upK prog (I4 R4 p12 t67) w9 fun tu_3 w10 =>
     M0 prog (D5 d0) fun t69 =>
     M0 prog (O0 P5 t69 2) fun t70 =>
     Y0 prog (X0 M7 t70) (tick w10) fun t71 =>
     Y0 prog (X0 R4 p12) (tick w10) fun t72 =>
     Y0 prog (XJ M7 t71 t72 false) (tick w10) fun t73 =>
     M0 prog (sUn .not t73) fun t74 =>
     ifB t74
     (M0 prog (D5 d0) fun t77 =>
      M0 prog (O0 P5 t77 2) fun t78 =>
      Y0 prog (X0 M7 t78) (tick (tick w10)) fun t79 =>
      Y0 prog (X0 R4 p12) (tick (tick w10)) fun t80 =>
      M0 prog (D5 d0) fun t82 =>
      M0 prog (O0 P5 t82 1) fun t83 =>
      Y0 prog (X0 P7 t83) (tick (tick w10)) fun t84 =>
      Y0 prog (X0 R4 p12) (tick (tick w10)) fun t85 =>
      upK prog (J6 P7 1 #[(0,t85)]) (tick (tick w10)) fun t86 w11 =>
      Is prog (X0 P7 t83) t84 w11∧Is prog (X0 R4 p12) t80 w11∧Is prog (X0 M7 t78) t79 w11∧upK prog (M5 .append #[P7,P7] P7 #[false,false] #[t84,t86]) w11 fun t87 w12 =>
      Is prog (X0 R4 p12) t80 w12∧Is prog (X0 M7 t78) t79 w12∧M0 prog (D5 d0) fun t88 =>
      M0 prog (O0 P5 t88 1) fun t89 =>
      upK prog (I4 P7 t89 t87) w12 fun tu_4 w13 =>
      Is prog (X0 R4 p12) t80 w13∧upK prog (Qb0 M7 t79 t80) w13 fun t90 w14 =>
      M0 prog (U5 t90 1) fun t91 =>
      upK prog (EW M7 t79 t91 (.bool true)) w14 fun tu_5 w15 =>
      J1 (()) w15)
     (J1 (()) (tick w10))))
    (K (.int .i64 0) w7))
    (t54,()) w6)))))
theorem JM.up{d0 f1 at2 s3:Value}(h:JM.pt d0 f1 at2 s3 w K):upK prog (Z0 GN #[d0,f1,at2,s3]) w K :=
 upF [8] (.node none .leaf (.node none .leaf (.node none .leaf (.node none .leaf (.node none .leaf (.node none .leaf (.node none (.node none .leaf (.node none (.node none (.node none .leaf (.node (some []) .leaf .leaf)) .leaf) .leaf)) .leaf))))))) [d0,f1,at2,s3] Tryz.func267 h
end
end Go.Proofs.YtngbebnhegcokaaGreatDoor
namespace Go.Proofs.YtngbebnhegcokaaGreatDoor
open Go.Proofs.Tryz (prog)
open Go.RowKit Go.Shelf
set_option maxRecDepth 100000
def tm0(g:Nat)(cs:List Value):Dat:=⟨fun B=>B.keep g∧∃E fz,B.W.heap[g]? = some (.cells cs.toArray E fz),fun {B B'} hl ⟨h1,E,fz,h2⟩=>by
 obtain⟨h3,h4⟩:=hl g h1 (Array.getElem?_eq_some_iff.1 h2).1
 exact⟨h3,E,fz,h4.trans h2⟩⟩
theorem CC0:prog.globalNamed "internal/strconv.uint64pow10"=some jD:=by kernel_rfl
def VI:Dat:=tm0 jD (Lib.pow10Tab.map (Value.int .u64))
def qC:Dat:=VI.and ((Dat.ex fun e:TypeId×Value=>tm0 PL [.iface e.1 e.2]).and (Dat.ex fun e:TypeId×Value=>tm0 YM [.iface e.1 e.2]))
set_option maxRecDepth 100000 in
theorem oH0{n:Int}(h0 : -9223372036854775808≤n)(h1:n≤9223372036854775807)(w:World)(htab:Lib.TabIs prog w "internal/strconv.uint64pow10" .u64 Lib.pow10Tab) :
  Calls prog FD #[.int .i64 n] w fun e w'=>e = .returned (.string ⟨(Lib.itoa n).toArray⟩)∧∃k os,w'=Go.Sort.grow (w.drewN k) os:=Any.strconv_Itoa Tryz.vz0 n h0 h1 w htab
set_option maxRecDepth 100000 in
theorem GD0(s:ByteArray)(hmax:s.size≤9223372036854775806)(v:Int)(h:Lib.atoiAll s.data.toList = .ok v)(w:World) :
  Calls prog BC #[.string s] w fun e w'=>e = .returned (.tuple #[.int .i64 v,.nilIface])∧(w'=w∨∃t,w'=Lib.bytesWorld w p_ t):=Any.strconv_Atoi_ok Tryz.Of0 s hmax v h w
set_option maxRecDepth 100000 in
theorem GA0(s:ByteArray)(hlim:s.size≤281474976710656)(h0:∀v,Lib.atoiAll s.data.toList ≠ .ok v)(h1:Lib.atoiAll s.data.toList ≠ .range)(ev:Value)(w:World)(hv:w.cell? ⟨PL,0,none⟩=some ev)(hev:ev = .nilIface∨∃te pe,ev = .iface te pe) :
  Calls prog BC #[.string s] w fun e w'=>∃n t p,e = .returned (.tuple #[.int .i64 n,.iface t p])∧Below w.heap.size w w':=by
 have h:=Any.strconv_Atoi_syntax Tryz.Of0 s hlim (by rcases e:Lib.atoiAll s.data.toList with v | _ | _<;>first | rfl | exact absurd e h1 | exact absurd e (h0 _)) ev w hv hev
 refine Calls.mono (f:=BC) h ?_
 rintro e w' ⟨N,rfl,_,_,hb⟩
 exact⟨_,_,_,rfl,hb⟩
set_option maxRecDepth 100000 in
theorem DA0(s:ByteArray)(hlim:s.size≤281474976710656)(h:Lib.atoiAll s.data.toList = .range)(ev:Value)(w:World)(hv:w.cell? ⟨YM,0,none⟩=some ev)(hev:ev = .nilIface∨∃te pe,ev = .iface te pe) :
  Calls prog BC #[.string s] w fun e w'=>∃n t p,e = .returned (.tuple #[.int .i64 n,.iface t p])∧Below w.heap.size w w':=by
 have h:=Any.strconv_Atoi_range Tryz.Of0 s hlim h ev w hv hev
 refine Calls.mono (f:=BC) h ?_
 rintro e w' ⟨N,rfl,_,_,hb⟩
 exact⟨_,_,_,rfl,hb⟩
set_option maxRecDepth 100000 in
theorem vG0(s:ByteArray)(c:Int)(w:World) :
  Calls prog uE #[.string s,.int .u8 c] w fun e w'=>e = .returned (.int .i64 (Lib.indexByte s.data.toList c.toNat.toUInt8))∧w'=w:=Any.strings_IndexByte Tryz.Gv0 s c w
set_option maxRecDepth 100000 in
theorem cI0(s p:ByteArray)(w:World) :
  Calls prog rE #[.string s,.string p] w fun e w'=>e = .returned (.tuple #[.string ⟨(Lib.trimPrefix s.data.toList p.data.toList).toArray⟩,.bool (Lib.hasPrefix s.data.toList p.data.toList)])∧w'=w:=Any.strings_CutPrefix Tryz.LC0 s p w
section
variable {B:Base} {w w':World} {σ:List Dat}
theorem Rel.below(h:Rel B w σ)(hb:Below w.heap.size w w'):Rel B w' σ:=by
 obtain⟨c,h⟩:=h
 refine⟨WF c w.heap.size 0,hb.os.trans h.os,hb.tape.trans h.tape,hb.output.trans h.output,Nat.le_trans h.size hb.size,fun k hk hs=>?_,fun k hk hs=>?_,fun j d hj=>?_⟩
 ·have:=Nat.lt_of_lt_of_le hs h.size
  rw[WF,if_pos this];exact h.keepc k hk hs
 ·have:=Nat.lt_of_lt_of_le hs h.size
  rw[hb.block k this];exact h.same k hk hs
 ·refine d.mono (fun k hk hs=>?_) (h.own j d hj)
  have hk:c k=j+1:=hk
  have hs:k<w.heap.size:=hs
  exact⟨by show WF c w.heap.size 0 k=j+1;rw[WF,if_pos hs];exact hk,hb.block k hs⟩
theorem below_grow(w:World)(k:Nat)(os:Array Obj):Below w.heap.size w (Go.Sort.grow (w.drewN k) os):=by
 refine⟨rfl,rfl,rfl,?_,fun j hj=>?_⟩
 ·rw[Go.Sort.size_grow]
  exact Nat.le_add_right _ _
 ·exact Go.Sort.heap_grow_old _ _ hj
theorem tm0.cell{g:Nat}{cs:List Value}{v:Value}(h:(tm0 g cs).here w)(hv:cs[0]? = some v):w.cell? ⟨g,0,none⟩=some v:=by
 obtain⟨_,E,fz,h2⟩:=h
 have h2:w.heap[g]? = some (.cells cs.toArray E fz):=h2
 simp only[World.cell?,h2]
 simpa using hv
theorem VI.pow(h:VI.here w):Lib.TabIs prog w "internal/strconv.uint64pow10" .u64 Lib.pow10Tab:=by
 obtain⟨_,E,fz,h2⟩:=h
 have h2:w.heap[jD]? = some (.cells (Lib.pow10Tab.map (Value.int .u64)).toArray E fz):=h2
 unfold Lib.TabIs World.var?
 rw[CC0]
 simp only[Option.bind_some,h2]
theorem qC.syn(h:qC.here w):∃t p,w.cell? ⟨PL,0,none⟩=some (.iface t p):=by
 obtain⟨_,⟨e,h2⟩,_⟩:=h
 exact⟨e.1,e.2,tm0.cell h2 rfl⟩
theorem qC.rng(h:qC.here w):∃t p,w.cell? ⟨YM,0,none⟩=some (.iface t p):=by
 obtain⟨_,_,⟨e,h2⟩⟩:=h
 exact⟨e.1,e.2,tm0.cell h2 rfl⟩
instance qC.coe {B:Base}:Coe (qC B) (VI B):=⟨fun h=>h.1⟩
theorem kl0(hB:VI B){n:Int}(hn:inI n):Gives prog B (Z0 FD #[.int .i64 n]) (.string (ofL (Lib.itoa n))):=by
 refine Gives.intro fun B' w K base h k=>?_
 have hw:=h.L6 (base hB)
 refine strconv_Itoa.up (Calls.mono (oH0 hn.1 hn.2 w (VI.pow hw)) ?_)
 rintro e w' ⟨rfl,m,os,rfl⟩
 exact k _ _ (h.below (below_grow w m os))
def UG0(s:Bs)(v:Value):Prop:=(∃n,Lib.atoiAll s = .ok n∧v = .tuple #[.int .i64 n,.nilIface])∨((∀n,Lib.atoiAll s ≠ .ok n)∧∃n t p,v = .tuple #[.int .i64 n,.iface t p])
theorem oF0{K:PtK}(hB:qC B)(h:Rel B w σ){s:ByteArray}(hs:s.size≤281474976710656)(k:∀v w',UG0 (bl s) v→Rel B w' σ→K v w'):upK prog (Z0 BC #[.string s]) w K:=by
 have hw:=h.L6 hB
 rcases ha:Lib.atoiAll s.data.toList with n | _ | _
 ·skip
  refine strconv_Atoi.up (Calls.mono (GD0 s (by omega) n ha w) ?_)
  rintro e w' ⟨rfl,hw'⟩
  refine k _ _ (.inl ⟨n,ha,rfl⟩) ?_
  rcases hw' with rfl | ⟨t,rfl⟩
  ·exact h
  ·exact h.below (Lib.bytesWorld_below _ _ _)
 ·skip
  obtain⟨t,p,hc⟩:=qC.syn hw
  refine strconv_Atoi.up (Calls.mono (GA0 s hs (fun v hv=>by rw[ha] at hv;cases hv) (fun hv=>by rw[ha] at hv;cases hv) _ w hc (.inr ⟨t,p,rfl⟩)) ?_)
  rintro e w' ⟨n,t,p,rfl,hb⟩
  exact k _ _ (.inr ⟨fun n hn=>(by rw[show Lib.atoiAll (bl s)=_ from ha] at hn;cases hn),_,_,_,rfl⟩) (h.below hb)
 ·skip
  obtain⟨t,p,hc⟩:=qC.rng hw
  refine strconv_Atoi.up (Calls.mono (DA0 s hs ha _ w hc (.inr ⟨t,p,rfl⟩)) ?_)
  rintro e w' ⟨n,t,p,rfl,hb⟩
  exact k _ _ (.inr ⟨fun n hn=>(by rw[show Lib.atoiAll (bl s)=_ from ha] at hn;cases hn),_,_,_,rfl⟩) (h.below hb)
theorem IC0(s:ByteArray)(c:Int):Gives prog B (Z0 uE #[.string s,.int .u8 c]) (.int .i64 (Lib.indexByte (bl s) c.toNat.toUInt8)):=by
 refine Gives.intro fun B' w K base h k=>?_
 refine strings_IndexByte.up (Calls.mono (vG0 s c w) ?_)
 rintro e w' ⟨rfl,rfl⟩
 exact k _ _ h
theorem fH0(s p:ByteArray):Gives prog B (Z0 rE #[.string s,.string p]) (.tuple #[.string (ofL (Lib.trimPrefix (bl s) (bl p))),.bool (Lib.hasPrefix (bl s) (bl p))]):=by
 refine Gives.intro fun B' w K base h k=>?_
 refine strings_CutPrefix.up (Calls.mono (cI0 s p w) ?_)
 rintro e w' ⟨rfl,rfl⟩
 exact k _ _ h
theorem index_first{e:UInt8}:∀{a:Bs} (r:Bs),e ∉ a→Lib.indexByte (a++e :: r) e=a.length
 | [],r,_=>by simp [Lib.indexByte]
 | x :: a,r,h=>by
  have hx:¬x=e:=fun hh=>h (by rw[hh];exact List.mem_cons_self)
  have ih:=index_first (a:=a) r fun hh=>h (List.mem_cons_of_mem _ hh)
  rw[List.cons_append,Lib.indexByte,ih]
  simp only[beq_iff_eq,hx,if_false]
  rw[if_neg (by omega),List.length_cons]
  omega
theorem index_none{e:UInt8}:∀{a:Bs},e ∉ a→Lib.indexByte a e = -1
 | [],_=>rfl
 | x :: a,h=>by
  have hx:¬x=e:=fun hh=>h (by rw[hh];exact List.mem_cons_self)
  have ih:=index_none (a:=a) fun hh=>h (List.mem_cons_of_mem _ hh)
  rw[Lib.indexByte,ih]
  simp [hx]
theorem Bc0{e:UInt8}:∀{l:Bs},e∈l→∃a r,l=a++e :: r∧e ∉ a
 | x :: l,h=>by
  by_cases hx:x=e
  ·subst hx;exact⟨[],l,rfl,by simp⟩
  ·rcases List.mem_cons.1 h with h | h
   ·exact absurd h.symm hx
   ·obtain⟨a,r,rfl,ha⟩:=Bc0 h
    refine⟨x :: a,r,rfl,fun hh=>?_⟩
    rcases List.mem_cons.1 hh with hh | hh
    ·exact hx hh.symm
    ·exact ha hh
theorem gi0{T u:TypeId}{x:Value}{xo yo:Operand}{Kp:Value→Prop}(hT:prog.underlying T=some (.interface (prog.methodsAt T))):M0 prog (V3 .neq T xo yo (.iface u x) .nilIface) Kp=Kp (.bool true) :=
 F5 fun w=>MP rfl (run_neq_held_nil w T u x hT)
theorem qo0{T:TypeId}{xo:Operand}{v:Value}{Kp:Value→Prop}(hT:prog.underlying T=some (.interface (prog.methodsAt T))):M0 prog (V3 .neq T xo (.const v) .nilIface .nilIface) Kp=Kp (.bool false) :=
 F5 fun w=>MP (by unfold eqGuard;cases xo<;>rfl) (run_neq_nil_nil w T hT)
theorem KB0{P:Program}{T:TypeId}{v:Value}(h:(P.info? T).bind (·.zero)=some v)(w:World):(zeroValue T).run P w = .ok v w:=by
 cases hi:P.info? T with
 | none=>rw[hi] at h;cases h
 | some i =>
  rw[hi] at h
  have h:i.zero=some v:=h
  simp [zeroValue,typeInfo,hi,h]
theorem exS:Builder.Extra prog Tryz.pW where
 sizeBuilder:=by kernel_rfl
 liesBuilder:=by kernel_rfl
 t5:=(by kernel_rfl:prog.underlying p_=some (.int .u8))
 a5:=fun w=>Gf0 (by kernel_rfl:scB prog p_=true)
 z5:=fun w=>Yt0 (by kernel_rfl:scB prog p_=true)
 v5:=fun w=>KB0 (by kernel_rfl:(prog.info? p_).bind (·.zero)=some (.int .u8 0)) w
 infoByte:=by kernel_rfl
 cellsByte:=by kernel_rfl
 sizeByte:=by kernel_rfl
 neB5:=by decide
def bP(lo b:Nat)(l:Bs):Dat:=⟨fun B=>B.keep b∧lo≤b∧∃p v,(p = .pointer none∨p = .pointer (some ⟨b,0,none⟩))∧B.W.heap[b]? = some (.cells #[p,v] V5 (0,0)) ∧
  ((v = .slice none 0 0∧l=[])∨∃g cap cur fz,v = .slice (some ⟨g,0,none⟩) l.length cap∧lo≤g∧g≠b∧B.keep g∧B.W.heap[g]? = some (.cells cur p_ fz)∧fz.2≤l.length∧l.length≤cap∧cap≤maxLen∧cur.size=cap∧cur.toList.take l.length=Lib.byteCells l),
 fun {B B'} hl ⟨h1,h2,p,v,h3,h4,h5⟩=>by
  obtain⟨h6,h7⟩:=hl b h1 (Array.getElem?_eq_some_iff.1 h4).1
  refine⟨h6,h2,p,v,h3,h7.trans h4,?_⟩
  rcases h5 with h5 | ⟨g,cap,cur,fz,e1,e2,e3,e4,e5,e6⟩
  ·exact .inl h5
  ·obtain⟨h8,h9⟩:=hl g e4 (Array.getElem?_eq_some_iff.1 e5).1
   exact .inr ⟨g,cap,cur,fz,e1,e2,e3,h8,h9.trans e5,e6⟩⟩
theorem vT(l:Bs):(Lib.byteCells l).length=l.length:=Lib.byteCells_length l
theorem bP.is{lo b:Nat}{l:Bs}(h:(bP lo b l).here w):Lib.IsBuilderF V5 p_ lo b (Lib.byteCells l) w:=by
 obtain⟨_,h2,p,v,h3,h4,h5⟩:=h
 have h4:w.heap[b]? = some (.cells #[p,v] V5 (0,0)):=h4
 have key:Lib.BuilderAtF V5 p_ lo b p (Lib.byteCells l) w:=by
  refine⟨h2,v,h4,⟨by rw[Nat.mul_one],?_⟩,?_⟩
  ·rw[vT]
   rcases h5 with⟨e1,e2⟩ | ⟨g,cap,cur,fz,e1,e2,e3,e4,e5,e6,e7,e8,e9,e10⟩
   ·exact .inl ⟨e1,by rw[e2];rfl⟩
   ·exact .inr ⟨g,cap,cur,fz,e1,e2,e5,by rw[Nat.mul_one];exact e6,e7,e8,by rw[Nat.mul_one];exact e9,by rw[Nat.mul_one];exact e10⟩
  ·rcases h5 with⟨e1,e2⟩ | ⟨g,cap,cur,fz,e1,e2,e3,e4,e5,e6,e7,e8,e9,e10⟩
   ·rw[e1];simp [Value.ownBlock]
   ·rw[e1];simp [Value.ownBlock,e3]
 rcases h3 with rfl | rfl
 ·exact .inl key
 ·exact .inr key
theorem bP.of{lo b:Nat}{l:Bs}(h:Lib.IsBuilderF V5 p_ lo b (Lib.byteCells l) w)(hs:lo≤w.heap.size):(bP lo b l) ⟨w,fun k=>(if k<lo then 0 else 1)=1⟩:=by
 have key:∀p,(p = .pointer none∨p = .pointer (some ⟨b,0,none⟩))→Lib.BuilderAtF V5 p_ lo b p (Lib.byteCells l) w→(bP lo b l) ⟨w,fun k=>(if k<lo then 0 else 1)=1⟩:=by
  rintro p hp ⟨h1,v,h2,⟨_,h3⟩,h4⟩
  have kp:∀g,lo≤g→(if g<lo then(0:Nat) else 1)=1:=fun g hg=>if_neg (by omega)
  refine⟨kp b h1,h1,p,v,hp,h2,?_⟩
  rw[vT] at h3
  rcases h3 with⟨e1,e2⟩ | ⟨g,cap,cur,fz,e1,e2,e3,e4,e5,e6,e7,e8⟩
  ·exact .inl ⟨e1,List.eq_nil_of_length_eq_zero e2⟩
  ·refine .inr ⟨g,cap,cur,fz,e1,e2,fun hh=>h4 ?_,kp g e2,e3,by omega,e5,e6,by omega,by rw[Nat.mul_one] at e8;exact e8⟩
   rw[e1,hh];rfl
 rcases h with h | h
 ·exact key _ (.inl rfl) h
 ·exact key _ (.inr rfl) h
theorem Rel.ks0{lo b:Nat}{l l':Bs}(h:Rel B w [bP lo b l])(hlo:B.W.heap.size≤lo)(hs:lo≤w.heap.size)(hb:Below lo w w')(hn:Lib.IsBuilderF V5 p_ lo b (Lib.byteCells l') w'):Rel B w' [bP lo b l']:=by
 obtain⟨c,h⟩:=h
 refine⟨fun k=>if k<lo then 0 else 1,hb.os.trans h.os,hb.tape.trans h.tape,hb.output.trans h.output,Nat.le_trans h.size hb.size,fun k hk hs=>if_pos (by omega),fun k hk hs=>?_,fun j d hj=>?_⟩
 ·rw[hb.block k (by omega)];exact h.same k hk hs
 ·cases j with
  | zero =>
   cases hj
   exact bP.of hn (Nat.le_trans hs hb.size)
  | succ j=>simp at hj
theorem Bu0(s:ByteArray):Lib.strCells s=Lib.byteCells (bl s):=rfl
theorem Rel.CE0{lo b:Nat}{l:Bs}(h:Rel B w [bP lo b l]):lo≤w.heap.size:=by
 obtain⟨_,h2,p,v,_,h4,_⟩:=h.here (i:=0) rfl
 have h4:w.heap[b]? = some (.cells #[p,v] V5 (0,0)):=h4
 have:=(Array.getElem?_eq_some_iff.1 h4).1
 omega
theorem wT{T:TypeId}{xo yo:Operand}{Kp:Value→Prop}(hT:prog.underlying T=some (.pointer (prog.pointee T))):M0 prog (V3 .eql T xo yo (.pointer none) (.pointer none)) Kp=Kp (.bool true) :=
 F5 fun w=>MP rfl (run_eql_pointer_nil w T none hT)
theorem to0{v:Value}{K:PtK}(h:K v w):upK prog (Z0 PH #[v]) w K:=by
 refine vC (v:=v) (w':=w) ?_ h
 show (callFunc PH #[v]).run prog w=_
 rw[run_callFunc_extern (fn:=QT) (by kernel_rfl) (by kernel_rfl) (by kernel_rfl) (by kernel_rfl) (e:=Extern.AbiNoEscape.same) (by kernel_rfl)]
 rfl
theorem zk0:∃j,prog.info? V5=some j∧j.size=2:=by
 have:(prog.info? V5).map (·.size)=some 2:=by kernel_rfl
 obtain⟨j,h1,h2⟩:=Option.map_eq_some_iff.1 this
 exact⟨j,h1,h2⟩
theorem qF0{lo b:Nat}{bs:List Value}{K:PtK}(h:Lib.IsBuilderF V5 p_ lo b bs w)(k:∀w1,Lib.BuilderAtF V5 p_ lo b (.pointer (some ⟨b,0,none⟩)) bs w1→Below lo w w1→K (.tuple #[]) w1) :
  upK prog (Z0 ME #[.pointer (some ⟨b,0,none⟩)]) w K:=by
 obtain⟨j,hj,hjs⟩:=zk0
 have hpt:prog.underlying F9=some (.pointer V5):=by kernel_rfl
 have hup:prog.underlying XO=some .unsafePointer:=by kernel_rfl
 refine YC.up ?_
 unfold YC.pt
 rcases h with h | h
 ·simp -zeta only[J5,U0 BQ,Nat.add_zero,Qf0 EK h.cell0,wT xQ,lC]
  refine vC (X9 (Lib.run_to_unsafe (w:=w) ⟨b,0,none⟩ hpt hup hj (by rw[hjs];decide) h.shape (Nat.zero_lt_succ 1))) ?_
  refine to0 ?_
  refine vC (X9 (Lib.run_from_unsafe (w:=w) ⟨b,0,none⟩ hup hpt hj h.shape (by kernel_rfl))) ?_
  obtain⟨h1,v,h2,h3,h4⟩:=h
  refine bu0 (c:=fun _=>0) (t:=0) EK (cs:=#[.pointer none,v]) ⟨rfl,h2⟩ (by show 0<2;omega) rfl fun _ _=>?_
  exact k _ (Lib.BuilderAtF.used ⟨h1,v,h2,h3,h4⟩ _) ((Below.refl lo w).setCell (p:=⟨b,0,none⟩) h1 _)
 ·have hne:∀{Kp:Value→Prop} {xo yo:Operand},M0 prog (V3 .neq F9 xo yo (.pointer (some ⟨b,0,none⟩)) (.pointer (some ⟨b,0,none⟩))) Kp=Kp (.bool false):=fun {Kp xo yo}=>F5 fun w=>MP rfl (Lib.run_neq_ptr_same w ⟨b,0,none⟩ hpt hj)
  simp -zeta only[J5,U0 BQ,Nat.add_zero,Qf0 EK h.cell0,OA xQ,d_,hne]
  exact k _ h (Below.refl lo w)
theorem sF0{lo b:Nat}{bs:List Value}{s:ByteArray}{K:PtK}(h:Lib.IsBuilderF V5 p_ lo b bs w)(hlen:bs.length+s.size≤140737488355328)(hlo:lo≤w.heap.size)
  (k:∀v w',Lib.BuilderAtF V5 p_ lo b (.pointer (some ⟨b,0,none⟩)) (bs++Lib.strCells s) w'→Below lo w w'→K v w'):upK prog (Z0 G7 #[.pointer (some ⟨b,0,none⟩),.string s]) w K:=by
 obtain⟨i0,hi,hz0,hz1,hz2⟩:=info_parts (show (prog.info? p_).map (fun i=>(i.zero,i.size,i.bytes))=some (some (.int .u8 0),1,1) by kernel_rfl)
 refine uC.up ?_
 unfold uC.pt
 refine qF0 h fun w1 h1 hb1=>?_
 obtain⟨hB,v,hbk,hown,hne⟩:=h1
 have c1:w1.cell? ⟨b,1,none⟩=some v:=by rw[Lib.cell_of_heap hbk];rfl
 simp -zeta only[J5,U0 AX,Nat.zero_add,Qf0 Ug0 c1]
 have hlt:b<w1.heap.size:=(Array.getElem?_eq_some_iff.1 hbk).1
 obtain⟨v',w2,hr,hown',hgrow,_⟩:=Lib.run_append_own_stringF (P:=prog) w1 lo WA M3 WA p_ i0 na0 K8 hi hz0 hz1 hz2 v bs.length bs hown s (by unfold maxLen;omega) (by omega) (by have:=hb1.size;omega)
 refine vC (X9 hr) ?_
 have hb2:w2.heap[b]? = some (.cells #[.pointer (some ⟨b,0,none⟩),v] V5 (0,0)):=by
  rw[hgrow.block b hlt (fun e=>hne e.symm)]
  exact hbk
 have h1c:v'.oneCell'=true:=by
  rcases hown'.2 with⟨hv,_⟩ | ⟨g,cap,cur,fz,hv,_⟩<;>rw[hv]<;>rfl
 refine bu0 (c:=fun _=>0) (t:=0) Ug0 (cs:=#[.pointer (some ⟨b,0,none⟩),v]) ⟨rfl,hb2⟩ (by show 1<2;omega) h1c fun _ _=>?_
 simp -zeta only[LC K8]
 refine k _ _ (Lib.BuilderAtF.put (T:=V5) (e:=p_) hB hb2 (bs':=bs++Lib.strCells s) (by simpa [Lib.strCells_length] using hown') (by decide)) ?_
 exact(hb1.grown hgrow (by have:=hb1.size;omega) (fun k hk=>(hown.lt k hk).1)).setCell (p:=⟨b,1,none⟩) hB _
theorem Rel.VN{lo b:Nat}{l:Bs}{s:ByteArray}{K:PtK}(h:Rel B w [bP lo b l])(hlo:B.W.heap.size≤lo)(hlen:l.length+s.size≤140737488355328)
  (k:∀v w',Rel B w' [bP lo b (l++bl s)]→K v w'):upK prog (Z0 G7 #[.pointer (some ⟨b,0,none⟩),.string s]) w K:=by
 have hs:=h.CE0
 refine sF0 (bP.is (h.here (i:=0) rfl)) (by rw[vT];exact hlen) hs fun v w' h1 h2=>?_
 refine k _ _ (h.ks0 hlo hs h2 (.inr ?_))
 rw[Bu0] at h1
 have:Lib.byteCells (l++bl s)=Lib.byteCells l++Lib.byteCells (bl s):=by simp [Lib.byteCells]
 rw[this]
 exact h1
set_option maxRecDepth 100000 in
theorem JD0{lo b:Nat}{l:Bs}{w:World}(h:Lib.IsBuilderF V5 p_ lo b (Lib.byteCells l) w)(hs:lo≤w.heap.size) :
  Calls prog I9 #[.pointer (some ⟨b,0,none⟩)] w fun e w'=>e = .returned (.string ⟨l.toArray⟩)∧(Lib.IsBuilderF V5 p_ lo b (Lib.byteCells l) w'∧Below lo w w'∧Lib.OthersKept p_ (some b) w w'):=Any.Builder_String_any_k Tryz.Nq0 exS lo b l w h hs
theorem Rel.gU{lo b:Nat}{l:Bs}{K:PtK}(h:Rel B w [bP lo b l])(hlo:B.W.heap.size≤lo)
  (k:∀w',Rel B w' [bP lo b l]→K (.string (ofL l)) w'):upK prog (Z0 I9 #[.pointer (some ⟨b,0,none⟩)]) w K:=by
 have hs:=h.CE0
 refine pV.up (Calls.mono (JD0 (bP.is (h.here (i:=0) rfl)) hs) ?_)
 rintro e w' ⟨rfl,h1,h2,_⟩
 exact k _ (h.ks0 hlo hs h2 h1)
theorem Gives.Ef0{s:Sem Next}{v:Value}(h:∀(B':Base) (w:World) (K:PtK),(∀{d:Dat},d B→d B')→Rel B' w []→(∀(w1:World) (b:Nat),Rel B' w1 [O1 b V5 #[.pointer none,.slice none 0 0]]→Rel B' w1 [bP B'.W.heap.size b []])→(∀w' τ,Rel B' w' τ→K v w')→upK prog s w K):Gives prog B s v:=by
 intro w σ K hr k
 obtain⟨B',h',back,_,base⟩:=hr.frz
 refine h ⟨w,fun _=>True⟩ w K (fun {d} hd=>by
  obtain⟨c,hc⟩:=hr
  exact d.mono (fun k hk hs=>⟨trivial,hc.same k hk hs⟩) hd) ⟨fun _=>0,rfl,rfl,rfl,Nat.le_refl _,fun _ _ _=>rfl,fun _ _ _=>rfl,fun i d hd=>by simp at hd⟩ (fun w1 b h1=>?_) fun w' τ h2=>?_
 ·obtain⟨c,h1⟩:=h1
  have hc:c b=1:=(h1.own 0 _ rfl).1
  have hb:w1.heap[b]? = some (.cells #[.pointer none,.slice none 0 0] V5 (0,0)):=(h1.own 0 _ rfl).2
  have hlo:w.heap.size≤b:=Nat.le_of_not_lt fun hlt=>by
   have:=h1.keepc b trivial hlt
   omega
  refine⟨c,h1.os,h1.tape,h1.output,h1.size,h1.keepc,h1.same,fun j d hj=>?_⟩
  cases j with
  | zero =>
   cases hj
   exact⟨hc,hlo,_,_,.inl rfl,hb,.inl ⟨rfl,rfl⟩⟩
  | succ j=>simp at hj
 ·have h2:Rel ⟨w,fun _=>True⟩ w' []:=h2.nil
  refine k w' ?_
  obtain⟨c,hr⟩:=hr
  obtain⟨c2,h2⟩:=h2
  refine⟨fun k=>if k<w.heap.size then c k else 0,h2.os.trans hr.os,h2.tape.trans hr.tape,h2.output.trans hr.output,Nat.le_trans hr.size h2.size,fun k hk hs=>?_,fun k hk hs=>?_,fun j d hj=>?_⟩
  ·rw[if_pos (Nat.lt_of_lt_of_le hs hr.size)];exact hr.keepc k hk hs
  ·exact(h2.same k trivial (Nat.lt_of_lt_of_le hs hr.size)).trans (hr.same k hk hs)
  ·refine d.mono (fun k hk hs=>?_) (hr.own j d hj)
   have hk:c k=j+1:=hk
   have hs:k<w.heap.size:=hs
   exact⟨by show (if k<w.heap.size then c k else 0)=j+1;rw[if_pos hs];exact hk,h2.same k trivial hs⟩
end
end Go.Proofs.YtngbebnhegcokaaGreatDoor
namespace Go.Proofs.YtngbebnhegcokaaGreatDoor
open Go.Proofs.Tryz (prog)
open Go.RowKit
abbrev Ent(κ ν:Type):=κ×ν×Nat
section
variable {κ ν:Type} [Enc κ] [Enc ν] [DecidableEq κ]
def JC(e:Ent κ ν):MapEntry:={ key:=Enc.val e.1,val:=Enc.val e.2.1,born:=e.2.2 }
def QC(x:κ):List (Ent κ ν)→Nat→Option (Nat×ν)
 | [],_=>none
 | e :: l,i=>if x=e.1 then some (i,e.2.1) else QC x l (i+1)
def SF(x:κ)(l:List (Ent κ ν)):Option ν:=(QC x l 0).map (·.2)
end
structure KeyTy (P:Program) (k:TypeId) (κ:Type) [Enc κ] [DecidableEq κ]:Prop where
 chk:∀(e:Bool) (x:κ) (w:World),(Instr.checkKey e 10000 k (Enc.val x)).run P w = .ok () w
 find:∀{ν:Type} [Enc ν] (x:κ) (l:List (Ent κ ν)) (w:World),(Instr.findKey k (Enc.val x) (l.map JC)).run P w = .ok ((QC x l 0).map fun p=>(p.1,Enc.val p.2)) w
 bits:∀x:κ,Instr.sameBits 10000 (Enc.val x) (Enc.val x)=true
theorem KeyTy.int{P:Program}{k:TypeId}(hk:P.underlying k=some (.int .i64)):KeyTy P k Int where
 chk e x w:=by
  show (Instr.checkKey e (9999+1) k (.int .i64 x)).run P w=_
  unfold Instr.checkKey
  rw[Sem.run_bind,run_underlying hk]
  rfl
 find {ν} _ x l w:=by
  have key:∀(l:List (Ent Int ν)) (i:Nat),Instr.findNow (.int .i64) (.int .i64 x) (l.map JC) i=some ((QC x l i).map fun p=>(p.1,Enc.val p.2)):=by
   intro l
   induction l with
   | nil=>intro i;rfl
   | cons e l ih =>
    intro i
    simp only[List.map_cons,Instr.findNow,QC]
    have:Instr.sameNow (.int .i64) (.int .i64 x) (JC e).key=some (x == e.1):=by simp [Instr.sameNow,JC,Enc.val]
    rw[this]
    by_cases h:x=e.1
    ·rw[if_pos h,beq_iff_eq.2 h];rfl
    ·rw[if_neg h,beq_eq_false_iff_ne.2 h];exact ih (i+1)
  unfold Instr.findKey
  rw[Sem.run_bind,run_underlying hk]
  simp only[Result.andThen_ok]
  rw[show (Enc.val x:Value) = .int .i64 x from rfl,key l 0]
  rfl
 bits x:=by
  show Instr.sameBits (9999+1) (.int .i64 x) (.int .i64 x)=true
  simp [Instr.sameBits]
def ckB(P:Program)(t:TypeId):Bool :=
 match P.underlying t with
 | some (.int _)=>true
 | some .bool=>true
 | some .string=>true
 | _=>false
theorem Sx0{P:Program}{e:Bool}{n:Nat}{t:TypeId}{v:Value}{w:World}(h:ckB P t=true):(Instr.checkKey e (n+1) t v).run P w = .ok () w:=by
 unfold ckB at h
 unfold Instr.checkKey
 split at h
 ·rename_i hu;rw[Sem.run_bind,run_underlying hu];rfl
 ·rename_i hu;rw[Sem.run_bind,run_underlying hu];rfl
 ·rename_i hu;rw[Sem.run_bind,run_underlying hu];rfl
 ·cases h
theorem KeyTy.agg{P:Program}{k:TypeId}{κ:Type}[Enc κ][DecidableEq κ]{fs:Array Field}(hk:P.underlying k=some (.struct fs))(hv:∀x:κ,Enc.val x = .agg (Enc.cells x).toArray)
  (hf:(fs.toList.all fun f=>ckB P f.type&&scB P f.type&&Nat.blt f.offset (Enc.sz κ))=true)
  (heq:∀(x y:κ) (w:World),(Op.equal k (Enc.val x) (Enc.val y)).run P w = .ok (decide (x=y)) w) (hb:∀x:κ,Instr.sameBits 10000 (Enc.val x) (Enc.val x)=true):KeyTy P k κ where
 chk e x w:=by
  rw[hv x]
  show (Instr.checkKey e (9999+1) k (.agg _)).run P w=_
  unfold Instr.checkKey
  rw[Sem.run_bind,run_underlying hk]
  simp only[Result.andThen_ok]
  rw[←Array.forIn_toList]
  have hf:=List.all_eq_true.1 hf
  generalize fs.toList=L at hf ⊢
  induction L with
  | nil=>rfl
  | cons f L ih =>
   have h1:=hf f List.mem_cons_self
   simp only[Bool.and_eq_true] at h1
   have hlt:f.offset<Enc.sz κ:=by simpa using h1.2
   have hp:(part f.type (Enc.cells x).toArray f.offset).run P w = .ok ((Enc.cells x)[f.offset]'(by rw[Enc.len];exact hlt)) w:=zH h1.1.2 (by simp [Enc.len,hlt])
   have ih:=ih fun g hg=>hf g (List.mem_cons_of_mem _ hg)
   rw[List.forIn_cons]
   by_cases hn:f.name= "_"
   ·simp only[hn,ne_eq,not_true_eq_false,if_false,pure_bind]
    exact ih
   ·simp only[hn,ne_eq,not_false_eq_true,if_true,bind_assoc,pure_bind]
    rw[Sem.run_bind,hp]
    simp only[Result.andThen_ok]
    rw[Sem.run_bind,Sx0 h1.1.1]
    simp only[Result.andThen_ok]
    exact ih
 find {ν} _ x l w:=by
  have ask:∀(l:List (Ent κ ν)) (i:Nat),(Instr.findAsking k (Enc.val x) (l.map JC) i).run P w = .ok ((QC x l i).map fun p=>(p.1,Enc.val p.2)) w:=by
   intro l
   induction l with
   | nil=>intro i;rfl
   | cons e l ih =>
    intro i
    simp only[List.map_cons,Instr.findAsking,QC]
    rw[Sem.run_bind,show (JC e).key=Enc.val e.1 from rfl,heq]
    simp only[Result.andThen_ok]
    by_cases h:x=e.1
    ·rw[if_pos h,decide_eq_true h];rfl
    ·rw[if_neg h,decide_eq_false h];exact ih (i+1)
  unfold Instr.findKey
  rw[Sem.run_bind,run_underlying hk]
  simp only[Result.andThen_ok]
  cases l with
  | nil=>rfl
  | cons e l =>
   have:Instr.findNow (.struct fs) (Enc.val x) ((e :: l).map JC) 0=none:=by
    simp only[List.map_cons,Instr.findNow]
    have:Instr.sameNow (.struct fs) (Enc.val x) (JC e).key=none:=by rw[hv x];rfl
    rw[this]
   rw[this]
   exact ask (e :: l) 0
 bits:=hb
section
variable {κ ν:Type} [DecidableEq κ]
def dI(x:κ)(z:ν)(l:List (Ent κ ν))(c:Nat):List (Ent κ ν)×Nat×Nat×ν :=
 match QC x l 0 with
 | some (i,v)=>(l,c,((l[i]?).map (·.2.2)).getD 0,v)
 | none=>(l++[(x,z,c)],c+1,c,z)
def WL(x:κ)(y:ν)(l:List (Ent κ ν))(c:Nat):List (Ent κ ν)×Nat :=
 match QC x l 0 with
 | some (i,_)=>(l.modify i fun e=>(e.1,y,e.2.2),c)
 | none=>(l++[(x,y,c)],c+1)
def oV(b:Nat)(y:ν)(l:List (Ent κ ν)):List (Ent κ ν) :=
 match l.findIdx? fun e=>e.2.2 == b with
 | some i=>l.modify i fun e=>(e.1,y,e.2.2)
 | none=>l
def Sp0(x:κ)(l:List (Ent κ ν)):List (Ent κ ν) :=
 match QC x l 0 with
 | some (i,_)=>l.eraseIdx i
 | none=>l
structure WfE (l:List (Ent κ ν)) (c:Nat):Prop where
 keys:(l.map (·.1)).Nodup
 stamps:(l.map (·.2.2)).Nodup
 below:∀e∈l,e.2.2<c
theorem oN(x:κ)(l:List (Ent κ ν)):∀i,QC x l i=(QC x l 0).map fun p=>(p.1+i,p.2):=by
 induction l with
 | nil=>intro i;rfl
 | cons e l ih =>
  intro i
  simp only[QC]
  by_cases h:x=e.1
  ·simp [h]
  ·rw[if_neg h,if_neg h,ih (i+1),ih (0+1),Option.map_map]
   congr 1
   funext p
   simp only[Function.comp_apply]
   congr 1
   omega
theorem lD{x:κ}{l:List (Ent κ ν)}{i:Nat}{v:ν}(h:QC x l 0=some (i,v)):∃hi:i<l.length,l[i].1=x∧l[i].2.1=v:=by
 induction l generalizing i with
 | nil=>cases h
 | cons e l ih =>
  simp only[QC] at h
  by_cases hx:x=e.1
  ·rw[if_pos hx] at h
   cases h
   exact⟨by simp,hx.symm,rfl⟩
  ·rw[if_neg hx,oN] at h
   rw[Option.map_eq_some_iff] at h
   obtain⟨⟨j,u⟩,h1,h2⟩:=h
   simp only[Prod.mk.injEq] at h2
   obtain⟨rfl,rfl⟩:=h2
   obtain⟨h3,h4⟩:=ih h1
   exact⟨by simp;omega,h4⟩
theorem aN{x:κ}{l:List (Ent κ ν)}(h:QC x l 0=none):∀e∈l,e.1≠x:=by
 induction l with
 | nil=>intro e he;cases he
 | cons e l ih =>
  simp only[QC] at h
  by_cases hx:x=e.1
  ·rw[if_pos hx] at h;cases h
  ·rw[if_neg hx,oN,Option.map_eq_none_iff] at h
   intro e' he
   rcases List.mem_cons.1 he with rfl | he
   ·exact fun e=>hx e.symm
   ·exact ih h e' he
theorem nU{x:κ}{l:List (Ent κ ν)}:SF x l=none↔∀e∈l,e.1≠x:=by
 unfold SF
 rw[Option.map_eq_none_iff]
 refine⟨aN,fun h=>?_⟩
 cases hf:QC x l 0 with
 | none=>rfl
 | some p =>
  obtain⟨h1,h2,_⟩:=lD (i:=p.1) (v:=p.2) hf
  exact absurd h2 (h _ (List.getElem_mem h1))
theorem jW{l:List (Ent κ ν)}(hn:(l.map (·.1)).Nodup){e:Ent κ ν}(he:e∈l):SF e.1 l=some e.2.1:=by
 unfold SF
 cases hf:QC e.1 l 0 with
 | none=>exact absurd rfl (aN hf e he)
 | some p =>
  obtain⟨h1,h2,h3⟩:=lD (i:=p.1) (v:=p.2) hf
  obtain⟨j,hj,rfl⟩:=List.getElem_of_mem he
  have hij:p.1=j:=by
   have:=(List.nodup_iff_pairwise_ne.1 hn)
   rw[List.pairwise_iff_getElem] at this
   rcases Nat.lt_trichotomy p.1 j with h | h | h
   ·exact absurd (by rw[List.getElem_map,List.getElem_map];exact h2) (this p.1 j (by simpa using h1) (by simpa using hj) h)
   ·exact h
   ·exact absurd (by rw[List.getElem_map,List.getElem_map];exact h2.symm) (this j p.1 (by simpa using hj) (by simpa using h1) h)
  simp only[Option.map_some,Option.some.injEq]
  rw[←h3]
  congr 3
theorem Qn0{x:κ}{l:List (Ent κ ν)}{k:κ}{v:ν}{b:Nat}:SF x (l++[(k,v,b)])=(SF x l).or (if x=k then some v else none):=by
 induction l with
 | nil =>
  simp only[SF,List.nil_append,QC]
  by_cases h:x=k<;>simp [h]
 | cons e l ih =>
  unfold SF at ih ⊢
  simp only[List.cons_append,QC]
  by_cases h:x=e.1
  ·simp [h]
  ·rw[if_neg h,if_neg h,oN x (l++_),oN x l,Option.map_map,Option.map_map]
   exact ih
theorem Rn0{x k:κ}{l:List (Ent κ ν)}{i:Nat}{y:ν}(hn:(l.map (·.1)).Nodup)(hi:i<l.length)(hk:l[i].1=k):SF x (l.modify i fun e=>(e.1,y,e.2.2))=if x=k then some y else SF x l:=by
 have hn':((l.modify i fun e=>(e.1,y,e.2.2)).map (·.1)).Nodup:=by
  have:(l.modify i fun e=>(e.1,y,e.2.2)).map (·.1)=l.map (·.1):=by
   apply List.ext_getElem (by simp)
   intro j h1 h2
   simp only[List.getElem_map,List.getElem_modify]
   split<;>rfl
  rw[this];exact hn
 by_cases h:x=k
 ·rw[if_pos h]
  have hm:((l[i].1,y,l[i].2.2):Ent κ ν)∈l.modify i fun e=>(e.1,y,e.2.2):=by
   rw[List.mem_iff_getElem]
   exact⟨i,by simpa using hi,by simp⟩
  have:=jW hn' hm
  rw[h,←hk]
  exact this
 ·rw[if_neg h]
  cases hg:SF x l with
  | none =>
   rw[nU] at hg ⊢
   intro e he
   obtain⟨j,hj,rfl⟩:=List.getElem_of_mem he
   rw[List.getElem_modify]
   have hj':j<l.length:=by simpa using hj
   have:=hg l[j] (List.getElem_mem hj')
   split<;>exact this
  | some v =>
   have hx:∃e∈l,e.1=x∧e.2.1=v:=by
    unfold SF at hg
    rw[Option.map_eq_some_iff] at hg
    obtain⟨⟨j,u⟩,h1,h2⟩:=hg
    obtain⟨h3,h4,h5⟩:=lD h1
    exact⟨_,List.getElem_mem h3,h4,h5.trans h2⟩
   obtain⟨e,he,rfl,rfl⟩:=hx
   obtain⟨j,hj,rfl⟩:=List.getElem_of_mem he
   have hij:i≠j:=by
    rintro rfl
    exact h hk
   have hm:l[j]∈l.modify i fun e=>(e.1,y,e.2.2):=by
    rw[List.mem_iff_getElem]
    exact⟨j,by simpa using hj,by rw[List.getElem_modify,if_neg hij]⟩
   exact jW hn' hm
theorem xU{x k:κ}{y:ν}{l:List (Ent κ ν)}{c:Nat}(hn:(l.map (·.1)).Nodup):SF x (WL k y l c).1=if x=k then some y else SF x l:=by
 unfold WL
 cases hf:QC k l 0 with
 | none =>
  show SF x (l++[(k,y,c)])=_
  rw[Qn0]
  have:=aN hf
  by_cases h:x=k
  ·subst h
   rw[if_pos rfl,if_pos rfl,nU.2 this];rfl
  ·rw[if_neg h,if_neg h];simp
 | some p =>
  obtain⟨h1,h2,_⟩:=lD (i:=p.1) (v:=p.2) hf
  exact Rn0 hn h1 h2
omit [DecidableEq κ] in
theorem modify_keys{l:List (Ent κ ν)}{i:Nat}{y:ν}:(l.modify i fun e=>(e.1,y,e.2.2)).map (·.1)=l.map (·.1):=by
 apply List.ext_getElem (by simp)
 intro j h1 h2
 simp only[List.getElem_map,List.getElem_modify]
 split<;>rfl
omit [DecidableEq κ] in
theorem TT{l:List (Ent κ ν)}{i:Nat}{y:ν}:(l.modify i fun e=>(e.1,y,e.2.2)).map (·.2.2)=l.map (·.2.2):=by
 apply List.ext_getElem (by simp)
 intro j h1 h2
 simp only[List.getElem_map,List.getElem_modify]
 split<;>rfl
omit [DecidableEq κ] in
theorem WfE.nil:WfE ([]:List (Ent κ ν)) 0:=⟨List.nodup_nil,List.nodup_nil,fun e he=>by cases he⟩
omit [DecidableEq κ] in
theorem WfE.modify{l:List (Ent κ ν)}{c:Nat}(h:WfE l c){i:Nat}{y:ν}:WfE (l.modify i fun e=>(e.1,y,e.2.2)) c:=by
 refine⟨by rw[modify_keys];exact h.keys,by rw[TT];exact h.stamps,fun e he=>?_⟩
 have hm:e.2.2∈(l.modify i fun e=>(e.1,y,e.2.2)).map (·.2.2):=List.mem_map_of_mem he
 rw[TT] at hm
 obtain⟨e',he',h1⟩:=List.mem_map.1 hm
 rw[←h1]
 exact h.below e' he'
omit [DecidableEq κ] in
theorem WfE.push{l:List (Ent κ ν)}{c:Nat}(h:WfE l c){x:κ}{y:ν}(hx:∀e∈l,e.1≠x):WfE (l++[(x,y,c)]) (c+1):=by
 refine⟨?_,?_,fun e he=>?_⟩
 ·rw[List.map_append,List.nodup_append]
  refine⟨h.keys,by simp,fun a ha b hb=>?_⟩
  obtain⟨e,he,rfl⟩:=List.mem_map.1 ha
  simp at hb
  subst hb
  exact hx e he
 ·rw[List.map_append,List.nodup_append]
  refine⟨h.stamps,by simp,fun a ha b hb=>?_⟩
  obtain⟨e,he,rfl⟩:=List.mem_map.1 ha
  simp at hb
  subst hb
  exact Nat.ne_of_lt (h.below e he)
 ·rcases List.mem_append.1 he with he | he
  ·exact Nat.lt_succ_of_lt (h.below e he)
  ·simp at he
   subst he
   exact Nat.lt_succ_self c
theorem WfE.set{l:List (Ent κ ν)}{c:Nat}(h:WfE l c)(x:κ)(y:ν):WfE (WL x y l c).1 (WL x y l c).2:=by
 unfold WL
 cases hf:QC x l 0 with
 | none=>exact h.push (aN hf)
 | some p=>exact h.modify
theorem wr0{x:κ}{y:ν}{l:List (Ent κ ν)}{c:Nat}(h:∃e∈l,e.1=x):(WL x y l c).2=c∧(WL x y l c).1.map (·.1)=l.map (·.1)∧(WL x y l c).1.map (·.2.2)=l.map (·.2.2):=by
 unfold WL
 cases hf:QC x l 0 with
 | none =>
  obtain⟨e,he,h1⟩:=h
  exact absurd h1 (aN hf e he)
 | some p=>exact⟨rfl,modify_keys,TT⟩
theorem Ms0{x:κ}{l:List (Ent κ ν)}(hn:(l.map (·.1)).Nodup):Sp0 x l=l.filter fun e=>decide (e.1≠x):=by
 unfold Sp0
 cases hf:QC x l 0 with
 | none =>
  refine(List.filter_eq_self.2 fun e he=>?_).symm
  exact decide_eq_true (p:=e.1≠x) (aN hf e he)
 | some p =>
  obtain⟨h1,h2,h3⟩:=lD (i:=p.1) (v:=p.2) hf
  clear h3
  show l.eraseIdx p.1=_
  generalize p.1=i at h1 h2
  clear hf
  induction l generalizing i with
  | nil=>simp at h1
  | cons e l ih =>
   rw[List.map_cons,List.nodup_cons] at hn
   cases i with
   | zero =>
    have h2:e.1=x:=h2
    rw[List.eraseIdx_cons_zero,List.filter_cons,if_neg (by simp [h2])]
    refine(List.filter_eq_self.2 fun e' he'=>decide_eq_true (p:=e'.1≠x) fun h3=>?_).symm
    exact hn.1 (h2 ▸ h3 ▸ List.mem_map_of_mem he')
   | succ i =>
    have h1':i<l.length:=by simpa using h1
    have h2:l[i].1=x:=by simpa using h2
    rw[List.eraseIdx_cons_succ,List.filter_cons,if_pos (decide_eq_true (p:=e.1≠x) fun h3=>hn.1 (by rw[h3,←h2];exact List.mem_map_of_mem (List.getElem_mem h1'))),ih hn.2 i h1' h2]
omit [DecidableEq κ] in
theorem WfE.filter{l:List (Ent κ ν)}{c:Nat}(h:WfE l c)(p:Ent κ ν→Bool):WfE (l.filter p) c :=
 ⟨h.keys.sublist (List.filter_sublist.map _),h.stamps.sublist (List.filter_sublist.map _),fun e he=>h.below e (List.mem_filter.1 he).1⟩
theorem WfE.Af0{l:List (Ent κ ν)}{c:Nat}(h:WfE l c){x:κ}{v:ν}:SF x l=some v↔∃b,(x,v,b)∈l:=by
 constructor
 ·intro hg
  unfold SF at hg
  rw[Option.map_eq_some_iff] at hg
  obtain⟨⟨j,u⟩,h1,h2⟩:=hg
  obtain⟨h3,h4,h5⟩:=lD h1
  have h2:u=v:=h2
  subst h2
  subst h4
  subst h5
  exact⟨_,List.getElem_mem h3⟩
 ·rintro⟨b,hb⟩
  exact jW h.keys hb
theorem of0{l:List (Ent κ ν)}{c:Nat}(h:WfE l c)(p:κ→Bool)(x:κ):SF x (l.filter fun e=>p e.1)=if p x=true then SF x l else none:=by
 by_cases hp:p x=true
 ·rw[if_pos hp]
  cases hg:SF x l with
  | none =>
   rw[nU] at hg ⊢
   exact fun e he=>hg e (List.mem_filter.1 he).1
  | some v =>
   rw[(h.filter _).Af0]
   obtain⟨b,hb⟩:=h.Af0.1 hg
   exact⟨b,List.mem_filter.2 ⟨hb,hp⟩⟩
 ·rw[if_neg hp,nU]
  rintro e he rfl
  exact hp (List.mem_filter.1 he).2
theorem qc0{x:κ}{y z:ν}{l:List (Ent κ ν)}{c:Nat}(h:WfE l c):oV (dI x z l c).2.2.1 y (dI x z l c).1=(WL x y l c).1∧(dI x z l c).2.1=(WL x y l c).2:=by
 unfold dI WL
 cases hf:QC x l 0 with
 | none =>
  refine⟨?_,rfl⟩
  show oV c y (l++[(x,z,c)])=l++[(x,y,c)]
  unfold oV
  have:(l++[(x,z,c)]).findIdx? (fun e=>e.2.2 == c)=some l.length:=by
   rw[List.findIdx?_eq_some_iff_getElem]
   refine⟨by simp,by simp,fun j hj=>?_⟩
   rw[List.getElem_append_left hj]
   have:=h.below _ (List.getElem_mem hj)
   simp
   omega
  rw[this]
  apply List.ext_getElem (by simp)
  intro j h1 h2
  rw[List.getElem_modify]
  by_cases hj:l.length=j
  ·subst hj;simp
  ·rw[if_neg hj,List.getElem_append_left (by simp at h2;omega),List.getElem_append_left (by simp at h2;omega)]
 | some p =>
  refine⟨?_,rfl⟩
  obtain⟨h1,h2,h3⟩:=lD (i:=p.1) (v:=p.2) hf
  show oV ((l[p.1]?.map (·.2.2)).getD 0) y l=l.modify p.1 _
  rw[List.getElem?_eq_getElem h1]
  unfold oV
  have:l.findIdx? (fun e=>e.2.2 == ((some l[p.1]).map (·.2.2)).getD 0)=some p.1:=by
   rw[List.findIdx?_eq_some_iff_getElem]
   refine⟨h1,by simp,fun j hj=>?_⟩
   have:=List.nodup_iff_pairwise_ne.1 h.stamps
   rw[List.pairwise_iff_getElem] at this
   have:=this j p.1 (by simp;omega) (by simpa using h1) hj
   simpa using this
  rw[this]
end
section
variable {κ ν:Type} [DecidableEq κ]
theorem RA0{l:List (Ent κ ν)}{c:Nat}(h:WfE l c){e:Ent κ ν}(he:e∈l)(y:ν):(WL e.1 y l c).1=l.map (fun e'=>if e'.2.2=e.2.2 then(e'.1,y,e'.2.2) else e')∧(WL e.1 y l c).2=c:=by
 refine⟨?_,(wr0 ⟨e,he,rfl⟩).1⟩
 obtain⟨j,hj,rfl⟩:=List.getElem_of_mem he
 unfold WL
 cases hf:QC l[j].1 l 0 with
 | none=>exact absurd rfl (aN hf _ he)
 | some p =>
  obtain⟨h1,h2,_⟩:=lD (i:=p.1) (v:=p.2) hf
  have hn:=List.nodup_iff_pairwise_ne.1 h.keys
  have hs:=List.nodup_iff_pairwise_ne.1 h.stamps
  rw[List.pairwise_map,List.pairwise_iff_getElem] at hn hs
  have hij:p.1=j:=by
   rcases Nat.lt_trichotomy p.1 j with h | h | h
   ·exact absurd h2 (hn p.1 j h1 hj h)
   ·exact h
   ·exact absurd h2.symm (hn j p.1 hj h1 h)
  show l.modify p.1 _=_
  rw[hij]
  apply List.ext_getElem (by simp)
  intro q q1 q2
  have hq:q<l.length:=by simpa using q1
  rw[List.getElem_modify,List.getElem_map]
  by_cases e:j=q
  ·subst e;rw[if_pos rfl,if_pos rfl]
  ·rw[if_neg e,if_neg]
   intro hh
   rcases Nat.lt_trichotomy q j with h | h | h
   ·exact hs q j hq hj h hh
   ·exact e h.symm
   ·exact hs j q hj hq h hh.symm
end
theorem contains_push{seen:Array Nat}{b x:Nat}:(seen.push b).contains x=(seen.contains x||decide (x=b)):=by
 rw[Bool.eq_iff_iff];simp
theorem fj0{α β:Type}(f:α→β):∀(l:List α) (i:Nat),(l.map f).eraseIdx i=(l.eraseIdx i).map f
 | [],_=>by simp
 | a :: l,0=>by simp
 | a :: l,i+1=>by simp [fj0 f l i]
theorem WfE.Li0{κ ν:Type}{l:List (Ent κ ν)}{c:Nat}(h:WfE l c){x e:Ent κ ν}(hx:x∈l)(he:e∈l)(hk:x.1=e.1):x=e:=by
 obtain⟨i,hi,rfl⟩:=List.getElem_of_mem hx
 obtain⟨j,hj,rfl⟩:=List.getElem_of_mem he
 have hn:=List.nodup_iff_pairwise_ne.1 h.keys
 rw[List.pairwise_map,List.pairwise_iff_getElem] at hn
 rcases Nat.lt_trichotomy i j with h | h | h
 ·exact absurd hk (hn i j hi hj h)
 ·subst h;rfl
 ·exact absurd hk.symm (hn j i hj hi h)
theorem WfE.UV{κ ν:Type}{l:List (Ent κ ν)}{c:Nat}(h:WfE l c){x e:Ent κ ν}(hx:x∈l)(he:e∈l)(hk:x.2.2=e.2.2):x=e:=by
 obtain⟨i,hi,rfl⟩:=List.getElem_of_mem hx
 obtain⟨j,hj,rfl⟩:=List.getElem_of_mem he
 have hn:=List.nodup_iff_pairwise_ne.1 h.stamps
 rw[List.pairwise_map,List.pairwise_iff_getElem] at hn
 rcases Nat.lt_trichotomy i j with h | h | h
 ·exact absurd hk (hn i j hi hj h)
 ·subst h;rfl
 ·exact absurd hk.symm (hn j i hj hi h)
def dJ{κ ν:Type}(l:List (Ent κ ν))(seen:Array Nat):Nat:=(l.filter fun e=>!seen.contains e.2.2).length
theorem Ca0{α:Type}{p q:α→Bool}{l:List α}(hpq:∀x∈l,p x=true→q x=true){e:α}(he:e∈l)(h1:p e=false)(h2:q e=true):(l.filter p).length<(l.filter q).length:=by
 induction l with
 | nil=>cases he
 | cons a l ih =>
  have hle:∀l:List α,(∀x∈l,p x=true→q x=true)→(l.filter p).length≤(l.filter q).length:=by
   intro l
   induction l with
   | nil=>intro _;exact Nat.le_refl _
   | cons a l ih =>
    intro h
    have:=ih fun x hx=>h x (List.mem_cons_of_mem _ hx)
    have ha:=h a List.mem_cons_self
    rw[List.filter_cons,List.filter_cons]
    by_cases hp:p a=true
    ·rw[if_pos hp,if_pos (ha hp)];simp only[List.length_cons];omega
    ·rw[if_neg hp]
     split
     ·simp only[List.length_cons];omega
     ·exact this
  have hr:=hle l fun x hx=>hpq x (List.mem_cons_of_mem _ hx)
  rw[List.filter_cons,List.filter_cons]
  rcases List.mem_cons.1 he with rfl | he
  ·rw[if_neg (by rw[h1];decide),if_pos h2]
   simp only[List.length_cons];omega
  ·have:=ih (fun x hx=>hpq x (List.mem_cons_of_mem _ hx)) he
   have ha:=hpq a List.mem_cons_self
   by_cases hp:p a=true
   ·rw[if_pos hp,if_pos (ha hp)];simp only[List.length_cons];omega
   ·rw[if_neg hp]
    split
    ·simp only[List.length_cons];omega
    ·exact this
theorem eQ{κ ν:Type}{l:List (Ent κ ν)}{seen:Array Nat}{e:Ent κ ν}(he:e∈l)(hs:seen.contains e.2.2=false):dJ l (seen.push e.2.2)<dJ l seen:=by
 refine Ca0 (fun x _ hx=>?_) he (by simp [contains_push]) (by rw[hs];rfl)
 rw[contains_push] at hx
 cases hc:seen.contains x.2.2
 ·rfl
 ·rw[hc] at hx;simp at hx
def iN(w:World)(it:Nat):Array Nat:=match w.heap[it]? with
 | some (.mapIter _ _ s _)=>s
 | _=>#[]
section
variable {κ ν:Type} [Enc κ] [Enc ν]
def W9(m:Nat)(l:List (Ent κ ν))(c:Nat):Dat:=⟨fun B=>B.keep m∧B.W.heap[m]? = some (.map (l.map JC).toArray c),fun {B B'} hl ⟨h1,h2⟩=>by
 obtain⟨h3,h4⟩:=hl m h1 (Array.getElem?_eq_some_iff.1 h2).1
 exact⟨h3,h4.trans h2⟩⟩
def nW(it m since:Nat)(seen:Array Nat)(last:Nat):Dat:=⟨fun B=>B.keep it∧B.W.heap[it]? = some (.mapIter (some m) since seen last),fun {B B'} hl ⟨h1,h2⟩=>by
 obtain⟨h3,h4⟩:=hl it h1 (Array.getElem?_eq_some_iff.1 h2).1
 exact⟨h3,h4.trans h2⟩⟩
end
theorem xN{B:Base}{w:World}{σ:List Dat}{j it m since last:Nat}{seen:Array Nat}(h:Rel B w σ)(hj:σ[j]? = some (nW it m since seen last)):iN w it=seen:=by
 have:w.heap[it]? = some (.mapIter (some m) since seen last):=(h.here hj).2
 unfold iN
 rw[this]
abbrev oO(m:Nat):Value := .map (some m)
section
variable {P:Program} {K:PtK} {Kp:Value→Prop} {B:Base} {w:World} {σ:List Dat} {T k E:TypeId} {m c:Nat} {κ ν:Type} [Enc κ] [Enc ν] [DecidableEq κ] {l:List (Ent κ ν)}
theorem Rel.setObj(h:Rel B w σ)(i:Nat){d e:Dat}{r:Nat}{o:Obj}(hi:σ[i]? = some e)(he:∀B:Base,e B→B.keep r∧r<B.W.heap.size)(hd:∀B:Base,B.keep r→B.W.heap[r]? = some o→d B):Rel B { w with heap:=w.heap.setIfInBounds r o } (σ.set i d):=by
 obtain⟨cc,h⟩:=h
 obtain⟨hk,hs⟩:=he _ (h.own i e hi)
 have hk:cc r=i+1:=hk
 have hs:r<w.heap.size:=hs
 refine⟨cc,h.step hi ⟨rfl,rfl,rfl,by simp,fun _ _=>rfl,fun j hj hT=>?_⟩ (hd _ hk (by simp [hs]))⟩
 have hjr:r≠j:=by rintro rfl;exact hT hk
 exact Array.getElem?_setIfInBounds_ne hjr
omit [DecidableEq κ] in
theorem W9.lt{B:Base}(h:W9 m l c B):B.keep m∧m<B.W.heap.size:=⟨h.1,(Array.getElem?_eq_some_iff.1 h.2).1⟩
theorem nW.lt{B:Base}{it m since last:Nat}{seen:Array Nat}(h:nW it m since seen last B):B.keep it∧it<B.W.heap.size:=⟨h.1,(Array.getElem?_eq_some_iff.1 h.2).1⟩
theorem mP{r:Nat}{o:Obj}(h:w.heap[r]? = some o)(hn:∀a b f,o ≠ .cells a b f):(getObj r).run P w = .ok o w:=by
 unfold getObj
 simp only[Sem.run,h]
theorem gN{r:Nat}{o o':Obj}(h:w.heap[r]? = some o)(hn:∀a b f,o ≠ .cells a b f):(setObj r o').run P w = .ok () { w with heap:=w.heap.setIfInBounds r o' }:=by
 unfold Go.setObj
 simp only[Sem.run,h]
theorem Rel.mkMap(h:Rel B w σ)(κ ν:Type)[Enc κ][Enc ν](k:∀m w',Rel B w' (σ++[W9 m ([]:List (Ent κ ν)) 0])→K (oO m) w'):upK P (Qg0 T none) w K:=by
 obtain⟨cc,h⟩:=h
 refine vC (v := .map (some w.heap.size)) (w':=w.alloc (.map #[] 0)) (X9 ?_) (k _ _ ⟨WF cc w.heap.size (σ.length+1),h.push (Step.alloc nobody cc w _ _) ⟨by simp [WF],heap_alloc_new w _⟩⟩)
 rfl
theorem mo0(hb:w.heap[m]? = some (.map (l.map JC).toArray c))(hT:P.underlying T=some (.map k E))(hk:KeyTy P k κ)(z:ν)(hz:(P.info? E).bind (·.zero)=some (Enc.val z))(x:κ)(ok:Bool) :
  (Instr.lookup T (.map (some m)) (Enc.val x) ok).run P w = .ok (if ok then .tuple #[Enc.val ((SF x l).getD z),.bool (SF x l).isSome] else Enc.val ((SF x l).getD z)) w:=by
 have hzr:(zeroValue E).run P w = .ok (Enc.val z) w:=by
  cases hi:P.info? E with
  | none=>rw[hi] at hz;cases hz
  | some i =>
   rw[hi] at hz
   simp only[Option.bind_some] at hz
   simp [zeroValue,typeInfo,hi,hz]
 unfold Instr.lookup
 rw[Sem.run_bind,run_underlying hT]
 simp only[Result.andThen_ok]
 rw[Sem.run_bind]
 simp only[bind_assoc,pure_bind]
 rw[mP hb (by intro a b f h;cases h)]
 simp only[Result.andThen_ok]
 rw[Sem.run_bind,hk.chk]
 simp only[Result.andThen_ok]
 rw[Sem.run_bind,hk.find]
 simp only[Result.andThen_ok]
 unfold SF
 cases hf:QC x l 0 with
 | none=>simp [hzr]
 | some p=>simp
theorem W9.look{w:World}(h:(W9 m l c).here w)(hT:P.underlying T=some (.map k E))(hk:KeyTy P k κ)(z:ν)(hz:(P.info? E).bind (·.zero)=some (Enc.val z))(x:κ){xv yv:Value}(hx:xv=Enc.val x:=by rfl)(hy:yv=Enc.val ((SF x l).getD z):=by rfl) :
  Y0 P (XJ T (.map (some m)) xv false) w Kp=Kp yv:=by
 subst hx hy
 exact bQ (X9 (mo0 h.2 hT hk z hz x false))
theorem Rel.lookup(h:Rel B w σ)(i:Nat)(hi:σ[i]? = some (W9 m l c))(hT:P.underlying T=some (.map k E))(hk:KeyTy P k κ)(z:ν)(hz:(P.info? E).bind (·.zero)=some (Enc.val z))(x:κ){xv yv:Value}(hx:xv=Enc.val x:=by rfl)(hy:yv=Enc.val ((SF x l).getD z):=by rfl) :
  Y0 P (XJ T (.map (some m)) xv false) w Kp=Kp yv:=by
 subst hx hy
 exact bQ (X9 (mo0 (h.here hi).2 hT hk z hz x false))
theorem Rel.Yf0(h:Rel B w σ)(i:Nat)(hi:σ[i]? = some (W9 m l c))(hT:P.underlying T=some (.map k E))(hk:KeyTy P k κ)(x:κ)(y:ν){xv yv:Value}(kk:∀w',Rel B w' (σ.set i (W9 m (WL x y l c).1 (WL x y l c).2))→K undef w')(hx:xv=Enc.val x:=by rfl)(hy:yv=Enc.val y:=by rfl) :
  upK P (jX T (.map (some m)) xv yv) w K:=by
 subst hx hy
 have hb:=(h.here hi).2
 have hb:w.heap[m]? = some (.map (l.map JC).toArray c):=hb
 refine WZ (w':={ w with heap:=w.heap.setIfInBounds m (.map ((WL x y l c).1.map JC).toArray (WL x y l c).2) }) (sm0 ?_) (kk _ (h.setObj i hi (fun B hb=>W9.lt hb) fun B h1 h2=>⟨h1,h2⟩))
 unfold Instr.mapUpdate
 rw[Sem.run_bind,run_underlying hT]
 simp only[Result.andThen_ok]
 rw[Sem.run_bind,mP hb (by intro a b f h;cases h)]
 simp only[Result.andThen_ok]
 rw[Sem.run_bind,hk.chk]
 simp only[Result.andThen_ok]
 rw[Sem.run_bind,hk.find]
 simp only[Result.andThen_ok]
 unfold WL
 cases hf:QC x l 0 with
 | none =>
  simp only[Option.map_none]
  rw[gN hb (by intro a b f h;cases h)]
  congr 4
  simp [JC]
 | some p =>
  obtain⟨h1,h2,_⟩:=lD (i:=p.1) (v:=p.2) hf
  simp only[Option.map_some]
  have e1:(((l.map JC).toArray[p.1]?).map (·.key)).getD (Enc.val x)=Enc.val x:=by simp [h1,JC,h2]
  have e2:(Instr.keyThatStays (Enc.val x) (Enc.val x)).run P w = .ok (Enc.val x) w:=by
   unfold Instr.keyThatStays
   rw[if_pos (hk.bits x)]
   rfl
  rw[e1,Sem.run_bind,e2]
  simp only[Result.andThen_ok]
  rw[gN hb (by intro a b f h;cases h)]
  congr 4
  apply Array.ext'
  rw[Array.toList_modify]
  apply List.ext_getElem (by simp)
  intro j hj1 hj2
  simp only[List.getElem_modify,List.getElem_map,List.getElem_toArray]
  split
  ·rename_i e;subst e;simp [JC,h2]
  ·rfl
theorem Rel.mapEntry(h:Rel B w σ)(i:Nat)(hi:σ[i]? = some (W9 m l c))(hT:P.underlying T=some (.map k E))(hk:KeyTy P k κ)(z:ν)(hz:(P.info? E).bind (·.zero)=some (Enc.val z))(x:κ){xv:Value}
  (kk:∀w',Rel B w' (σ.set i (W9 m (dI x z l c).1 (dI x z l c).2.1))→K (.tuple #[Enc.val (dI x z l c).2.2.2,.int .i64 (dI x z l c).2.2.1]) w') (hx:xv=Enc.val x:=by rfl) :
  upK P (Qb0 T (.map (some m)) xv) w K:=by
 subst hx
 have hb:=(h.here hi).2
 have hb:w.heap[m]? = some (.map (l.map JC).toArray c):=hb
 have hzr:(zeroValue E).run P w = .ok (Enc.val z) w:=by
  cases hi:P.info? E with
  | none=>rw[hi] at hz;cases hz
  | some i =>
   rw[hi] at hz
   simp only[Option.bind_some] at hz
   simp [zeroValue,typeInfo,hi,hz]
 refine vC (w':={ w with heap:=w.heap.setIfInBounds m (.map ((dI x z l c).1.map JC).toArray (dI x z l c).2.1) }) (X9 ?_) (kk _ (h.setObj i hi (fun B hb=>W9.lt hb) fun B h1 h2=>⟨h1,h2⟩))
 unfold Instr.mapEntry
 rw[Sem.run_bind,run_underlying hT]
 simp only[Result.andThen_ok]
 rw[Sem.run_bind,mP hb (by intro a b f h;cases h)]
 simp only[Result.andThen_ok]
 rw[Sem.run_bind,hk.chk]
 simp only[Result.andThen_ok]
 rw[Sem.run_bind,hk.find]
 simp only[Result.andThen_ok]
 unfold dI
 cases hf:QC x l 0 with
 | none =>
  simp only[Option.map_none]
  rw[Sem.run_bind,hzr]
  simp only[Result.andThen_ok]
  rw[Sem.run_bind,gN hb (by intro a b f h;cases h)]
  simp [JC,goInt]
 | some p =>
  obtain⟨h1,h2,_⟩:=lD (i:=p.1) (v:=p.2) hf
  simp only[Option.map_some]
  have e1:(((l.map JC).toArray[p.1]?).map (·.key)).getD (Enc.val x)=Enc.val x:=by simp [h1,JC,h2]
  have e2:(Instr.keyThatStays (Enc.val x) (Enc.val x)).run P w = .ok (Enc.val x) w:=by
   unfold Instr.keyThatStays
   rw[if_pos (hk.bits x)]
   rfl
  rw[e1,Sem.run_bind,e2]
  simp only[Result.andThen_ok]
  rw[Sem.run_bind,gN hb (by intro a b f h;cases h)]
  have e3:((l.map JC).toArray.modify p.1 fun e=>{ e with key:=Enc.val x })=(l.map JC).toArray:=by
   apply Array.ext'
   rw[Array.toList_modify]
   apply List.ext_getElem (by simp)
   intro j hj1 hj2
   simp only[List.getElem_modify,List.getElem_map,List.getElem_toArray]
   split
   ·rename_i e;subst e;simp [JC,h2]
   ·rfl
  simp only[Result.andThen_ok,e3]
  simp [goInt,h1,JC]
omit [DecidableEq κ] in
theorem Rel.entryStore(h:Rel B w σ)(i:Nat)(hi:σ[i]? = some (W9 m l c)){b:Nat}(hin:∃e∈l,e.2.2=b)(y:ν){yv:Value}(kk:∀w',Rel B w' (σ.set i (W9 m (oV b y l) c))→K undef w')(hy:yv=Enc.val y:=by rfl) :
  upK P (EW T (.map (some m)) (.int .i64 b) yv) w K:=by
 subst hy
 have hb:=(h.here hi).2
 have hb:w.heap[m]? = some (.map (l.map JC).toArray c):=hb
 refine WZ (w':={ w with heap:=w.heap.setIfInBounds m (.map ((oV b y l).map JC).toArray c) }) (sm0 ?_) (kk _ (h.setObj i hi (fun B hb=>W9.lt hb) fun B h1 h2=>⟨h1,h2⟩))
 unfold Instr.entryStore
 rw[Sem.run_bind,mP hb (by intro a b f h;cases h)]
 simp only[Result.andThen_ok]
 have hA:(asInt (.int .i64 b)).run P w = .ok (b:Int) w:=by simp [asInt,asIntOf]
 rw[Sem.run_bind,hA]
 simp only[Result.andThen_ok]
 have hf:(l.map JC).toArray.findIdx? (fun e=>(e.born:Int) == (b:Int))=l.findIdx? fun e=>e.2.2 == b:=by
  simp only[List.findIdx?_toArray,List.findIdx?_map]
  congr 1
  funext e
  simp only[Function.comp_apply,JC]
  rw[Bool.eq_iff_iff]
  simp
  omega
 rw[hf]
 unfold oV
 cases hfi:l.findIdx? fun e=>e.2.2 == b with
 | none =>
  obtain⟨e,he,h1⟩:=hin
  have:=List.findIdx?_eq_none_iff.1 hfi e he
  simp [h1] at this
 | some j =>
  simp only[]
  rw[gN hb (by intro a b f h;cases h)]
  congr 4
  apply Array.ext'
  rw[Array.toList_modify]
  apply List.ext_getElem (by simp)
  intro q hj1 hj2
  simp only[List.getElem_modify,List.getElem_map,List.getElem_toArray]
  split<;>rfl
theorem Rel.delete(h:Rel B w σ)(i:Nat)(hi:σ[i]? = some (W9 m l c))(hT:P.underlying T=some (.map k E))(hk:KeyTy P k κ)(x:κ){xv:Value}{U:TypeId}{bs:Array Bool}(kk:∀w',Rel B w' (σ.set i (W9 m (Sp0 x l) c))→K (.tuple #[]) w')(hx:xv=Enc.val x:=by rfl) :
  upK P (M5 .delete #[T,k] U bs #[.map (some m),xv]) w K:=by
 subst hx
 have hb:=(h.here hi).2
 have hb:w.heap[m]? = some (.map (l.map JC).toArray c):=hb
 refine vC (v := .tuple #[]) (w':={ w with heap:=w.heap.setIfInBounds m (.map ((Sp0 x l).map JC).toArray c) }) (X9 ?_) (kk _ (h.setObj i hi (fun B hb=>W9.lt hb) fun B h1 h2=>⟨h1,h2⟩))
 unfold Builtin.delete_
 simp only[List.getElem?_toArray,List.getElem?_cons_zero,List.getElem?_cons_succ]
 rw[Sem.run_bind,run_underlying hT]
 simp only[Result.andThen_ok]
 rw[Sem.run_bind]
 rw[mP hb (by intro a b f h;cases h)]
 simp only[Result.andThen_ok]
 rw[Sem.run_bind,hk.chk]
 simp only[Result.andThen_ok]
 rw[Sem.run_bind,hk.find]
 simp only[Result.andThen_ok]
 unfold Sp0
 cases hf:QC x l 0 with
 | none =>
  simp only[Option.map_none]
  rw[Sem.run_bind,gN hb (by intro a b f h;cases h)]
  rfl
 | some p =>
  obtain⟨h1,h2,_⟩:=lD (i:=p.1) (v:=p.2) hf
  simp only[Option.map_some]
  have:((l.map JC).toArray.eraseIdxIfInBounds p.1)=((l.eraseIdx p.1).map JC).toArray:=by
   apply Array.ext'
   simp [Array.eraseIdxIfInBounds,h1,fj0]
  rw[Sem.run_bind,gN hb (by intro a b f h;cases h),this]
  rfl
omit [DecidableEq κ] in
theorem mt0(h:Rel B w σ)(i:Nat)(hi:σ[i]? = some (W9 m l c))(hT:P.underlying T=some (.map k E)){U:TypeId}{bs:Array Bool}:Y0 P (M5 .len #[T] U bs #[.map (some m)]) w Kp=Kp (.int .i64 l.length):=bQ (X9 (by
 have hb:w.heap[m]? = some (.map (l.map JC).toArray c):=(h.here hi).2
 have hg:=mP (P:=P) hb (by intro a b f h;cases h)
 simp [Builtin.len_,run_underlying hT,hg,goInt]))
omit [DecidableEq κ] in
theorem Rel.range(h:Rel B w σ)(i:Nat)(hi:σ[i]? = some (W9 m l c))(hT:P.underlying T=some (.map k E))(kk:∀it w',Rel B w' (σ++[nW it m c #[] c])→K (.pointer (some ⟨it,0,none⟩)) w'):upK P (em0 T (.map (some m))) w K:=by
 have hb:w.heap[m]? = some (.map (l.map JC).toArray c):=(h.here hi).2
 have hrun:=run_range_map (P:=P) w T k E m _ c hT hb
 obtain⟨cc,h⟩:=h
 refine vC (X9 hrun) (kk _ _ ⟨WF cc w.heap.size (σ.length+1),h.push (Step.alloc nobody cc w _ _) ⟨by simp [WF],heap_alloc_new w _⟩⟩)
omit [DecidableEq κ] in
theorem Rel.next(h:Rel B w σ)(i j it:Nat){seen:Array Nat}(hi:σ[i]? = some (W9 m l c))(hj:σ[j]? = some (nW it m c seen c))(hb:∀e∈l,e.2.2<c)
  (k0:∀w',(∀e∈l,seen.contains e.2.2=true)→Rel B w' σ→K (.tuple #[.bool false]) w')
  (k1:∀e w',e∈l→seen.contains e.2.2=false→Rel B w' (σ.set j (nW it m c (seen.push e.2.2) c))→K (.tuple #[.bool true,Enc.val e.1,Enc.val e.2.1]) w'):upK P (Ot0 (.pointer (some ⟨it,0,none⟩)) false T) w K:=by
 have hm:w.heap[m]? = some (.map (l.map JC).toArray c):=(h.here hi).2
 have hit:w.heap[it]? = some (.mapIter (some m) c seen c):=(h.here hj).2
 have hold:∀x∈(l.map JC).toArray.toList,x.born<c:=by
  intro x hx
  have hx:x∈l.map JC:=by simpa only[List.toList_toArray] using hx
  obtain⟨e,he,rfl⟩:=List.mem_map.1 hx
  exact hb e he
 rcases run_next_at (P:=P) w T it m c c seen _ c hit hm hold (Nat.le_refl _) with⟨h0,hr⟩ | ⟨x,hx,w1,hw,hr⟩
 ·refine vC (X9 hr) (k0 w (fun e he=>?_) h)
  have he0:leftOf (l.map JC).toArray seen=#[]:=Array.eq_empty_of_size_eq_zero h0
  cases hc:seen.contains e.2.2 with
  | true=>rfl
  | false =>
   have:JC e∈(leftOf (l.map JC).toArray seen):=by
    unfold leftOf
    rw[Array.mem_filter]
    refine⟨by simp;exact⟨e.1,e.2.1,e.2.2,he,rfl⟩,?_⟩
    show (!seen.contains e.2.2)=true
    rw[hc];rfl
   rw[he0] at this
   simp at this
 ·have hx':x∈leftOf (l.map JC).toArray seen:=by simpa using hx
  unfold leftOf at hx'
  rw[Array.mem_filter] at hx'
  obtain⟨hx1,hx2⟩:=hx'
  obtain⟨e,he,rfl⟩:=List.mem_map.1 (List.mem_toArray.1 hx1)
  have hns:seen.contains e.2.2=false:=by
   have:(!seen.contains e.2.2)=true:=hx2
   simpa using this
  have h1:Rel B w1 σ:=by
   rcases hw with rfl | rfl
   ·exact h
   ·exact h.tick
  exact vC (X9 hr) (k1 e _ he hns (h1.setObj j hj (fun B hb=>nW.lt hb) fun B h1 h2=>⟨h1,h2⟩))
omit [DecidableEq κ] in
theorem Rel.entry(h:Rel B w σ)(i j it:Nat){seen:Array Nat}(hi:σ[i]? = some (W9 m l c)){e:Ent κ ν}(hj:σ[j]? = some (nW it m c (seen.push e.2.2) c))(he:e∈l)(hn:(l.map (·.2.2)).Nodup)
  (kk:∀w',Rel B w' σ→K (.tuple #[Enc.val e.1,Enc.val e.2.1]) w'):upK P (bm0 (.pointer (some ⟨it,0,none⟩))) w K:=by
 have hm:w.heap[m]? = some (.map (l.map JC).toArray c):=(h.here hi).2
 have hit:w.heap[it]? = some (.mapIter (some m) c (seen.push e.2.2) c):=(h.here hj).2
 have:=run_entry_at (P:=P) w it m c seen (l.map JC).toArray c (JC e) hit hm (by simp;exact⟨e.1,e.2.1,e.2.2,he,rfl⟩) (by simpa [Function.comp_def,JC] using hn)
 exact vC (X9 this) (kk w h)
omit [Enc κ] [Enc ν] [DecidableEq κ] in
omit [Enc κ] [Enc ν] [DecidableEq κ] in
end
end Go.Proofs.YtngbebnhegcokaaGreatDoor
namespace Go.Proofs.YtngbebnhegcokaaGreatDoor
open Go.Proofs.Tryz (prog)
open Go.RowKit
set_option maxRecDepth 100000
abbrev YA:=kN
abbrev Sec:=G9
def IZ(s:List UInt8)(at_ n:Nat):List UInt8:=s++List.replicate (max s.length (at_+n)-s.length) 0
theorem vW(s:List UInt8)(at_ n:Nat):(IZ s at_ n).length=max s.length (at_+n):=by
 unfold IZ
 rw[List.length_append,List.length_replicate]
 omega
def cr0(s:List UInt8)(at_:Nat)(t:List UInt8):List UInt8:=(IZ s at_ t.length).take at_++t++(IZ s at_ t.length).drop (at_+t.length)
theorem Io0(s:List UInt8)(at_:Nat)(t:List UInt8):(cr0 s at_ t).length=max s.length (at_+t.length):=by
 unfold cr0
 rw[List.length_append,List.length_append,List.length_take,List.length_drop,vW]
 omega
theorem jA0(s:List UInt8)(at_:Nat)(t:List UInt8)(i:Nat):(cr0 s at_ t).getD i 0=if at_≤i∧i<at_+t.length then t.getD (i-at_) 0 else s.getD i 0:=by
 have hp:∀j,(IZ s at_ t.length).getD j 0=s.getD j 0:=by
  intro j
  unfold IZ
  simp only[List.getD_eq_getElem?_getD]
  rcases Nat.lt_or_ge j s.length with h | h
  ·rw[List.getElem?_append_left h]
  ·rw[List.getElem?_append_right h,List.getElem?_replicate,List.getElem?_eq_none h]
   split<;>rfl
 unfold cr0
 simp only[List.getD_eq_getElem?_getD]
 have hl:=vW s at_ t.length
 by_cases h1:at_≤i
 ·by_cases h2:i<at_+t.length
  ·rw[if_pos ⟨h1,h2⟩,List.append_assoc,List.getElem?_append_right (by rw[List.length_take];omega),List.length_take,Nat.min_eq_left (by omega),List.getElem?_append_left (by omega)]
  ·rw[if_neg (by omega),List.getElem?_append_right (by rw[List.length_append,List.length_take];omega),List.length_append,List.length_take,Nat.min_eq_left (by omega),List.getElem?_drop]
   have:=hp i
   simp only[List.getD_eq_getElem?_getD] at this
   rw[←this]
   congr 2
   omega
 ·rw[if_neg (by omega),List.append_assoc,List.getElem?_append_left (by rw[List.length_take];omega),List.getElem?_take,if_pos (by omega)]
  have:=hp i
  simp only[List.getD_eq_getElem?_getD] at this
  exact this
def JO(s:ByteArray)(at_:Nat)(t:ByteArray):ByteArray:=if t=⟨#[]⟩ then s else ofL (cr0 (bl s) at_ (bl t))
theorem ky0{t:ByteArray}:t=⟨#[]⟩↔bl t=[]:=by
 constructor
 ·rintro rfl;rfl
 ·intro h;rw[←fV t,h]
section
variable {B:Base}
theorem QE0{s t:ByteArray}{at_:Nat}(hs:s.size≤1073741824)(ht:t.size≤1073741824)(ha:at_≤1073741824):Gives prog B (Z0 DU #[.string s,.int .i64 at_,.string t]) (.string (JO s at_ t)):=by
 refine Gives.intro fun B' w K base h k=>?_
 refine nZ.up ?_
 unfold nZ.pt
 rw[WW,K3]
 refine⟨fun e=>?_,fun e=>?_⟩
 ·unfold JO at k
  rw[if_pos e] at k
  exact k _ _ h
 ·unfold JO at k
  rw[if_neg e] at k
  have hs':=B_ s
  have ht':=B_ t
  have hw:IntKind.i64.wrap ((at_:Int)+((bl t).length:Int))=((at_+(bl t).length:Nat):Int):=by rw[E5 (by omega) (by omega)];omega
  have hm:max ((bl s).length:Int) ((at_+(bl t).length:Nat):Int)=((max (bl s).length (at_+(bl t).length):Nat):Int):=by omega
  simp -zeta only[aK K8,Z5,hw,II,hm]
  generalize hn:max (bl s).length (at_+(bl t).length)=n
  refine h.mkSlice (n:=n) (0:UInt8) jN (by kernel_rfl) (by omega) (by omega) fun v w1 h nv=>?_
  obtain⟨g,cap,rfl⟩:=h.Et0 (i:=0) rfl nv
  have hlen:(List.replicate n (0:UInt8)).length=n:=List.length_replicate
  refine h.ws0 0 (g:=g) (n:=(List.replicate n (0:UInt8)).length) (cap:=cap) (lo:=0) (a:=some ⟨g,0,none⟩) (dc:=cap) rfl jN (Nat.zero_le _) (.inl rfl) fun w2 h=>?_
  have e1:(List.replicate n (0:UInt8)).take 0++(bl s).take ((List.replicate n (0:UInt8)).length-0)++(List.replicate n (0:UInt8)).drop (0+((bl s).take ((List.replicate n (0:UInt8)).length-0)).length)=IZ (bl s) at_ (bl t).length:=by
   unfold IZ
   rw[hlen,Nat.sub_zero,List.take_of_length_le (show (bl s).length≤n by omega),Nat.zero_add,List.drop_replicate,hn]
   rfl
  rw[e1] at h
  have hpl:=vW (bl s) at_ (bl t).length
  have h:Rel B' w2 [Y3 p_ (.slice (some ⟨g,0,none⟩) (List.replicate n (0:UInt8)).length cap) (IZ (bl s) at_ (bl t).length)]:=h
  have hcap:n≤cap:=by
   obtain⟨_,_,he,hc,_⟩:=Y3.read (h.here (i:=0) rfl)
   injection he with _ e2 e3
   omega
  obtain⟨a,ha2,hcut⟩:=kC0 (α:=UInt8) (P:=prog) (g:=g) (n:=(List.replicate n (0:UInt8)).length) (cap:=cap) (lo:=at_) jN (by omega) (by omega)
  simp -zeta only[hcut]
  refine h.ws0 0 (g:=g) (n:=(List.replicate n (0:UInt8)).length) (cap:=cap) (lo:=at_) (a:=a) rfl jN (by omega) (ha2.imp id fun hh=>⟨by omega,hh.2⟩) fun w3 h=>?_
  have e2:(IZ (bl s) at_ (bl t).length).take at_++(bl t).take ((IZ (bl s) at_ (bl t).length).length-at_)++(IZ (bl s) at_ (bl t).length).drop (at_+((bl t).take ((IZ (bl s) at_ (bl t).length).length-at_)).length)=cr0 (bl s) at_ (bl t):=by
   unfold cr0
   rw[List.take_of_length_le (show (bl t).length≤(IZ (bl s) at_ (bl t).length).length-at_ by omega)]
  rw[e2] at h
  exact h.toStr (Rd.at (E:=p_) 0 rfl) na0 PW K8 (k _ _ h)
end
end Go.Proofs.YtngbebnhegcokaaGreatDoor
namespace Go.Proofs.YtngbebnhegcokaaGreatDoor
open Go.Proofs.Tryz (prog)
open Go.RowKit
structure DS where
 fs:Int→YA
 queue:List Sec
 lost:Int
 down:Bool
 armed:Int
 keep:List Int
def F0:YA:=⟨⟨#[]⟩,⟨#[]⟩⟩
def upd(fs:Int→YA)(f:Int)(x:YA):Int→YA:=fun g=>if g=f then x else fs g
theorem upd_same{fs:Int→YA}{f:Int}{x:YA}:upd fs f x f=x:=if_pos rfl
theorem upd_ne{fs:Int→YA}{f g:Int}{x:YA}(h:g≠f):upd fs f x g=fs g:=if_neg h
def iC:DS:=⟨fun _=>F0,[],0,false,0,[]⟩
def CV(s:DS)(f:Int):Int:=if s.down=true then 9 else if f<0 then 1 else if 16≤f then 1 else 0
theorem qU{s:DS}{f:Int}:CV s f=0↔s.down=false∧0≤f∧f<16:=by
 unfold CV
 cases s.down
 ·simp
  split
  ·simp;omega
  ·split
   ·simp;omega
   ·simp;omega
 ·simp
def ti0(f:Int)(q:List Sec)(n:Nat):List Sec:=if(⟨f,n⟩:Sec)∈q then q else q++[⟨f,n⟩]
def JU(f:Int)(q:List Sec)(ns:List Nat):List Sec:=ns.foldl (ti0 f) q
def secs(at_ n:Nat):List Nat:=(List.range ((at_+n-1) / 64+1-at_ / 64)).map fun i=>at_ / 64+i
def KJ(s:DS)(f:Int)(at_:Nat)(t:ByteArray):DS :=
 if t=⟨#[]⟩ then s else { s with fs:=upd s.fs f ⟨JO (s.fs f).now at_ t,(s.fs f).last⟩,queue:=JU f s.queue (secs at_ t.size) }
def ZL(s:DS)(f at_:Int)(t:ByteArray):Int:=if CV s f≠0 then CV s f else if at_<0 then 1 else if 16777216<at_ then 6 else if 16777216-at_<t.size then 6 else 0
def fG(s:DS)(f at_:Int)(t:ByteArray):DS:=if ZL s f at_ t=0 then KJ s f at_.toNat t else s
def uj0(now:ByteArray)(n:Nat):ByteArray:=ofL (((bl now).take (min (n+64) now.size)).drop n)
def yV(keep:List Int)(i:Nat)(q:Sec)(fs:Int→YA):Int→YA :=
 if keep=[] then fs else if keep.getD (i % keep.length) 0 % 2=0 then fs else if(fs q.file).now.size≤64 * q.number.toNat then fs else upd fs q.file ⟨(fs q.file).now,JO (fs q.file).last (64 * q.number.toNat) (uj0 (fs q.file).now (64 * q.number.toNat))⟩
def FK(keep:List Int)(qs:List Sec)(fs:Int→YA):Nat→Int→YA
 | 0=>fs
 | i+1=>yV keep i (qs.getD i ⟨0,0⟩) (FK keep qs fs i)
def SL(s:DS)(keep:List Int):DS :=
 if s.down=true then s else { s with fs:=fun f=>⟨(FK keep s.queue s.fs s.queue.length f).last,(FK keep s.queue s.fs s.queue.length f).last⟩,queue:=[],down:=true,armed:=0 }
def KX(s:DS):Bool:=!s.down&&(!decide (s.armed=0)&&decide (s.armed-1=0))
def vF(s:DS):DS:=if s.down=true∨s.armed=0 then s else { s with armed:=s.armed-1 }
def fB(s:DS)(f at_:Int)(t:ByteArray):DS×Int:=if KX s=true then(SL (fG (vF s) f at_ t) (fG (vF s) f at_ t).keep,9) else(fG (vF s) f at_ t,ZL (vF s) f at_ t)
def TF(s:DS):DS:=if KX s=true then SL (vF s) (vF s).keep else vF s
def OM(s:DS)(f:Int)(x:ByteArray):DS:={ s with fs:=upd s.fs f ⟨x,x⟩,queue:=s.queue.filter fun q=>!decide (q.file=f) }
def L9(s:DS)(f:Int):DS×Int :=
 if CV (TF s) f≠0 then(TF s,CV (TF s) f) else if 0<(TF s).lost then({ TF s with lost:=(TF s).lost-1 },10) else(OM (TF s) f ((TF s).fs f).now,0)
def LD(s:DS)(f at_ size:Int):ByteArray×Int :=
 if CV s f≠0 then(⟨#[]⟩,CV s f) else if at_<0 then(⟨#[]⟩,1) else if size<0 then(⟨#[]⟩,1) else(ofL (((bl (s.fs f).now).drop at_.toNat).take size.toNat),0)
structure DOk (s:DS):Prop where
 now:∀f,(s.fs f).now.size≤16777216
 last:∀f,(s.fs f).last.size≤16777216
 q:∀q∈s.queue,(0≤q.file∧q.file<16)∧0≤q.number∧q.number<262144
 nd:s.queue.Nodup
 lost:0≤s.lost∧s.lost≤9223372036854775807
 armed:0≤s.armed∧s.armed≤9223372036854775807
theorem uo0:∀(n:Nat) (l:List Nat),l.Nodup→(∀x∈l,x<n)→l.length≤n
 | 0,l,_,h=>by
  cases l with
  | nil=>exact Nat.le_refl _
  | cons a l=>exact absurd (h a List.mem_cons_self) (Nat.not_lt_zero a)
 | n+1,l,hn,h=>by
  have h1:=uo0 n (l.filter fun x=>decide (x≠n)) (hn.filter _) fun x hx=>by
   obtain⟨h2,h3⟩:=List.mem_filter.1 hx
   have:=h x h2
   have:=of_decide_eq_true h3
   omega
  have h2:∀l:List Nat,l.Nodup→l.length≤(l.filter fun x=>decide (x≠n)).length+1:=by
   intro l
   induction l with
   | nil=>intro _;simp
   | cons a l ih =>
    intro hn
    rw[List.nodup_cons] at hn
    rw[List.filter_cons]
    by_cases e:a=n
    ·subst e
     rw[if_neg (by simp)]
     rw[List.filter_eq_self.2 fun x hx=>decide_eq_true (p:=x≠a) fun e=>hn.1 (e ▸ hx)]
     simp
    ·rw[if_pos (by simp [e])]
     have:=ih hn.2
     simp only[List.length_cons]
     omega
  have:=h2 l hn
  omega
theorem DOk.oG0{s:DS}(h:DOk s):s.queue.length≤4194304:=by
 have:(s.queue.map fun q:Sec=>q.file.toNat * 262144+q.number.toNat).length≤4194304:=by
  refine uo0 _ _ ?_ fun x hx=>?_
  ·rw[List.nodup_iff_pairwise_ne,List.pairwise_map,List.pairwise_iff_getElem]
   intro i j hi hj hij e
   have h1:=h.q _ (List.getElem_mem hi)
   have h2:=h.q _ (List.getElem_mem hj)
   have h3:=List.nodup_iff_pairwise_ne.1 h.nd
   rw[List.pairwise_iff_getElem] at h3
   refine h3 i j hi hj hij ?_
   have e1:s.queue[i].file=s.queue[j].file:=by omega
   have e2:s.queue[i].number=s.queue[j].number:=by omega
   generalize s.queue[i]=a at e1 e2
   generalize s.queue[j]=b at e1 e2
   obtain⟨a1,a2⟩:=a
   obtain⟨b1,b2⟩:=b
   simp only at e1 e2
   rw[e1,e2]
  ·obtain⟨q,hq,rfl⟩:=List.mem_map.1 hx
   have:=h.q q hq
   omega
 simpa using this
theorem WC0:DOk iC:=⟨fun _=>Nat.zero_le _,fun _=>Nat.zero_le _,fun q hq=>(by cases hq),List.nodup_nil,by decide,by decide⟩
theorem rb0{s t:ByteArray}{at_:Nat}:(JO s at_ t).size=if t=⟨#[]⟩ then s.size else max s.size (at_+t.size):=by
 unfold JO
 split
 ·rfl
 ·rw[Q_,Io0,B_,B_]
theorem dM{f:Int}{ns:List Nat}:∀{q:List Sec} {x:Sec},x∈JU f q ns↔x∈q∨∃n∈ns,x=⟨f,n⟩:=by
 induction ns with
 | nil=>intro q x;simp [JU]
 | cons n ns ih =>
  intro q x
  unfold JU at ih ⊢
  rw[List.foldl_cons,ih]
  unfold ti0
  constructor
  ·rintro(h | ⟨m,hm,rfl⟩)
   ·split at h
    ·exact .inl h
    ·rcases List.mem_append.1 h with h | h
     ·exact .inl h
     ·simp at h;exact .inr ⟨n,List.mem_cons_self,h⟩
   ·exact .inr ⟨m,List.mem_cons_of_mem _ hm,rfl⟩
  ·rintro(h | ⟨m,hm,rfl⟩)
   ·left
    split
    ·exact h
    ·exact List.mem_append_left _ h
   ·rcases List.mem_cons.1 hm with rfl | hm
    ·left
     split
     ·assumption
     ·exact List.mem_append_right _ (by simp)
    ·exact .inr ⟨m,hm,rfl⟩
theorem Ap0{f:Int}{ns:List Nat}:∀{q:List Sec},q.Nodup→(JU f q ns).Nodup:=by
 induction ns with
 | nil=>intro q h;exact h
 | cons n ns ih =>
  intro q h
  unfold JU at ih ⊢
  rw[List.foldl_cons]
  refine ih ?_
  unfold ti0
  split
  ·exact h
  ·rename_i hn
   rw[List.nodup_append]
   refine⟨h,by simp,fun a ha b hb=>?_⟩
   simp at hb
   subst hb
   rintro rfl
   exact hn ha
theorem Vg0{at_ n m:Nat}(hn:0<n):m∈secs at_ n↔at_ / 64≤m∧m≤(at_+n-1) / 64:=by
 unfold secs
 rw[List.mem_map]
 constructor
 ·rintro⟨i,hi,rfl⟩
  have:=List.mem_range.1 hi
  omega
 ·intro h
  exact⟨m-at_ / 64,List.mem_range.2 (by omega),by omega⟩
theorem size_pos{t:ByteArray}(h:¬t=⟨#[]⟩):0<t.size:=by
 rw[←B_]
 exact List.length_pos_iff.2 fun e=>h (ky0.2 e)
theorem DOk.add{s:DS}(h:DOk s){f:Int}(hf:0≤f∧f<16){at_:Nat}{t:ByteArray}(hfit:at_+t.size≤16777216):DOk (KJ s f at_ t):=by
 unfold KJ
 split
 ·exact h
 ·rename_i ht
  have hpos:=size_pos ht
  refine⟨fun g=>?_,fun g=>?_,fun q hq=>?_,Ap0 h.nd,h.lost,h.armed⟩
  ·show (upd s.fs f _ g).now.size≤_
   unfold upd
   split
   ·show (JO _ _ _).size≤_
    rw[rb0,if_neg ht]
    have:=h.now f
    omega
   ·exact h.now g
  ·show (upd s.fs f _ g).last.size≤_
   unfold upd
   split
   ·exact h.last f
   ·exact h.last g
  ·rcases dM.1 hq with hq | ⟨n,hn,rfl⟩
   ·exact h.q q hq
   ·have:=(Vg0 hpos).1 hn
    exact⟨hf,by show 0≤(n:Int)∧(n:Int)<262144;omega⟩
theorem ed0{s:DS}{f at_:Int}{t:ByteArray}:ZL s f at_ t=0↔CV s f=0∧0≤at_∧at_+t.size≤16777216:=by
 unfold ZL
 by_cases h:CV s f=0
 ·rw[if_neg (by simpa using h)]
  constructor
  ·intro h2
   split at h2
   ·cases h2
   ·split at h2
    ·cases h2
    ·split at h2
     ·cases h2
     ·exact⟨h,by omega,by omega⟩
  ·rintro⟨_,h1,h2⟩
   rw[if_neg (by omega),if_neg (by omega),if_neg (by omega)]
 ·rw[if_pos h]
  exact⟨fun e=>absurd e h,fun e=>absurd e.1 h⟩
theorem DOk.write{s:DS}(h:DOk s)(f at_:Int)(t:ByteArray):DOk (fG s f at_ t):=by
 unfold fG
 split
 ·rename_i he
  obtain⟨h1,h2,h3⟩:=ed0.1 he
  exact h.add (qU.1 h1).2 (by omega)
 ·exact h
theorem wg0{now:ByteArray}{n:Nat}:(uj0 now n).size=min (n+64) now.size-n:=by
 unfold uj0
 rw[Q_,List.length_drop,List.length_take,B_]
 omega
theorem fh0{keep:List Int}{qs:List Sec}{fs:Int→YA}(h1:∀f,(fs f).now.size≤16777216)(h2:∀f,(fs f).last.size≤16777216)(n:Nat) :
  (∀f,(FK keep qs fs n f).now=(fs f).now)∧∀f,(FK keep qs fs n f).last.size≤16777216:=by
 induction n with
 | zero=>exact⟨fun _=>rfl,h2⟩
 | succ n ih =>
  unfold FK yV
  split
  ·exact ih
  ·split
   ·exact ih
   ·split
    ·exact ih
    ·rename_i hlt
     refine⟨fun f=>?_,fun f=>?_⟩
     ·unfold upd
      split
      ·rename_i e;rw[e];exact ih.1 _
      ·exact ih.1 f
     ·unfold upd
      split
      ·show (JO _ _ _).size≤_
       rw[rb0]
       split
       ·exact ih.2 _
       ·have:=ih.2 (qs.getD n ⟨0,0⟩).file
        have e:=ih.1 (qs.getD n ⟨0,0⟩).file
        have:=h1 (qs.getD n ⟨0,0⟩).file
        rw[e] at hlt
        rw[wg0,e]
        omega
      ·exact ih.2 f
theorem DOk.Te0{s:DS}(h:DOk s)(keep:List Int):DOk (SL s keep):=by
 unfold SL
 split
 ·exact h
 ·have:=(fh0 (keep:=keep) (qs:=s.queue) h.now h.last s.queue.length).2
  exact⟨this,this,fun q hq=>(by cases hq),List.nodup_nil,h.lost,(by show (0:Int)≤0∧(0:Int)≤9223372036854775807;decide)⟩
theorem DOk.ends{s:DS}(h:DOk s):DOk (vF s):=by
 unfold vF
 split
 ·exact h
 ·rename_i hn
  have:s.armed≠0:=fun e=>hn (.inr e)
  have:=h.armed
  exact⟨h.now,h.last,h.q,h.nd,h.lost,by show 0≤s.armed-1∧s.armed-1≤_;omega⟩
theorem DOk.come{s:DS}(h:DOk s):DOk (TF s):=by
 unfold TF
 split
 ·exact h.ends.Te0 _
 ·exact h.ends
theorem DOk.settle{s:DS}(h:DOk s)(f:Int){x:ByteArray}(hx:x.size≤16777216):DOk (OM s f x):=by
 refine⟨fun g=>?_,fun g=>?_,fun q hq=>h.q q (List.mem_filter.1 hq).1,h.nd.filter _,h.lost,h.armed⟩
 ·show (upd s.fs f _ g).now.size≤_
  unfold upd
  split
  ·exact hx
  ·exact h.now g
 ·show (upd s.fs f _ g).last.size≤_
  unfold upd
  split
  ·exact hx
  ·exact h.last g
theorem DOk.fB{s:DS}(h:DOk s)(f at_:Int)(t:ByteArray):DOk (fB s f at_ t).1:=by
 unfold Go.Proofs.YtngbebnhegcokaaGreatDoor.fB
 split
 ·exact(h.ends.write f at_ t).Te0 _
 ·exact h.ends.write f at_ t
theorem DOk.L9{s:DS}(h:DOk s)(f:Int):DOk (L9 s f).1:=by
 unfold Go.Proofs.YtngbebnhegcokaaGreatDoor.L9
 have hc:=h.come
 split
 ·exact hc
 ·split
  ·rename_i hl
   have:=hc.lost
   exact⟨hc.now,hc.last,hc.q,hc.nd,by show 0≤(TF s).lost-1∧(TF s).lost-1≤_;omega,hc.armed⟩
  ·exact hc.settle f (hc.now f)
end Go.Proofs.YtngbebnhegcokaaGreatDoor
namespace Go.Proofs.YtngbebnhegcokaaGreatDoor
open Go.Proofs.Tryz (prog)
open Go.RowKit
set_option maxRecDepth 100000
theorem XP{B:Base}{v:Value}{l:List ByteArray}(r:O4 v l B)(hl:l.length * 16≤140737488355328)(hl2:l.length≤140737488355328):Makes prog B (Z0 iD #[v]) fun v' τ=>τ=[Y3 M3 v' l]:=by
 refine Makes.intro fun B' w K base h k=>?_
 replace r:=base r
 refine WB.up ?_
 unfold WB.pt
 obtain⟨a,cap,rfl,_⟩:=O4.form r
 simp -zeta only[TD zp0]
 rw[R5]
 refine⟨fun e=>?_,fun e=>?_⟩
 ·have:a=none:=by cases a<;>simp_all
  subst this
  obtain⟨_,_,he,_,h0⟩:=r
  have hl0:l=[]:=by
   rcases h0 with h0 | ⟨g,o,h0,_⟩
   ·exact h0
   ·cases he;cases h0
  subst hl0
  exact k _ _ _ rfl (h.VC ByteArray M3)
 ·refine h.MV (α:=ByteArray) K7 fun v1 w1 h nv=>?_
  refine h.append 0 rfl K7 (Rd.base r) (by simpa using hl) (by simpa using hl2) fun v2 w2 h=>?_
  exact k _ _ _ rfl h
theorem oM{B:Base}{v:Value}{l:List Y7}(r:O4 v l B)(hl:l.length * 72≤140737488355328)(hl2:l.length≤140737488355328):Makes prog B (Z0 W_ #[v]) fun v' τ=>τ=[Y3 Q3 v' l]:=by
 refine Makes.intro fun B' w K base h k=>?_
 replace r:=base r
 refine LA.up ?_
 unfold LA.pt
 obtain⟨a,cap,rfl,_⟩:=O4.form r
 simp -zeta only[TD Fh0]
 rw[R5]
 refine⟨fun e=>?_,fun e=>?_⟩
 ·have:a=none:=by cases a<;>simp_all
  subst this
  obtain⟨_,_,he,_,h0⟩:=r
  have hl0:l=[]:=by
   rcases h0 with h0 | ⟨g,o,h0,_⟩
   ·exact h0
   ·cases he;cases h0
  subst hl0
  exact k _ _ _ rfl (h.VC Y7 Q3)
 ·refine h.MV (α:=Y7) u7 fun v1 w1 h nv=>?_
  refine h.append 0 rfl u7 (Rd.base r) (by simpa using hl) (by simpa using hl2) fun v2 w2 h=>?_
  exact k _ _ _ rfl h
theorem pM{B:Base}{v:Value}{l:List T9}(r:O4 v l B)(hl:l.length * 32≤140737488355328)(hl2:l.length≤140737488355328):Makes prog B (Z0 FB #[v]) fun v' τ=>τ=[Y3 R3 v' l]:=by
 refine Makes.intro fun B' w K base h k=>?_
 replace r:=base r
 refine NA.up ?_
 unfold NA.pt
 obtain⟨a,cap,rfl,_⟩:=O4.form r
 simp -zeta only[TD Gh0]
 rw[R5]
 refine⟨fun e=>?_,fun e=>?_⟩
 ·have:a=none:=by cases a<;>simp_all
  subst this
  obtain⟨_,_,he,_,h0⟩:=r
  have hl0:l=[]:=by
   rcases h0 with h0 | ⟨g,o,h0,_⟩
   ·exact h0
   ·cases he;cases h0
  subst hl0
  exact k _ _ _ rfl (h.VC T9 R3)
 ·refine h.MV (α:=T9) Q8 fun v1 w1 h nv=>?_
  refine h.append 0 rfl Q8 (Rd.base r) (by simpa using hl) (by simpa using hl2) fun v2 w2 h=>?_
  exact k _ _ _ rfl h
theorem FO{B:Base}{v:Value}{l:List LK}(r:O4 v l B)(hl:l.length * 40≤140737488355328)(hl2:l.length≤140737488355328):Makes prog B (Z0 AC #[v]) fun v' τ=>τ=[Y3 iB v' l]:=by
 refine Makes.intro fun B' w K base h k=>?_
 replace r:=base r
 refine BB.up ?_
 unfold BB.pt
 obtain⟨a,cap,rfl,_⟩:=O4.form r
 simp -zeta only[TD Em0]
 rw[R5]
 refine⟨fun e=>?_,fun e=>?_⟩
 ·have:a=none:=by cases a<;>simp_all
  subst this
  obtain⟨_,_,he,_,h0⟩:=r
  have hl0:l=[]:=by
   rcases h0 with h0 | ⟨g,o,h0,_⟩
   ·exact h0
   ·cases he;cases h0
  subst hl0
  exact k _ _ _ rfl (h.VC LK iB)
 ·refine h.MV (α:=LK) wO fun v1 w1 h nv=>?_
  refine h.append 0 rfl wO (Rd.base r) (by simpa using hl) (by simpa using hl2) fun v2 w2 h=>?_
  exact k _ _ _ rfl h
theorem P_{B:Base}{v:Value}{l:List NK}(r:O4 v l B)(hl:l.length * 24≤140737488355328)(hl2:l.length≤140737488355328):Makes prog B (Z0 X8 #[v]) fun v' τ=>τ=[Y3 X3 v' l]:=by
 refine Makes.intro fun B' w K base h k=>?_
 replace r:=base r
 refine CB.up ?_
 unfold CB.pt
 obtain⟨a,cap,rfl,_⟩:=O4.form r
 simp -zeta only[TD Fm0]
 rw[R5]
 refine⟨fun e=>?_,fun e=>?_⟩
 ·have:a=none:=by cases a<;>simp_all
  subst this
  obtain⟨_,_,he,_,h0⟩:=r
  have hl0:l=[]:=by
   rcases h0 with h0 | ⟨g,o,h0,_⟩
   ·exact h0
   ·cases he;cases h0
  subst hl0
  exact k _ _ _ rfl (h.VC NK X3)
 ·refine h.MV (α:=NK) u6 fun v1 w1 h nv=>?_
  refine h.append 0 rfl u6 (Rd.base r) (by simpa using hl) (by simpa using hl2) fun v2 w2 h=>?_
  exact k _ _ _ rfl h
theorem sN{B:Base}{v:Value}{l:List Int}(r:O4 v l B)(hl:l.length * 8≤140737488355328)(hl2:l.length≤140737488355328):Makes prog B (Z0 sD #[v]) fun v' τ=>τ=[Y3 Q0 v' l]:=by
 refine Makes.intro fun B' w K base h k=>?_
 replace r:=base r
 refine WE.up ?_
 unfold WE.pt
 obtain⟨a,cap,rfl,_⟩:=O4.form r
 simp -zeta only[TD gk0]
 rw[R5]
 refine⟨fun e=>?_,fun e=>?_⟩
 ·have:a=none:=by cases a<;>simp_all
  subst this
  obtain⟨_,_,he,_,h0⟩:=r
  have hl0:l=[]:=by
   rcases h0 with h0 | ⟨g,o,h0,_⟩
   ·exact h0
   ·cases he;cases h0
  subst hl0
  exact k _ _ _ rfl (h.VC Int Q0)
 ·refine h.MV (α:=Int) N8 fun v1 w1 h nv=>?_
  refine h.append 0 rfl N8 (Rd.base r) (by simpa using hl) (by simpa using hl2) fun v2 w2 h=>?_
  exact k _ _ _ rfl h
theorem dK{B:Base}{v f:Value}{l:List Y7}(r:O4 v l B)(hl:l.length≤4611686018427387904)(p:Y7→Bool)
  (hf:∀B':Base,(∀{d:Dat},d B→d B')→∀x∈l,Gives prog B' (dA f #[Enc.val x]) (.bool (p x))):Gives prog B (Z0 ZA #[v,f]) (.int .i64 (jO p l)):=by
 refine Gives.intro fun B' w K base h k=>?_
 replace r:=base r
 refine J_.up ?_
 unfold J_.pt
 simp -zeta only[O4.len r u7]
 refine F6 (fun x w'=>∃i:Nat,i≤l.length∧x=(.int .i64 i,())∧(∀x∈l.take i,p x=false)∧Rel B' w' []) (fun x _=>l.length-(match x.1 with | .int _ n=>n.toNat | _=>0)) ⟨0,Nat.zero_le _,rfl,(fun x hx=>by simp at hx),h⟩ ?_
 clear h
 rintro x w1 ⟨i,hi,rfl,hno,h⟩ next hnext
 simp -zeta only[G6,K3]
 refine⟨fun hlt=>?_,fun hge=>?_⟩
 ·have hil:i<l.length:=by omega
  obtain⟨g,o,hx,hc⟩:=O4.idx r u7 hil
  simp -zeta only[hx,K6.r9 (h.L6 hc) Y8 rfl]
  refine h.ask (fun B2 own base2=>hf B2 (fun hd=>base2 (base hd)) l[i] (List.getElem_mem hil)) fun w2 h=>?_
  rw[R5]
  refine⟨fun e=>?_,fun e=>?_⟩
  ·rw[zR hil hno e] at k
   exact k _ _ h
  ·rw[Z5,E5 (by omega) (by omega)]
   refine hnext _ _ ⟨i+1,by omega,rfl,?_,h⟩ (by simp only;omega)
   intro x hx
   rw[List.take_succ_eq_append_getElem hil] at hx
   rcases List.mem_append.1 hx with hx | hx
   ·exact hno x hx
   ·simp only[List.mem_cons,List.not_mem_nil,or_false] at hx
    subst hx;exact e
 ·have:i=l.length:=by omega
  subst this
  rw[List.take_length] at hno
  rw[yR hno] at k
  exact k _ _ h
theorem XB{B:Base}{v f:Value}{l:List yD}(r:O4 v l B)(hl:l.length≤4611686018427387904)(p:yD→Bool)
  (hf:∀B':Base,(∀{d:Dat},d B→d B')→∀x∈l,Gives prog B' (dA f #[Enc.val x]) (.bool (p x))):Gives prog B (Z0 N_ #[v,f]) (.int .i64 (jO p l)):=by
 refine Gives.intro fun B' w K base h k=>?_
 replace r:=base r
 refine P9.up ?_
 unfold P9.pt
 simp -zeta only[O4.len r I6]
 refine F6 (fun x w'=>∃i:Nat,i≤l.length∧x=(.int .i64 i,())∧(∀x∈l.take i,p x=false)∧Rel B' w' []) (fun x _=>l.length-(match x.1 with | .int _ n=>n.toNat | _=>0)) ⟨0,Nat.zero_le _,rfl,(fun x hx=>by simp at hx),h⟩ ?_
 clear h
 rintro x w1 ⟨i,hi,rfl,hno,h⟩ next hnext
 simp -zeta only[G6,K3]
 refine⟨fun hlt=>?_,fun hge=>?_⟩
 ·have hil:i<l.length:=by omega
  obtain⟨g,o,hx,hc⟩:=O4.idx r I6 hil
  simp -zeta only[hx,K6.r9 (h.L6 hc) X7 rfl]
  refine h.ask (fun B2 own base2=>hf B2 (fun hd=>base2 (base hd)) l[i] (List.getElem_mem hil)) fun w2 h=>?_
  rw[R5]
  refine⟨fun e=>?_,fun e=>?_⟩
  ·rw[zR hil hno e] at k
   exact k _ _ h
  ·rw[Z5,E5 (by omega) (by omega)]
   refine hnext _ _ ⟨i+1,by omega,rfl,?_,h⟩ (by simp only;omega)
   intro x hx
   rw[List.take_succ_eq_append_getElem hil] at hx
   rcases List.mem_append.1 hx with hx | hx
   ·exact hno x hx
   ·simp only[List.mem_cons,List.not_mem_nil,or_false] at hx
    subst hx;exact e
 ·have:i=l.length:=by omega
  subst this
  rw[List.take_length] at hno
  rw[yR hno] at k
  exact k _ _ h
theorem fK{B:Base}{v f:Value}{l:List uI}(r:O4 v l B)(hl:l.length≤4611686018427387904)(p:uI→Bool)
  (hf:∀B':Base,(∀{d:Dat},d B→d B')→∀x∈l,Gives prog B' (dA f #[Enc.val x]) (.bool (p x))):Gives prog B (Z0 aB #[v,f]) (.int .i64 (jO p l)):=by
 refine Gives.intro fun B' w K base h k=>?_
 replace r:=base r
 refine K_.up ?_
 unfold K_.pt
 simp -zeta only[O4.len r ND]
 refine F6 (fun x w'=>∃i:Nat,i≤l.length∧x=(.int .i64 i,())∧(∀x∈l.take i,p x=false)∧Rel B' w' []) (fun x _=>l.length-(match x.1 with | .int _ n=>n.toNat | _=>0)) ⟨0,Nat.zero_le _,rfl,(fun x hx=>by simp at hx),h⟩ ?_
 clear h
 rintro x w1 ⟨i,hi,rfl,hno,h⟩ next hnext
 simp -zeta only[G6,K3]
 refine⟨fun hlt=>?_,fun hge=>?_⟩
 ·have hil:i<l.length:=by omega
  obtain⟨g,o,hx,hc⟩:=O4.idx r ND hil
  simp -zeta only[hx,K6.r9 (h.L6 hc) OQ rfl]
  refine h.ask (fun B2 own base2=>hf B2 (fun hd=>base2 (base hd)) l[i] (List.getElem_mem hil)) fun w2 h=>?_
  rw[R5]
  refine⟨fun e=>?_,fun e=>?_⟩
  ·rw[zR hil hno e] at k
   exact k _ _ h
  ·rw[Z5,E5 (by omega) (by omega)]
   refine hnext _ _ ⟨i+1,by omega,rfl,?_,h⟩ (by simp only;omega)
   intro x hx
   rw[List.take_succ_eq_append_getElem hil] at hx
   rcases List.mem_append.1 hx with hx | hx
   ·exact hno x hx
   ·simp only[List.mem_cons,List.not_mem_nil,or_false] at hx
    subst hx;exact e
 ·have:i=l.length:=by omega
  subst this
  rw[List.take_length] at hno
  rw[yR hno] at k
  exact k _ _ h
theorem sI{B:Base}{v f:Value}{l:List G9}(r:O4 v l B)(hl:l.length≤4611686018427387904)(p:G9→Bool)
  (hf:∀B':Base,(∀{d:Dat},d B→d B')→∀x∈l,Gives prog B' (dA f #[Enc.val x]) (.bool (p x))):Gives prog B (Z0 X_ #[v,f]) (.int .i64 (jO p l)):=by
 refine Gives.intro fun B' w K base h k=>?_
 replace r:=base r
 refine Z9.up ?_
 unfold Z9.pt
 simp -zeta only[O4.len r jA]
 refine F6 (fun x w'=>∃i:Nat,i≤l.length∧x=(.int .i64 i,())∧(∀x∈l.take i,p x=false)∧Rel B' w' []) (fun x _=>l.length-(match x.1 with | .int _ n=>n.toNat | _=>0)) ⟨0,Nat.zero_le _,rfl,(fun x hx=>by simp at hx),h⟩ ?_
 clear h
 rintro x w1 ⟨i,hi,rfl,hno,h⟩ next hnext
 simp -zeta only[G6,K3]
 refine⟨fun hlt=>?_,fun hge=>?_⟩
 ·have hil:i<l.length:=by omega
  obtain⟨g,o,hx,hc⟩:=O4.idx r jA hil
  simp -zeta only[hx,K6.r9 (h.L6 hc) J9 rfl]
  refine h.ask (fun B2 own base2=>hf B2 (fun hd=>base2 (base hd)) l[i] (List.getElem_mem hil)) fun w2 h=>?_
  rw[R5]
  refine⟨fun e=>?_,fun e=>?_⟩
  ·rw[zR hil hno e] at k
   exact k _ _ h
  ·rw[Z5,E5 (by omega) (by omega)]
   refine hnext _ _ ⟨i+1,by omega,rfl,?_,h⟩ (by simp only;omega)
   intro x hx
   rw[List.take_succ_eq_append_getElem hil] at hx
   rcases List.mem_append.1 hx with hx | hx
   ·exact hno x hx
   ·simp only[List.mem_cons,List.not_mem_nil,or_false] at hx
    subst hx;exact e
 ·have:i=l.length:=by omega
  subst this
  rw[List.take_length] at hno
  rw[yR hno] at k
  exact k _ _ h
theorem RQ{B:Base}{v f:Value}{l:List Int}(r:O4 v l B)(hl:l.length≤4611686018427387904)(p:Int→Bool)
  (hf:∀B':Base,(∀{d:Dat},d B→d B')→∀x∈l,Gives prog B' (dA f #[Enc.val x]) (.bool (p x))):Gives prog B (Z0 nE #[v,f]) (.int .i64 (jO p l)):=by
 refine Gives.intro fun B' w K base h k=>?_
 replace r:=base r
 refine MC.up ?_
 unfold MC.pt
 simp -zeta only[O4.len r N8]
 refine F6 (fun x w'=>∃i:Nat,i≤l.length∧x=(.int .i64 i,())∧(∀x∈l.take i,p x=false)∧Rel B' w' []) (fun x _=>l.length-(match x.1 with | .int _ n=>n.toNat | _=>0)) ⟨0,Nat.zero_le _,rfl,(fun x hx=>by simp at hx),h⟩ ?_
 clear h
 rintro x w1 ⟨i,hi,rfl,hno,h⟩ next hnext
 simp -zeta only[G6,K3]
 refine⟨fun hlt=>?_,fun hge=>?_⟩
 ·have hil:i<l.length:=by omega
  obtain⟨g,o,hx,hc⟩:=O4.idx r N8 hil
  simp -zeta only[hx,K6.ld0 (h.L6 hc) Y2 rfl]
  refine h.ask (fun B2 own base2=>hf B2 (fun hd=>base2 (base hd)) l[i] (List.getElem_mem hil)) fun w2 h=>?_
  rw[R5]
  refine⟨fun e=>?_,fun e=>?_⟩
  ·rw[zR hil hno e] at k
   exact k _ _ h
  ·rw[Z5,E5 (by omega) (by omega)]
   refine hnext _ _ ⟨i+1,by omega,rfl,?_,h⟩ (by simp only;omega)
   intro x hx
   rw[List.take_succ_eq_append_getElem hil] at hx
   rcases List.mem_append.1 hx with hx | hx
   ·exact hno x hx
   ·simp only[List.mem_cons,List.not_mem_nil,or_false] at hx
    subst hx;exact e
 ·have:i=l.length:=by omega
  subst this
  rw[List.take_length] at hno
  rw[yR hno] at k
  exact k _ _ h
theorem gK{B:Base}{v f:Value}{l:List T9}(r:O4 v l B)(hl:l.length≤4611686018427387904)(p:T9→Bool)
  (hf:∀B':Base,(∀{d:Dat},d B→d B')→∀x∈l,Gives prog B' (dA f #[Enc.val x]) (.bool (p x))):Gives prog B (Z0 bB #[v,f]) (.int .i64 (jO p l)):=by
 refine Gives.intro fun B' w K base h k=>?_
 replace r:=base r
 refine L_.up ?_
 unfold L_.pt
 simp -zeta only[O4.len r Q8]
 refine F6 (fun x w'=>∃i:Nat,i≤l.length∧x=(.int .i64 i,())∧(∀x∈l.take i,p x=false)∧Rel B' w' []) (fun x _=>l.length-(match x.1 with | .int _ n=>n.toNat | _=>0)) ⟨0,Nat.zero_le _,rfl,(fun x hx=>by simp at hx),h⟩ ?_
 clear h
 rintro x w1 ⟨i,hi,rfl,hno,h⟩ next hnext
 simp -zeta only[G6,K3]
 refine⟨fun hlt=>?_,fun hge=>?_⟩
 ·have hil:i<l.length:=by omega
  obtain⟨g,o,hx,hc⟩:=O4.idx r Q8 hil
  simp -zeta only[hx,K6.r9 (h.L6 hc) Z7 rfl]
  refine h.ask (fun B2 own base2=>hf B2 (fun hd=>base2 (base hd)) l[i] (List.getElem_mem hil)) fun w2 h=>?_
  rw[R5]
  refine⟨fun e=>?_,fun e=>?_⟩
  ·rw[zR hil hno e] at k
   exact k _ _ h
  ·rw[Z5,E5 (by omega) (by omega)]
   refine hnext _ _ ⟨i+1,by omega,rfl,?_,h⟩ (by simp only;omega)
   intro x hx
   rw[List.take_succ_eq_append_getElem hil] at hx
   rcases List.mem_append.1 hx with hx | hx
   ·exact hno x hx
   ·simp only[List.mem_cons,List.not_mem_nil,or_false] at hx
    subst hx;exact e
 ·have:i=l.length:=by omega
  subst this
  rw[List.take_length] at hno
  rw[yR hno] at k
  exact k _ _ h
theorem OI{B:Base}{v f:Value}{l:List T9}(r:O4 v l B)(hl:l.length≤4611686018427387904)(p:T9→Bool)
  (hf:∀B':Base,(∀{d:Dat},d B→d B')→∀x∈l,Gives prog B' (dA f #[Enc.val x]) (.bool (p x))):Gives prog B (Z0 uA #[v,f]) (.bool (l.any p)):=by
 refine Gives.intro fun B' w K base h k=>?_
 replace r:=base r
 refine h_.up ?_
 unfold h_.pt
 refine h.ask (fun B2 own base2=>gK (base2 r) hl p fun B3 base3 x hx=>hf B3 (fun hd=>base3 (base2 (base hd))) x hx) fun w1 h=>?_
 have e:decide (0≤jO p l)=l.any p:=by
  rw[Bool.eq_iff_iff,decide_eq_true_eq,List.any_eq_true]
  constructor
  ·intro h0
   have:=(yZ (p:=p) (l:=l)).1
   refine Classical.byContradiction fun hno=>?_
   have:=this.2 fun x hx=>by
    cases hp:p x with
    | false=>rfl
    | true=>exact absurd ⟨x,hx,hp⟩ hno
   omega
  ·rintro⟨x,hx,hp⟩
   have:=(yZ (p:=p) (l:=l)).1
   refine Int.not_lt.1 fun hlt=>?_
   rw[this.1 hlt x hx] at hp
   cases hp
 simp -zeta only[FC,e]
 exact k _ _ h
theorem aI{B:Base}{v f:Value}{l:List G9}(hl:l.length≤4611686018427387904)(p:G9→Bool)
  (hf:∀B':Base,(∀{d:Dat},d B→d B')→∀x∈l,Gives prog B' (dA f #[Enc.val x]) (.bool (p x))):Does prog B (Y3 R4 v l) (Z0 R_ #[v,f]) fun u e' τ=>e'=Y3 R4 u (l.filter fun x=>!p x)∧τ=[]:=by
 refine Does.intro fun B' w K base h k=>?_
 refine V9.up ?_
 unfold V9.pt
 refine h.ask (fun B2 own base2=>sI (Y3.read (own (i:=0) rfl)) hl p fun B3 base3 x hx=>hf B3 (fun hd=>base3 (base2 (base hd))) x hx) fun w1 h=>?_
 simp -zeta only[F7,K3]
 refine⟨fun e=>?_,fun e=>?_⟩
 ·have hno:=(yZ (p:=p) (l:=l)).1.1 (by omega)
  have hfl:(l.filter fun x=>!p x)=l:=List.filter_eq_self.2 fun x hx=>by simp [hno x hx]
  rw[hfl] at k
  exact k _ _ _ _ ⟨rfl,rfl⟩ h
 ·obtain⟨m,hm,hml,hmp,hmno⟩:∃m:Nat,jO p l=m∧∃hm:m<l.length,p l[m]=true∧∀x∈l.take m,p x=false:=by
   unfold jO at e ⊢
   split at e
   ·rename_i i hi
    obtain⟨h1,h2,h3⟩:=List.findIdx?_eq_some_iff_getElem.1 hi
    refine⟨i,rfl,h1,h2,fun x hx=>?_⟩
    obtain⟨j,hj,rfl⟩:=List.getElem_of_mem hx
    have:=h3 j (by simp at hj;omega)
    simp at this ⊢
    exact this
   ·exact absurd rfl e
  rw[hm]
  obtain⟨g,cap,rfl⟩:=h.open_ (i:=0) rfl (by omega)
  simp -zeta only[Z5]
  rw[E5 (by omega) (by omega)]
  refine F6 (fun x w'=>∃(i j:Nat) (l':List G9),j≤l.length∧i<j∧x=(.int .i64 i,.int .i64 j,())∧l'.length=l.length∧l'.take i=(l.take j).filter (fun x=>!p x)∧l'.drop j=l.drop j∧Rel B' w' [Y3 R4 (.slice (some ⟨g,0,none⟩) l.length cap) l'])
   (fun x _=>l.length-(match x.2.1 with | .int _ n=>n.toNat | _=>0)) ⟨m,m+1,l,by omega,by omega,by simp,rfl,?_,rfl,h⟩ ?_
  ·rw[List.take_succ_eq_append_getElem hml,List.filter_append,List.filter_eq_self.2 fun x hx=>by simp [hmno x hx]]
   simp [hmp]
  clear h
  rintro x w2 ⟨i,j,l',hj,hij,rfl,hl',ht,hd,h⟩ next hnext
  have hrd:=Y3.read (h.here (i:=0) rfl)
  simp -zeta only[O4.len hrd jA,hl',G6,K3]
  refine⟨fun hlt=>?_,fun hge=>?_⟩
  ·have hjl:j<l.length:=by omega
   have hjl':j<l'.length:=by omega
   have hel:l'[j]=l[j]:=by
    have h1:(l'.drop j)[0]? = (l.drop j)[0]? := by rw[hd]
    simpa [hjl,hjl'] using h1
   have hd1:l'.drop (j+1)=l.drop (j+1):=by
    have:=congrArg (List.drop 1) hd
    simpa using this
   have hs:(l.take (j+1)).filter (fun x=>!p x)=(l.take j).filter (fun x=>!p x)++(if p l[j]=true then [] else [l[j]]):=by
    rw[List.take_succ_eq_append_getElem hjl,List.filter_append]
    congr 1
    cases hp:p l[j]<;>simp [hp]
   refine P6 fun J hJ=>?_
   replace hJ:∀w' (i:Nat) (l':List G9),i<j+1→l'.length=l.length→l'.take i=(l.take (j+1)).filter (fun x=>!p x)→l'.drop (j+1)=l.drop (j+1)→Rel B' w' [Y3 R4 (.slice (some ⟨g,0,none⟩) l.length cap) l']→J (.int .i64 i,()) w':=by
    intro w' i l' h1 h2 h3 h4 h5
    refine hJ _ _ ?_
    show M0 _ _ _
    rw[Z5,E5 (by omega) (by omega)]
    exact hnext _ _ ⟨i,j+1,l',by omega,h1,rfl,h2,h3,h4,h5⟩ (by simp only;omega)
   clear hnext
   have hc:=h.elem (α:=G9) (i:=0) (j:=j) rfl hjl'
   rw[hel] at hc
   simp -zeta only[bX (α:=G9) jA hjl,K6.r9 hc J9 rfl]
   refine h.R8 (ds:=(l[j]:G9).cs.toArray) PP rfl J9 rfl (fun v hv=>Enc.one l[j] v hv) fun b w3 h=>?_
   simp -zeta only[h.r9 1 rfl J9 rfl]
   refine h.ask (fun B2 own base2=>hf B2 (fun hd=>base2 (base hd)) l[j] (List.getElem_mem hjl)) fun w4 h=>?_
   simp -zeta only[V7,G5]
   rw[R5]
   refine⟨fun hp=>?_,fun hp=>?_⟩
   ·refine hJ w4 i l' (by omega) hl' ?_ hd1 (h.take 1)
    rw[hs,if_pos hp,ht,List.append_nil]
   ·simp -zeta only[h.r9 1 rfl J9 rfl,bX (α:=G9) jA (show i<l.length by omega)]
    refine h.jm0 (α:=G9) 0 rfl l[j] (j:=i) (by omega) J9 rfl rfl fun w5 h=>?_
    simp -zeta only[Z5]
    rw[E5 (by omega) (by omega)]
    refine hJ w5 (i+1) (l'.set i l[j]) (by omega) (by simp [hl']) ?_ ?_ (h.take 1)
    ·rw[hs,if_neg (by rw[hp];decide),←ht,List.take_succ_eq_append_getElem (by simp;omega),List.take_set_of_le (Nat.le_refl _)]
     simp
    ·rw[List.drop_set_of_lt (by omega),hd1]
  ·have:j=l.length:=by omega
   subst this
   rw[List.take_length] at ht
   rw[O4.Ue0 hrd jA (lo:=i) (hi:=l'.length) Bnd.some Bnd.none (by omega) (Nat.le_refl _),hl']
   refine h.Re0 0 rfl jA (by omega) fun w3 h=>?_
   rw[ht] at h
   exact k _ _ _ _ ⟨rfl,rfl⟩ h
theorem Av0:KeyTy prog Q0 Int:=KeyTy.int IV
theorem fm0(n:Nat)(k:IntKind)(a:Int):Instr.sameBits n (.int k a) (.int k a)=true:=by cases n<;>simp [Instr.sameBits]
theorem rr0(n:Nat)(a b:Int):Instr.sameBits (n+1) (.agg #[.int .i64 a,.int .i64 b]) (.agg #[.int .i64 a,.int .i64 b])=true:=by simp [Instr.sameBits,fm0]
theorem YF0:KeyTy prog R4 Sec:=KeyTy.agg (fs:=prog.fieldsOf R4) (by kernel_rfl) (fun _=>rfl) (by kernel_rfl) (fun x y w=>JY x y w) (fun x=>rr0 9999 x.file x.number)
structure DF (s:DS) (lf:List (Ent Int YA)) (cf:Nat) (ls:List (Ent Sec Bool)) (cs:Nat):Prop where
 wf:WfE lf cf
 files:∀f,s.fs f=(SF f lf).getD F0
 ws:WfE ls cs
 set_:∀q,(SF q ls).getD false=decide (q∈s.queue)
 ok:DOk s
abbrev DX:=((Nat×List (Ent Int YA)×Nat)×(Nat×List (Ent Sec Bool)×Nat))×Value
abbrev dcs(m:Nat)(qv:Value)(m2:Nat)(s:DS)(kv:Value):Array Value:=#[oO m,qv,oO m2,.int .i64 s.lost,.bool s.down,.int .i64 s.armed,kv]
abbrev parts(p:Nat)(s:DS)(kv:Value)(x:DX):List Dat:=[O1 p P5 (dcs x.1.1.1 x.2 x.1.2.1 s kv),W9 x.1.1.1 x.1.1.2.1 x.1.1.2.2,Y3 R4 x.2 s.queue,W9 x.1.2.1 x.1.2.2.1 x.1.2.2.2]
def Z6(p:Nat)(s:DS)(kv:Value):Dat:=Dat.ex fun x:DX=>(Dat.pure (DF s x.1.1.2.1 x.1.1.2.2 x.1.2.2.1 x.1.2.2.2∧kv.oneCell'=true)).and (yU (parts p s kv x))
section
variable {B:Base} {w:World} {p:Nat} {s:DS} {kv:Value}
theorem Z6.open_(h:Rel B w [Z6 p s kv]):∃m lf cf m2 ls cs qv,DF s lf cf ls cs∧kv.oneCell'=true∧Rel B w [O1 p P5 (dcs m qv m2 s kv),W9 m lf cf,Y3 R4 qv s.queue,W9 m2 ls cs]:=by
 obtain⟨x,h⟩:=h.ex (i:=0) rfl
 obtain⟨⟨h1,h2⟩,h⟩:=h.VS (i:=0) rfl
 have h:=Rel.lX (σ:=[]) (L:=parts p s kv x) h
 exact⟨_,_,_,_,_,_,_,h1,h2,h⟩
theorem Z6.close{m cf m2 cs:Nat}{lf:List (Ent Int YA)}{ls:List (Ent Sec Bool)}{qv:Value}(hf:DF s lf cf ls cs)(hk:kv.oneCell'=true)(h:Rel B w [O1 p P5 (dcs m qv m2 s kv),W9 m lf cf,Y3 R4 qv s.queue,W9 m2 ls cs]):Rel B w [Z6 p s kv]:=by
 have h:=Rel.kR (σ:=[]) h
 exact h.imp (i:=0) (e:=Z6 p s kv) rfl fun B hB=>⟨(((m,lf,cf),(m2,ls,cs)),qv),⟨hf,hk⟩,hB⟩
theorem Z6.jP(h:Z6 p s kv B):∃m lf cf m2 ls cs qv,DF s lf cf ls cs∧O1 p P5 (dcs m qv m2 s kv) B∧W9 m lf cf B∧Y3 R4 qv s.queue B∧W9 m2 ls cs B:=by
 obtain⟨x,⟨h1,h2⟩,h3⟩:=h
 exact⟨_,_,_,_,_,_,_,h1,Dat.star.left h3,Dat.star.left (Dat.star.right h3),Dat.star.left (Dat.star.right (Dat.star.right h3)),Dat.star.left (Dat.star.right (Dat.star.right (Dat.star.right h3)))⟩
theorem Z6.ok(h:Z6 p s kv B):DOk s∧kv.oneCell'=true:=by
 obtain⟨x,⟨h1,h2⟩,h3⟩:=h
 exact⟨h1.ok,h2⟩
theorem zz0{m m2:Nat}{qv:Value}(hc:O1 p P5 (dcs m qv m2 s kv) B)(f:Int):Gives prog B (Z0 iJ #[ptr p,.int .i64 f]) (.int .i64 (CV s f)):=by
 refine Gives.intro fun B' w K base h k=>?_
 replace hc:=base hc
 refine uP.up ?_
 unfold uP.pt
 unfold CV at k
 simp -zeta only[J5,U0 PT,Nat.zero_add,O1.ld (h.L6 hc) AB (o:=4) rfl]
 rw[R5]
 refine⟨fun e=>?_,fun e=>?_⟩
 ·rw[if_pos e] at k;exact k _ _ h
 ·rw[if_neg (by rw[e];decide)] at k
  simp -zeta only[G6,FC,K3]
  refine⟨fun h1=>?_,fun h1=>⟨fun h2=>?_,fun h2=>?_⟩⟩
  ·rw[if_pos h1] at k;exact k _ _ h
  ·rw[if_neg h1,if_pos h2] at k;exact k _ _ h
  ·rw[if_neg h1,if_neg h2] at k;exact k _ _ h
theorem Ba0{lf:List (Ent Int YA)}{cf:Nat}{ls:List (Ent Sec Bool)}{cs m:Nat}(hF:DF s lf cf ls cs)(h:(W9 m lf cf).here w)(f:Int){Kp:Value→Prop}:Y0 prog (XJ O6 (oO m) (.int .i64 f) false) w Kp=Kp (.agg #[.string (s.fs f).now,.string (s.fs f).last]) :=
 W9.look (x:=f) h IB Av0 F0 gQ rfl (by rw[←hF.files];rfl)
theorem wp0(hd:Z6 p s kv B)(f at_ size:Int):Gives prog B (Z0 KH #[ptr p,.int .i64 f,.int .i64 at_,.int .i64 size]) (.tuple #[.string (LD s f at_ size).1,.int .i64 (LD s f at_ size).2]):=by
 refine Gives.intro fun B' w K base h k=>?_
 obtain⟨m,lf,cf,m2,ls,cs,qv,hF,hc,hm,hq,hs⟩:=Z6.jP (base hd)
 refine XN.up ?_
 unfold XN.pt
 unfold LD at k
 refine h.ask (fun B2 own base2=>zz0 (base2 hc) f) fun w1 h=>?_
 simp -zeta only[Q7,G5,K3]
 refine⟨fun e0=>?_,fun e0=>?_⟩
 rotate_left
 ·rw[if_pos e0] at k;exact k _ _ h
 rw[if_neg (by simpa using e0)] at k
 simp -zeta only[G6,K3]
 refine⟨fun e1=>?_,fun e1=>⟨fun e2=>?_,fun e2=>?_⟩⟩
 ·rw[if_pos e1] at k;exact k _ _ h
 ·rw[if_neg e1,if_pos e2] at k;exact k _ _ h
 rw[if_neg e1,if_neg e2] at k
 have hsz:=hF.ok.now f
 have hb:=B_ (s.fs f).now
 simp -zeta only[J5,U0 VG,Nat.add_zero,O1.ld (h.L6 hc) b_ (o:=0) rfl,Ba0 hF (h.L6 hm),En0 (cs:=#[.string (s.fs f).now,.string (s.fs f).last]) (v := .string (s.fs f).now) YX rfl,aK K8,YK]
 have e3:min at_ ((bl (s.fs f).now).length:Int)=((min at_.toNat (bl (s.fs f).now).length:Nat):Int):=by omega
 rw[e3,qR K8 (lo:=min at_.toNat (bl (s.fs f).now).length) (hi:=(s.fs f).now.size) Bnd.some Bnd.none (by omega) (Nat.le_refl _)]
 have e4:(bl (s.fs f).now).take (s.fs f).now.size=bl (s.fs f).now:=by rw[←hb,List.take_length]
 rw[e4]
 have e5:(bl (s.fs f).now).drop (min at_.toNat (bl (s.fs f).now).length)=(bl (s.fs f).now).drop at_.toNat:=by
  rcases Nat.le_total at_.toNat (bl (s.fs f).now).length with h | h
  ·rw[Nat.min_eq_left h]
  ·rw[Nat.min_eq_right h,List.drop_length,List.drop_of_length_le h]
 rw[e5]
 generalize hr:(bl (s.fs f).now).drop at_.toNat=r at k ⊢
 simp -zeta only[aK K8,YK]
 have e6:min size ((bl (ofL r)).length:Int)=((min size.toNat r.length:Nat):Int):=by
  show min size (r.length:Int)=_
  omega
 rw[e6,qR K8 (lo:=0) (hi:=min size.toNat r.length) Bnd.none Bnd.some (Nat.zero_le _) (by show _≤r.length;omega)]
 have e7:ofL (((bl (ofL r)).take (min size.toNat r.length)).drop 0)=ofL (r.take size.toNat):=by
  show ofL ((r.take (min size.toNat r.length)).drop 0)=_
  rw[List.drop_zero]
  have:r.take (min size.toNat r.length)=r.take size.toNat:=by
   rcases Nat.le_total size.toNat r.length with h | h
   ·rw[Nat.min_eq_left h]
   ·rw[Nat.min_eq_right h,List.take_length,List.take_of_length_le h]
  rw[this]
 rw[e7]
 exact k _ _ h
theorem qy0:Does prog B (Z6 p s kv) (Z0 LH #[ptr p]) fun v e' τ=>v = .bool (KX s)∧e'=Z6 p (vF s) kv∧τ=[]:=by
 refine Does.intro fun B' w K base h k=>?_
 obtain⟨m,lf,cf,m2,ls,cs,qv,hF,hk,h⟩:=Z6.open_ h
 refine ZN.up ?_
 unfold ZN.pt
 have hok:=hF.ok.armed
 simp -zeta only[J5,U0 PT,U0 SX,Nat.zero_add,h.ld 0 rfl AB (o:=4) rfl,h.ld 0 rfl Y2 (o:=5) rfl]
 rw[R5]
 have same:KX s=false→vF s=s→K (.bool false) w:=fun e1 e2=>by
  refine k _ _ [] _ ⟨by rw[e1],rfl,rfl⟩ ?_
  rw[e2]
  exact Z6.close hF hk h
 refine⟨fun e=>same (by unfold KX;rw[e];rfl) (by unfold vF;rw[if_pos (.inl e)]),fun e=>?_⟩
 simp -zeta only[F7,K3]
 refine⟨fun e1=>same (by unfold KX;rw[decide_eq_true e1];simp) (by unfold vF;rw[if_pos (.inr e1)]),fun e1=>?_⟩
 clear same
 rw[TB,E5 (by omega) (by omega)]
 refine h.st 0 rfl Y2 (show 5<7 by omega) rfl fun w1 h=>?_
 simp -zeta only[h.ld 0 rfl Y2 (o:=5) rfl,F7]
 have e2:vF s={ s with armed:=s.armed-1 }:=by unfold vF;rw[if_neg (by rw[e];simpa using e1)]
 have e3:KX s=decide (s.armed-1=0):=by unfold KX;rw[e,decide_eq_false e1];rfl
 have hF':DF (vF s) lf cf ls cs:=⟨hF.wf,by rw[e2];exact hF.files,hF.ws,by rw[e2];exact hF.set_,hF.ok.ends⟩
 refine k _ _ [] _ ⟨by rw[e3],rfl,rfl⟩ ?_
 have h:Rel B' w1 [O1 p P5 (dcs m qv m2 (vF s) kv),W9 m lf cf,Y3 R4 qv (vF s).queue,W9 m2 ls cs]:=by rw[e2];exact h
 exact Z6.close hF' hk h
theorem Ru0{m c:Nat}{l:List (Ent Sec Bool)}(hw:WfE l c){fv:Value}(p:Sec→Bool)(hf:∀B':Base,(∀{d:Dat},d B→d B')→∀e∈l,Gives prog B' (dA fv #[Enc.val e.1,Enc.val e.2.1]) (.bool (p e.1))) :
  Does prog B (W9 m l c) (Z0 N9 #[oO m,fv]) fun v e' τ=>v = .tuple #[]∧e'=W9 m (l.filter fun e=>!p e.1) c∧τ=[]:=by
 refine Does.intro fun B' w K base h k=>?_
 refine O8.up ?_
 unfold O8.pt
 refine h.range 0 rfl NE fun it w1 h=>?_
 have e0:(l.filter fun e=>!((#[]:Array Nat).contains e.2.2&&p e.1))=l:=List.filter_eq_self.2 fun e _=>by simp
 refine F6 (fun _ w'=>∃seen:Array Nat,Rel B' w' [W9 m (l.filter fun e=>!(seen.contains e.2.2&&p e.1)) c,nW it m c seen c]) (fun _ w'=>dJ l (iN w' it)) ⟨#[],by rw[e0];exact h⟩ ?_
 clear h
 rintro x w2 ⟨seen,h⟩ next hnext
 have hms:=xN h (j:=1) rfl
 have hwf:=hw.filter fun e=>!(seen.contains e.2.2&&p e.1)
 refine h.next 0 1 it rfl rfl hwf.below (fun w3 hall h=>?_) (fun e w3 he hns h=>?_)
 ·rw[show (U5 (.tuple #[.bool false]) 0)=(U5 (.tuple #[.bool false]) 0) from rfl,F5 (v := .bool false) (fun w=>rfl),d_]
  have e1:(l.filter fun e=>!(seen.contains e.2.2&&p e.1))=l.filter fun e=>!p e.1:=by
   refine List.filter_congr fun e he=>?_
   cases hb:!(seen.contains e.2.2&&p e.1) with
   | true =>
    have:=hall e (List.mem_filter.2 ⟨he,hb⟩)
    rw[this] at hb
    simpa using hb.symm
   | false =>
    simp at hb
    rw[hb.2];rfl
  rw[e1] at h
  exact k _ _ [] _ ⟨rfl,rfl,rfl⟩ (h.take 1)
 ·have hel:e∈l:=(List.mem_filter.1 he).1
  rw[UU,lC]
  refine h.entry 0 1 it rfl rfl he hwf.stamps fun w4 h=>?_
  rw[M9,D9]
  refine h.R8 (ds:=e.1.cs.toArray) PP rfl J9 rfl (fun v hv=>Enc.one e.1 v hv) fun b w5 h=>?_
  simp -zeta only[h.r9 2 rfl J9 rfl]
  refine h.ask (fun B2 own base2=>hf B2 (fun hd=>base2 (base hd)) e hel) fun w6 h=>?_
  have step:∀x∈l,x≠e→(seen.push e.2.2).contains x.2.2=seen.contains x.2.2:=fun x hx hne=>by
   rw[contains_push,decide_eq_false fun hh=>hne (hw.UV hx hel hh),Bool.or_false]
  have hself:(seen.push e.2.2).contains e.2.2=true:=by simp [contains_push]
  rw[R5]
  refine⟨fun hp=>?_,fun hp=>?_⟩
  ·simp -zeta only[h.r9 2 rfl J9 rfl]
   refine h.delete 0 rfl NE YF0 e.1 fun w7 h=>?_
   have e2:Sp0 e.1 (l.filter fun e=>!(seen.contains e.2.2&&p e.1))=l.filter fun x=>!((seen.push e.2.2).contains x.2.2&&p x.1):=by
    rw[Ms0 hwf.keys,List.filter_filter]
    refine List.filter_congr fun x hx=>?_
    by_cases hxe:x=e
    ·subst hxe;rw[hself,hp];simp
    ·rw[step x hx hxe,decide_eq_true (p:=x.1≠e.1) (fun hh=>hxe (hw.Li0 hx hel hh)),Bool.true_and]
   rw[e2] at h
   have h:=h.take 2
   refine hnext _ _ ⟨_,h⟩ ?_
   show dJ l (iN w7 it)<dJ l (iN w2 it)
   rw[hms,xN h (j:=1) rfl]
   exact eQ hel hns
  ·have e2:(l.filter fun e=>!(seen.contains e.2.2&&p e.1))=l.filter fun x=>!((seen.push e.2.2).contains x.2.2&&p x.1):=by
    refine List.filter_congr fun x hx=>?_
    by_cases hxe:x=e
    ·subst hxe;rw[hself,hp];simp
    ·rw[step x hx hxe]
   have h:=h.take 2
   rw[e2] at h
   refine hnext _ _ ⟨_,h⟩ ?_
   show dJ l (iN w6 it)<dJ l (iN w2 it)
   rw[hms,xN h (j:=1) rfl]
   exact eQ hel hns
end
section
variable {B:Base} {w:World} {p:Nat} {s:DS} {kv:Value}
theorem yw0{b:Nat}{f:Int}(hc:O1 b Q0 #[.int .i64 f] B)(x:Sec):Gives prog B (dA (.func (.func zD) #[] #[ptr b]) #[Enc.val x]) (.bool (decide (x.file=f))):=by
 refine Gives.intro fun B' w K base h k=>?_
 replace hc:=base hc
 refine YH ?_
 refine EA.up (p0:=x.v) (t1:=ptr b) (EA.call ?_)
 unfold EA.pt
 refine h.box fun b2 w1 h=>?_
 have h:Rel B' w1 [O1 b2 R4 x.cs.toArray]:=h
 simp -zeta only[U0 tQ,Nat.add_zero,h.ld 0 rfl Y2 (o:=0) rfl,O1.ld (h.L6 hc) Y2 (o:=0) rfl,F7]
 exact k _ _ h
theorem zw0{b:Nat}{f:Int}(hc:O1 b Q0 #[.int .i64 f] B)(x:Sec)(y:Bool):Gives prog B (dA (.func (.func BD) #[] #[ptr b]) #[Enc.val x,Enc.val y]) (.bool (decide (x.file=f))):=by
 refine Gives.intro fun B' w K base h k=>?_
 replace hc:=base hc
 refine YH ?_
 refine GA.up (p0:=x.v) (t1 := .bool y) (t2:=ptr b) (GA.call ?_)
 unfold GA.pt
 refine h.box fun b2 w1 h=>?_
 have h:Rel B' w1 [O1 b2 R4 x.cs.toArray]:=h
 simp -zeta only[U0 tQ,Nat.add_zero,h.ld 0 rfl Y2 (o:=0) rfl,O1.ld (h.L6 hc) Y2 (o:=0) rfl,F7]
 exact k _ _ h
theorem TA0(f:Int){x:ByteArray}(hx:x.size≤16777216):Does prog B (Z6 p s kv) (Z0 TM #[ptr p,.int .i64 f,.string x]) fun v e' τ=>v = .tuple #[]∧e'=Z6 p (OM s f x) kv∧τ=[]:=by
 refine Does.intro fun B' w K base h k=>?_
 obtain⟨m,lf,cf,m2,ls,cs,qv,hF,hk,h⟩:=Z6.open_ h
 have hql:=hF.ok.oG0
 refine ZK.up ?_
 unfold ZK.pt
 refine h.box fun b w1 h=>?_
 have h:Rel B' w1 [O1 p P5 (dcs m qv m2 s kv),W9 m lf cf,Y3 R4 qv s.queue,W9 m2 ls cs,O1 b Q0 #[.int .i64 f]]:=h
 have h:=h.tick
 simp -zeta only[J5,U0 VG,Nat.add_zero,h.ld 0 rfl b_ (o:=0) rfl,h.ld 4 rfl Y2 (o:=0) rfl,fU]
 refine h.Yf0 1 rfl IB Av0 f (⟨x,x⟩:YA) fun w2 h=>?_
 simp -zeta only[U0 wP,U0 OT,Nat.zero_add,h.ld 0 rfl nD (o:=1) rfl,TI]
 refine h.act 2 rfl (fun B2 own base2=>aI (by omega) (fun q=>decide (q.file=f)) fun B3 base3 q hq=>yw0 (base3 (own (j:=4) (by decide) rfl)) q) fun qv' e' τ w3 hp h=>?_
 obtain⟨rfl,rfl⟩:=hp
 have h1:qv'.oneCell'=true:=h.oneCell (i:=2) rfl
 refine h.st 0 rfl nD (show 1<7 by omega) h1 fun w4 h=>?_
 simp -zeta only[h.ld 0 rfl jB (o:=2) rfl]
 refine h.act 3 rfl (fun B2 own base2=>Ru0 hF.ws (fun q=>decide (q.file=f)) fun B3 base3 e he=>zw0 (base3 (own (j:=4) (by decide) rfl)) e.1 e.2.1) fun v e' τ w5 hp h=>?_
 obtain⟨rfl,rfl,rfl⟩:=hp
 have h:=h.take 4
 have hF':DF (OM s f x) (WL f (⟨x,x⟩:YA) lf cf).1 (WL f (⟨x,x⟩:YA) lf cf).2 (ls.filter fun e=>!decide (e.1.file=f)) cs:=by
  refine⟨hF.wf.set _ _,fun g=>?_,hF.ws.filter _,fun q=>?_,hF.ok.settle f hx⟩
  ·rw[xU hF.wf.keys]
   show upd s.fs f _ g=_
   unfold upd
   split
   ·rfl
   ·exact hF.files g
  ·rw[of0 hF.ws (fun q:Sec=>!decide (q.file=f))]
   show _=decide (q∈s.queue.filter fun q=>!decide (q.file=f))
   by_cases e:q.file=f
   ·rw[if_neg (by simp [e])]
    simp [List.mem_filter,e]
   ·rw[if_pos (by simp [e]),hF.set_ q]
    simp [List.mem_filter,e]
 exact k _ _ [] _ ⟨rfl,rfl,rfl⟩ (Z6.close hF' hk h)
theorem Jk0{x:Sec}{z:Bool}{l:List (Ent Sec Bool)}{c:Nat}:∃e∈(dI x z l c).1,e.2.2=(dI x z l c).2.2.1:=by
 unfold dI
 cases hf:QC x l 0 with
 | none=>exact⟨(x,z,c),List.mem_append_right _ (by simp),rfl⟩
 | some q =>
  obtain⟨h1,_,_⟩:=lD (i:=q.1) (v:=q.2) hf
  refine⟨l[q.1],List.getElem_mem h1,?_⟩
  show _=((l[q.1]?).map (·.2.2)).getD 0
  rw[List.getElem?_eq_getElem h1]
  rfl
theorem ru0{f:Int}{q:List Sec}{ns:List Nat}{j:Nat}(hj:j<ns.length):JU f q (ns.take (j+1))=ti0 f (JU f q (ns.take j)) ns[j]:=by
 unfold JU
 rw[List.take_succ_eq_append_getElem hj,List.foldl_append]
 rfl
theorem KA0{at_ n j:Nat}(hj:j<(secs at_ n).length):(secs at_ n)[j]=at_ / 64+j:=by simp [secs]
theorem LA0(at_ n:Nat):(secs at_ n).length=(at_+n-1) / 64+1-at_ / 64:=by simp [secs]
theorem sE0(f at_:Int){t:ByteArray}(ht:t.size≤9223372036854775807):Does prog B (Z6 p s kv) (Z0 GN #[ptr p,.int .i64 f,.int .i64 at_,.string t]) fun v e' τ=>v = .int .i64 (ZL s f at_ t)∧e'=Z6 p (fG s f at_ t) kv∧τ=[]:=by
 refine Does.intro fun B' w K base h k=>?_
 obtain⟨m,lf,cf,m2,ls,cs,qv,hF,hk,h⟩:=Z6.open_ h
 refine JM.up ?_
 unfold JM.pt
 have no:∀e w' ,ZL s f at_ t=e→e≠0→Rel B' w' [O1 p P5 (dcs m qv m2 s kv),W9 m lf cf,Y3 R4 qv s.queue,W9 m2 ls cs]→K (.int .i64 e) w':=by
  intro e w' he hne h
  refine k _ _ [] _ ⟨by rw[he],rfl,rfl⟩ ?_
  have:fG s f at_ t=s:=by unfold fG;rw[if_neg (by rw[he];exact hne)]
  rw[this]
  exact Z6.close hF hk h
 refine h.ask (fun B2 own base2=>zz0 (own (i:=0) rfl) f) fun w1 h=>?_
 simp -zeta only[Q7,G5,K3]
 refine⟨fun e0=>?_,fun e0=>no _ _ (by unfold ZL;rw[if_pos e0]) e0 h⟩
 have e0':¬CV s f≠0:=by simpa using e0
 simp -zeta only[G6,x9,K3]
 refine⟨fun e1=>no _ _ (by unfold ZL;rw[if_neg e0',if_pos e1]) (by decide) h,fun e1=>⟨fun e2=>no _ _ (by unfold ZL;rw[if_neg e0',if_neg e1,if_pos e2]) (by decide) h,fun e2=>?_⟩⟩
 have hbt:=B_ t
 have hw:IntKind.i64.wrap (16777216-at_)=16777216-at_:=E5 (by omega) (by omega)
 simp -zeta only[aK K8,TB,hw,x9,K3]
 refine⟨fun e3=>no _ _ (by unfold ZL;rw[if_neg e0',if_neg e1,if_neg e2,if_pos (by omega)]) (by decide) h,fun e3=>?_⟩
 have hE:ZL s f at_ t=0:=ed0.2 ⟨by simpa using e0,by omega,by omega⟩
 have hW:fG s f at_ t=KJ s f at_.toNat t:=by unfold fG;rw[if_pos hE]
 rw[hE,hW] at k
 obtain⟨a,rfl⟩:∃a:Nat,at_=a:=⟨at_.toNat,by omega⟩
 have hat:(a:Int).toNat=a:=by omega
 rw[hat] at k
 clear no
 rw[WW,K3]
 refine⟨fun e4=>k _ _ [] _ ⟨rfl,rfl,rfl⟩ (by unfold KJ;rw[if_pos e4];exact Z6.close hF hk h),fun e4=>?_⟩
 have hpos:=size_pos e4
 have hnow:=hF.ok.now f
 simp -zeta only[J5,U0 VG,Nat.add_zero,h.ld 0 rfl b_ (o:=0) rfl,Ba0 hF (h.here (i:=1) rfl)]
 refine h.R8 (ds:=(s.fs f).cs.toArray) gQ rfl TN rfl (fun v hv=>Enc.one (s.fs f) v hv) fun x w2 h=>?_
 simp -zeta only[U0 UX,Nat.add_zero,h.ld 4 rfl U6 (o:=0) rfl]
 refine h.ask (fun B2 own base2=>QE0 (s:=(s.fs f).now) (t:=t) (at_:=a) (by omega) (by omega) (by omega)) fun w3 h=>?_
 refine h.st 4 rfl U6 (show 0<2 by omega) rfl fun w4 h=>?_
 have h:=h.tick
 simp -zeta only[h.ld 0 rfl b_ (o:=0) rfl,h.r9 4 rfl TN rfl]
 refine h.Yf0 1 rfl IB Av0 f (⟨JO (s.fs f).now a t,(s.fs f).last⟩:YA) fun w5 h=>?_
 have hq1:IntKind.i64.wrap ((a:Int).tdiv 64)=((a / 64:Nat):Int):=by
  rw[Int.tdiv_eq_ediv_of_nonneg (by omega),E5 (by omega) (by omega)];omega
 simp -zeta only[bs0 (show (64:Int)≠0 by decide),hq1]
 have h:=h.take 4
 have hadd:=hF.ok.add (f:=f) (qU.1 e0).2 (at_:=a) (t:=t) (by omega)
 have hA:KJ s f a t={ s with fs:=upd s.fs f ⟨JO (s.fs f).now a t,(s.fs f).last⟩,queue:=JU f s.queue (secs a t.size) }:=by unfold KJ;rw[if_neg e4]
 generalize hlf:WL f (⟨JO (s.fs f).now a t,(s.fs f).last⟩:YA) lf cf=lfc at h
 obtain⟨lf',cf'⟩:=lfc
 have hwf':WfE lf' cf':=by have:=hF.wf.set f (⟨JO (s.fs f).now a t,(s.fs f).last⟩:YA);rw[hlf] at this;exact this
 have hfiles:∀g,(KJ s f a t).fs g=(SF g lf').getD F0:=by
  intro g
  have e:lf'=(WL f (⟨JO (s.fs f).now a t,(s.fs f).last⟩:YA) lf cf).1:=by rw[hlf]
  rw[hA,e,xU hF.wf.keys]
  show upd s.fs f _ g=_
  unfold upd
  split
  ·rfl
  ·exact hF.files g
 have hsl:=LA0 a t.size
 have hqn:∀j,(JU f s.queue ((secs a t.size).take j)).length≤s.queue.length+j:=by
  intro j
  have:∀(ns:List Nat) (q:List Sec),(JU f q ns).length≤q.length+ns.length:=by
   intro ns
   induction ns with
   | nil=>intro q;exact Nat.le_refl _
   | cons n ns ih =>
    intro q
    unfold JU at ih ⊢
    rw[List.foldl_cons]
    refine Nat.le_trans (ih _) ?_
    unfold ti0
    split
    ·simp only[List.length_cons];omega
    ·simp only[List.length_append,List.length_cons,List.length_nil];omega
  refine Nat.le_trans (this _ _) ?_
  rw[List.length_take]
  omega
 have hql:=hF.ok.oG0
 refine F6 (fun x w'=>∃(j:Nat) (qv:Value) (ls:List (Ent Sec Bool)) (cs:Nat),j≤(secs a t.size).length∧x=(.int .i64 ((a / 64+j:Nat):Int),())∧WfE ls cs∧(∀q,(SF q ls).getD false=decide (q∈JU f s.queue ((secs a t.size).take j))) ∧
   Rel B' w' [O1 p P5 (dcs m qv m2 s kv),W9 m lf' cf',Y3 R4 qv (JU f s.queue ((secs a t.size).take j)),W9 m2 ls cs]) (fun x _=>a / 64+(secs a t.size).length-(match x.1 with | .int _ n=>n.toNat | _=>0))
  ⟨0,qv,ls,cs,Nat.zero_le _,rfl,hF.ws,hF.set_,h⟩ ?_
 clear h
 rintro x2 w6 ⟨j,qv,ls,cs,hj,rfl,hws,hset,h⟩ next hnext
 have hqj:=hqn j
 have hw1:IntKind.i64.wrap ((a:Int)+((bl t).length:Int))=((a+(bl t).length:Nat):Int):=by rw[E5 (by omega) (by omega)];omega
 have hw2:IntKind.i64.wrap (((a+(bl t).length:Nat):Int)-1)=((a+(bl t).length-1:Nat):Int):=by rw[E5 (by omega) (by omega)];omega
 have hw3:IntKind.i64.wrap (((a+(bl t).length-1:Nat):Int).tdiv 64)=(((a+(bl t).length-1) / 64:Nat):Int):=by
  rw[Int.tdiv_eq_ediv_of_nonneg (by omega),E5 (by omega) (by omega)];omega
 simp -zeta only[Z5,hw1,TB,hw2,bs0 (show (64:Int)≠0 by decide),hw3,WC,K3]
 refine⟨fun hle=>?_,fun hgt=>?_⟩
 ·have hjl:j<(secs a t.size).length:=by omega
  have hsg:=KA0 hjl
  refine P6 fun J hJ=>?_
  replace hJ:∀(qv:Value) (ls:List (Ent Sec Bool)) (cs:Nat) w',WfE ls cs→(∀q,(SF q ls).getD false=decide (q∈JU f s.queue ((secs a t.size).take (j+1)))) →
    Rel B' w' [O1 p P5 (dcs m qv m2 s kv),W9 m lf' cf',Y3 R4 qv (JU f s.queue ((secs a t.size).take (j+1))),W9 m2 ls cs]→J () w':=by
   intro qv ls cs w' h1 h2 h
   refine hJ _ _ ?_
   rw[E5 (by omega) (by omega)]
   exact hnext _ _ ⟨j+1,qv,ls,cs,hjl,by rw[show ((a / 64+j:Nat):Int)+1=((a / 64+(j+1):Nat):Int) by omega],h1,h2,h⟩ (by simp only;omega)
  clear hnext
  rw[rY]
  refine h.R8 (ds:=(⟨f,((a / 64+j:Nat):Int)⟩:Sec).cs.toArray) PP rfl J9 rfl (fun v hv=>Enc.one (⟨f,((a / 64+j:Nat):Int)⟩:Sec) v hv) fun b w7 h=>?_
  have h:=h.tick
  simp -zeta only[J5,U0 OT,Nat.zero_add,h.ld 0 rfl jB (o:=2) rfl,h.r9 4 rfl J9 rfl,
   h.lookup 3 rfl NE YF0 false IB0 (⟨f,((a / 64+j:Nat):Int)⟩:Sec) (xv := .agg (⟨f,((a / 64+j:Nat):Int)⟩:Sec).cs.toArray) (yv := .bool ((SF (⟨f,((a / 64+j:Nat):Int)⟩:Sec) ls).getD false)),hset,V7,G5,K3]
  have hs1:=ru0 (f:=f) (q:=s.queue) hjl
  rw[hsg] at hs1
  unfold ti0 at hs1
  refine⟨fun hin=>?_,fun hin=>?_⟩
  ·rw[if_pos hin] at hs1
   rw[hs1] at hJ
   exact hJ qv ls cs _ hws hset (h.take 4)
  ·rw[if_neg hin] at hs1
   have h:=h.tick
   simp -zeta only[U0 wP,Nat.zero_add,h.ld 0 rfl jB (o:=2) rfl,h.r9 4 rfl J9 rfl,h.ld 0 rfl nD (o:=1) rfl]
   refine h.XH (⟨f,((a / 64+j:Nat):Int)⟩:Sec) jA (by decide) fun tv w8 h=>?_
   refine⟨h.is 0 rfl nD (o:=1) rfl,h.bV 4 rfl J9 rfl,h.is 0 rfl jB (o:=2) rfl,?_⟩
   refine h.append 2 rfl jA (l2:=[(⟨f,((a / 64+j:Nat):Int)⟩:Sec)]) (Rd.at 5 (E:=R4) rfl) (by simp;omega) (by simp;omega) fun qv' w9 h=>?_
   refine⟨h.bV 4 rfl J9 rfl,h.is 0 rfl jB (o:=2) rfl,?_⟩
   have h1:qv'.oneCell'=true:=h.oneCell (i:=2) rfl
   refine h.st 0 rfl nD (show 1<7 by omega) h1 fun w10 h=>?_
   refine⟨h.bV 4 rfl J9 rfl,?_⟩
   refine h.mapEntry 3 rfl NE YF0 false IB0 (⟨f,((a / 64+j:Nat):Int)⟩:Sec) fun w11 h=>?_
   rw[D9]
   refine h.entryStore 3 rfl Jk0 true fun w12 h=>?_
   obtain⟨es1,es2⟩:=qc0 (x:=(⟨f,((a / 64+j:Nat):Int)⟩:Sec)) (y:=true) (z:=false) hws
   rw[es1,es2] at h
   have h:=h.take 4
   rw[hs1] at hJ
   refine hJ qv' _ _ _ (hws.set _ _) (fun q=>?_) h
   rw[xU hws.keys]
   by_cases e:q=⟨f,((a / 64+j:Nat):Int)⟩
   ·rw[if_pos e]
    subst e
    simp
   ·rw[if_neg e,hset q]
    exact decide_eq_decide.2 ⟨fun h=>List.mem_append_left _ h,fun h=>(List.mem_append.1 h).elim id fun h=>absurd (List.mem_singleton.1 h) e⟩
 ·have hjl:j=(secs a t.size).length:=by omega
  subst hjl
  rw[List.take_length] at h hset
  refine k _ _ [] _ ⟨rfl,rfl,rfl⟩ ?_
  have hF':DF (KJ s f a t) lf' cf' ls cs:=⟨hwf',hfiles,hws,by rw[hA];exact hset,hadd⟩
  refine Z6.close (m:=m) (m2:=m2) (qv:=qv) hF' hk ?_
  rw[hA]
  exact h
def yQ(l:List (Ent Int YA))(seen:Array Nat):List (Ent Int YA):=l.map fun e=>if seen.contains e.2.2=true then(e.1,(⟨e.2.1.last,e.2.1.last⟩:YA),e.2.2) else e
theorem aq0(l:List (Ent Int YA))(seen:Array Nat):(yQ l seen).map (·.1)=l.map (·.1):=by
 unfold yQ
 rw[List.map_map]
 refine List.map_congr_left fun e _=>?_
 simp only[Function.comp_apply]
 split<;>rfl
theorem PU(l:List (Ent Int YA))(seen:Array Nat):(yQ l seen).map (·.2.2)=l.map (·.2.2):=by
 unfold yQ
 rw[List.map_map]
 refine List.map_congr_left fun e _=>?_
 simp only[Function.comp_apply]
 split<;>rfl
theorem fy0{l:List (Ent Int YA)}{c:Nat}(h:WfE l c)(seen:Array Nat):WfE (yQ l seen) c:=by
 refine⟨by rw[aq0];exact h.keys,by rw[PU];exact h.stamps,fun e he=>?_⟩
 have hm:e.2.2∈(yQ l seen).map (·.2.2):=List.mem_map_of_mem he
 rw[PU] at hm
 obtain⟨e',he',h1⟩:=List.mem_map.1 hm
 rw[←h1]
 exact h.below e' he'
theorem Wu0(l:List (Ent Int YA)):yQ l #[]=l:=by
 unfold yQ
 have:(fun e:Ent Int YA=>if(#[]:Array Nat).contains e.2.2=true then(e.1,(⟨e.2.1.last,e.2.1.last⟩:YA),e.2.2) else e)=id:=by
  funext e
  simp
 rw[this,List.map_id]
theorem gv0{l:List (Ent Int YA)}(g:YA→YA)(x:Int):SF x (l.map fun e=>(e.1,g e.2.1,e.2.2))=(SF x l).map g:=by
 induction l with
 | nil=>rfl
 | cons e l ih =>
  unfold SF at ih ⊢
  simp only[List.map_cons,QC]
  by_cases h:x=e.1
  ·rw[if_pos h,if_pos h];rfl
  ·rw[if_neg h,if_neg h,oN x (List.map _ l),oN x l,Option.map_map,Option.map_map,Option.map_map]
   have:=ih
   rw[Option.map_map] at this
   exact this
theorem ZB0(a:Int):IntKind.wrap .i64 (BitVec.ofInt IntKind.i64.bits a &&& BitVec.ofInt IntKind.i64.bits 1).toNat=a % 2:=lF0 1 (by omega) a 1 rfl
theorem Es0{v:Value}{keep:List Int}(r:O4 v keep B)(hkl:keep.length≤9223372036854775807):Does prog B (Z6 p s kv) (Z0 lG #[ptr p,v]) fun u e' τ=>u = .tuple #[]∧e'=Z6 p (SL s keep) kv∧τ=[]:=by
 refine Does.intro fun B' w K base h k=>?_
 replace r:=base r
 obtain⟨m,lf,cf,m2,ls,cs,qv,hF,hk,h⟩:=Z6.open_ h
 have hql:=hF.ok.oG0
 refine GM.up ?_
 unfold GM.pt
 simp -zeta only[J5,U0 PT,Nat.zero_add,h.ld 0 rfl AB (o:=4) rfl]
 rw[R5]
 refine⟨fun e=>k _ _ [] _ ⟨rfl,rfl,rfl⟩ (by unfold SL;rw[if_pos e];exact Z6.close hF hk h),fun e=>?_⟩
 refine h.st 0 rfl AB (show 4<7 by omega) rfl fun w1 h=>?_
 simp -zeta only[U0 SX,U0 wP,Nat.zero_add]
 refine h.st 0 rfl Y2 (show 5<7 by omega) rfl fun w2 h=>?_
 have hqr:=Y3.read (h.here (i:=2) rfl)
 simp -zeta only[h.ld 0 rfl nD (o:=1) rfl,O4.len hqr jA]
 clear hqr
 have h:Rel B' w2 [O1 p P5 #[oO m,qv,oO m2,.int .i64 s.lost,.bool true,.int .i64 0,kv],W9 m lf cf,Y3 R4 qv s.queue,W9 m2 ls cs]:=h
 refine F6 (fun x w'=>∃(i:Nat) (lf:List (Ent Int YA)) (cf:Nat),i≤s.queue.length∧x=(.int .i64 i,())∧WfE lf cf∧(∀f,FK keep s.queue s.fs i f=(SF f lf).getD F0) ∧
   Rel B' w' [O1 p P5 #[oO m,qv,oO m2,.int .i64 s.lost,.bool true,.int .i64 0,kv],W9 m lf cf,Y3 R4 qv s.queue,W9 m2 ls cs]) (fun x _=>s.queue.length-(match x.1 with | .int _ n=>n.toNat | _=>0))
  ⟨0,lf,cf,Nat.zero_le _,rfl,hF.wf,hF.files,h⟩ ?_
 clear h
 rintro x w3 ⟨i,lf,cf,hi,rfl,hwf,hfs,h⟩ next hnext
 obtain⟨hsn,hsl⟩:=fh0 (keep:=keep) (qs:=s.queue) hF.ok.now hF.ok.last i
 simp -zeta only[G6,K3]
 refine⟨fun hlt=>?_,fun hge=>?_⟩
 ·have hil:i<s.queue.length:=by omega
  have hgd:s.queue.getD i ⟨0,0⟩=s.queue[i]:=by rw[List.getD_eq_getElem?_getD,List.getElem?_eq_getElem hil];rfl
  have hqi:=hF.ok.q _ (List.getElem_mem hil)
  generalize hq:s.queue[i]=q at hqi hgd
  have hstep:FK keep s.queue s.fs (i+1)=yV keep i q (FK keep s.queue s.fs i):=by
   show yV keep i (s.queue.getD i ⟨0,0⟩) _=_
   rw[hgd]
  refine P6 fun J hJ=>?_
  replace hJ:∀(lf:List (Ent Int YA)) (cf:Nat) w',WfE lf cf→(∀f,FK keep s.queue s.fs (i+1) f=(SF f lf).getD F0) →
    Rel B' w' [O1 p P5 #[oO m,qv,oO m2,.int .i64 s.lost,.bool true,.int .i64 0,kv],W9 m lf cf,Y3 R4 qv s.queue,W9 m2 ls cs]→J () w':=by
   intro lf cf w' h1 h2 h
   refine hJ _ _ ?_
   rw[Z5,E5 (by omega) (by omega)]
   exact hnext _ _ ⟨i+1,lf,cf,hil,rfl,h1,h2,h⟩ (by simp only;omega)
  clear hnext
  have same:(yV keep i q (FK keep s.queue s.fs i)=FK keep s.queue s.fs i)→∀w' σ,Rel B' w' ([O1 p P5 #[oO m,qv,oO m2,.int .i64 s.lost,.bool true,.int .i64 0,kv],W9 m lf cf,Y3 R4 qv s.queue,W9 m2 ls cs]++σ)→J () w':=by
   intro e w' σ h
   exact hJ lf cf w' hwf (by rw[hstep,e];exact hfs) h.drop
  obtain⟨g,o,hx,hc⟩:=O4.idx (P:=prog) (Y3.read (h.here (i:=2) rfl)) jA hil
  rw[hq] at hc
  simp -zeta only[hx,K6.r9 hc J9 rfl]
  refine h.R8 (ds:=q.cs.toArray) PP rfl J9 rfl (fun v hv=>Enc.one q v hv) fun b w4 h=>?_
  have h:=h.tick
  have hlook:∀{w:World} (hm:(W9 m lf cf).here w) {Kp:Value→Prop},Y0 prog (XJ O6 (oO m) (.int .i64 q.file) false) w Kp=Kp (.agg #[.string (FK keep s.queue s.fs i q.file).now,.string (FK keep s.queue s.fs i q.file).last]) :=
   fun {w} hm {Kp}=>W9.look (x:=q.file) hm IB Av0 F0 gQ rfl (by rw[←hfs];rfl)
  have hw1:IntKind.i64.wrap (q.number * 64)=q.number * 64:=E5 (by omega) (by omega)
  simp -zeta only[J5,U0 VG,U0 tQ,U0 td0,Nat.add_zero,Nat.zero_add,h.ld 0 rfl b_ (o:=0) rfl,h.ld 4 rfl Y2 (o:=0) rfl,h.ld 4 rfl Y2 (o:=1) rfl,hlook (h.here (i:=1) rfl),as0,hw1]
  refine h.alloc gQ fun fb w5 h=>?_
  refine⟨h.is 4 rfl Y2 (o:=1) rfl,bz0 (hlook (h.here (i:=1) rfl)),h.is 4 rfl Y2 (o:=0) rfl,h.is 0 rfl b_ (o:=0) rfl,?_⟩
  generalize hfv:FK keep s.queue s.fs i q.file=fv at hlook
  have hfn:=hsn q.file
  have hfl:=hsl q.file
  rw[hfv] at hfn hfl
  have hnow:=hF.ok.now q.file
  rw[←hfn] at hnow
  refine h.YG 5 rfl TN (ds:=fv.cs.toArray) rfl rfl (fun v hv=>Enc.one fv v hv) fun w6 h=>?_
  refine⟨h.is 4 rfl Y2 (o:=1) rfl,?_⟩
  simp -zeta only[O4.len r N8,F7,K3]
  refine⟨fun e1=>same (by unfold yV;rw[if_pos (List.eq_nil_of_length_eq_zero (by omega))]) _ _ h,fun e1=>?_⟩
  have hk0:keep≠[]:=fun e=>e1 (by rw[e];rfl)
  have hkp:0<keep.length:=List.length_pos_iff.2 hk0
  have hmod:i % keep.length<keep.length:=Nat.mod_lt _ hkp
  have hrem:(i:Int).tmod (keep.length:Int)=((i % keep.length:Nat):Int):=by
   rw[Int.tmod_eq_emod_of_nonneg (by omega)]
   exact(Int.natCast_emod _ _).symm
  obtain⟨g2,o2,hx2,hc2⟩:=O4.idx r N8 (P:=prog) hmod
  have hkd:keep.getD (i % keep.length) 0=keep[i % keep.length]:=by rw[List.getD_eq_getElem?_getD,List.getElem?_eq_getElem hmod];rfl
  simp -zeta only[eC0 (show (keep.length:Int)≠0 by omega),hrem,hx2,K6.ld0 (h.L6 hc2) Y2 rfl,iZ,ZB0,F7,K3]
  refine⟨fun e2=>same (by unfold yV;rw[if_neg hk0,hkd,if_pos e2]) _ _ h,fun e2=>?_⟩
  have hbn:=B_ fv.now
  simp -zeta only[U0 UX,U0 VX,Nat.add_zero,Nat.zero_add,h.ld 5 rfl U6 (o:=0) rfl,aK K8,FC,K3]
  refine⟨fun e3=>same (by unfold yV;rw[if_neg hk0,hkd,if_neg e2,hfv,if_pos (by omega)]) _ _ h,fun e3=>?_⟩
  clear same
  have hS:yV keep i q (FK keep s.queue s.fs i)=upd (FK keep s.queue s.fs i) q.file ⟨fv.now,JO fv.last (64 * q.number.toNat) (uj0 fv.now (64 * q.number.toNat))⟩:=by
   unfold yV;rw[if_neg hk0,hkd,if_neg e2,hfv,if_neg (by omega)]
  have h:=h.tick
  have hw2:IntKind.i64.wrap (q.number * 64+64)=q.number * 64+64:=E5 (by omega) (by omega)
  have hmin:min (q.number * 64+64) ((bl fv.now).length:Int)=((min (64 * q.number.toNat+64) fv.now.size:Nat):Int):=by omega
  have hn64:q.number * 64=((64 * q.number.toNat:Nat):Int):=by omega
  simp -zeta only[h.ld 5 rfl U6 (o:=0) rfl,h.ld 5 rfl U6 (o:=1) rfl,aK K8,Z5,hw2,YK,hmin]
  rw[hn64,qR K8 (lo:=64 * q.number.toNat) (hi:=min (64 * q.number.toNat+64) fv.now.size) Bnd.some Bnd.some (by omega) (by omega)]
  have hps:=wg0 (now:=fv.now) (n:=64 * q.number.toNat)
  refine h.ask (fun B2 own base2=>QE0 (s:=fv.last) (t:=uj0 fv.now (64 * q.number.toNat)) (at_:=64 * q.number.toNat) (by omega) (by omega) (by omega)) fun w7 h=>?_
  refine h.st 5 rfl U6 (show 1<2 by omega) rfl fun w8 h=>?_
  have h:=h.tick
  simp -zeta only[h.ld 0 rfl b_ (o:=0) rfl,h.ld 4 rfl Y2 (o:=0) rfl,h.r9 5 rfl TN rfl]
  refine h.Yf0 1 rfl IB Av0 q.file (⟨fv.now,JO fv.last (64 * q.number.toNat) (uj0 fv.now (64 * q.number.toNat))⟩:YA) fun w9 h=>?_
  refine hJ _ _ _ (hwf.set _ _) (fun f=>?_) (h.take 4)
  rw[hstep,hS,xU hwf.keys]
  unfold upd
  split
  ·rfl
  ·exact hfs f
 ·have hie:i=s.queue.length:=by omega
  subst hie
  clear hnext
  simp -zeta only[J5,U0 VG,Nat.add_zero,h.ld 0 rfl b_ (o:=0) rfl]
  refine h.range 1 rfl IB fun it w4 h=>?_
  refine F6 (fun _ w'=>∃seen:Array Nat,Rel B' w' [O1 p P5 #[oO m,qv,oO m2,.int .i64 s.lost,.bool true,.int .i64 0,kv],W9 m (yQ lf seen) cf,Y3 R4 qv s.queue,W9 m2 ls cs,nW it m cf seen cf]) (fun _ w'=>dJ lf (iN w' it))
   ⟨#[],by rw[Wu0];exact h⟩ ?_
  clear h
  rintro x w5 ⟨seen,h⟩ next hnext
  have hms:=xN h (j:=4) rfl
  have hwd:=fy0 hwf seen
  refine h.next 1 4 it rfl rfl hwd.below (fun w6 hall h=>?_) (fun e1 w6 he hns h=>?_)
  ·rw[F5 (v := .bool false) (fun w=>rfl),d_]
   refine h.mkMap Sec Bool fun m3 w7 h=>?_
   simp -zeta only[J5,U0 wP,U0 OT,Nat.zero_add]
   refine h.st 0 rfl nD (show 1<7 by omega) rfl fun w8 h=>?_
   refine h.st 0 rfl jB (show 2<7 by omega) rfl fun w9 h=>?_
   have h:=h.VC Sec R4
   have h:=h.pick [0,1,6,5] (by decide)
   have hC:SL s keep={ s with fs:=fun f=>⟨(FK keep s.queue s.fs s.queue.length f).last,(FK keep s.queue s.fs s.queue.length f).last⟩,queue:=[],down:=true,armed:=0 }:=by
    unfold SL;rw[if_neg (by rw[e];decide)]
   have hall2:yQ lf seen=lf.map fun e=>(e.1,(⟨e.2.1.last,e.2.1.last⟩:YA),e.2.2):=by
    unfold yQ
    refine List.map_congr_left fun e he=>?_
    have hm:e.2.2∈(yQ lf seen).map (·.2.2):=by rw[PU];exact List.mem_map_of_mem he
    obtain⟨e',he',h1⟩:=List.mem_map.1 hm
    have:=hall e' he'
    rw[h1] at this
    rw[if_pos this]
   have hF':DF (SL s keep) (yQ lf seen) cf [] 0:=by
    refine⟨hwd,fun f=>?_,WfE.nil,fun q=>?_,hF.ok.Te0 keep⟩
    ·rw[hC,hall2,gv0 (fun v=>(⟨v.last,v.last⟩:YA))]
     show (⟨_,_⟩:YA)=_
     rw[hfs f]
     cases SF f lf<;>rfl
    ·rw[hC];simp [SF,QC]
   refine k _ _ [] _ ⟨rfl,rfl,rfl⟩ (Z6.close (m:=m) (m2:=m3) (qv := .slice none 0 0) hF' hk ?_)
   rw[hC]
   exact h
  ·rw[UU,lC]
   refine h.entry 1 4 it rfl rfl he hwd.stamps fun w7 h=>?_
   rw[M9,D9]
   refine h.R8 (ds:=e1.2.1.cs.toArray) gQ rfl TN rfl (fun v hv=>Enc.one e1.2.1 v hv) fun b w8 h=>?_
   have h:=h.tick
   simp -zeta only[J5,U0 VG,U0 VX,Nat.add_zero,Nat.zero_add,h.ld 0 rfl b_ (o:=0) rfl,h.ld 5 rfl U6 (o:=1) rfl,fU]
   refine h.Yf0 1 rfl IB Av0 e1.1 (⟨e1.2.1.last,e1.2.1.last⟩:YA) fun w9 h=>?_
   obtain⟨s1,s2⟩:=RA0 hwd he (⟨e1.2.1.last,e1.2.1.last⟩:YA)
   rw[s1,s2] at h
   obtain⟨e0,he0,h0⟩:=List.mem_map.1 he
   have he0':e1=e0:=by
    rw[←h0]
    split
    ·rename_i hc
     have:e1.2.2=e0.2.2:=by rw[←h0,if_pos hc]
     rw[this,hc] at hns
     cases hns
    ·rfl
   have hd:(yQ lf seen).map (fun e'=>if e'.2.2=e1.2.2 then(e'.1,(⟨e1.2.1.last,e1.2.1.last⟩:YA),e'.2.2) else e')=yQ lf (seen.push e1.2.2):=by
    unfold yQ
    rw[List.map_map]
    refine List.map_congr_left fun x hx=>?_
    simp only[Function.comp_apply,contains_push]
    by_cases hxe:x=e1
    ·subst hxe
     rw[hns]
     simp
    ·have hne:x.2.2≠e1.2.2:=fun hh=>hxe (by rw[he0'] at hh ⊢;exact hwf.UV hx he0 hh)
     cases hc:seen.contains x.2.2<;>simp [hne]
   rw[hd] at h
   have h:=h.take 5
   refine hnext _ _ ⟨_,h⟩ ?_
   show dJ lf (iN w9 it)<dJ lf (iN w5 it)
   rw[hms,xN h (j:=4) rfl,he0']
   rw[he0'] at hns
   exact eQ he0 hns
end
theorem AR(s:DS):(vF s).keep=s.keep:=by unfold vF;split<;>rfl
theorem jz0(s:DS)(f:Int)(a:Nat)(t:ByteArray):(KJ s f a t).keep=s.keep:=by unfold KJ;split<;>rfl
theorem CY(s:DS)(f a:Int)(t:ByteArray):(fG s f a t).keep=s.keep:=by unfold fG;split;exact jz0 _ _ _ _;rfl
theorem Kf0(s:DS)(k:List Int):(SL s k).keep=s.keep:=by unfold SL;split<;>rfl
theorem Ia0(s:DS):(TF s).keep=s.keep:=by unfold TF;split;rw[Kf0,AR];exact AR s
theorem GG(s:DS)(f a:Int)(t:ByteArray):(fB s f a t).1.keep=s.keep:=by
 unfold fB
 split
 ·show (SL _ _).keep=_;rw[Kf0,CY,AR]
 ·show (fG _ _ _ _).keep=_;rw[CY,AR]
theorem cB(s:DS)(f:Int):(L9 s f).1.keep=s.keep:=by
 unfold L9
 split
 ·exact Ia0 s
 ·split
  ·exact Ia0 s
  ·exact Ia0 s
section
variable {B:Base} {w:World} {p:Nat} {s:DS} {kv:Value}
theorem eo0{σ:List Dat}(hr:Rel B w σ)(i:Nat)(hi:σ[i]? = some (Z6 p s kv)){Kp:Value→Prop}(k:Kp kv):M0 prog (D5 (ptr p)) fun t0=>M0 prog (O0 P5 t0 6) fun t=>Y0 prog (X0 R6 t) w Kp:=by
 obtain⟨m,lf,cf,m2,ls,cs,qv,hF,hc,hm,hq,hs⟩:=Z6.jP (hr.here hi)
 rw[J5,U0 Wh0,Nat.zero_add,O1.ld hc wF (o:=6) rfl]
 exact k
theorem ik0(r:O4 kv s.keep B)(hkl:s.keep.length≤1000000)(f at_:Int){t:ByteArray}(ht:t.size≤9223372036854775807):Does prog B (Z6 p s kv) (Z0 mG #[ptr p,.int .i64 f,.int .i64 at_,.string t])
  fun v e' τ=>v = .int .i64 (fB s f at_ t).2∧e'=Z6 p (fB s f at_ t).1 kv∧τ=[]:=by
 refine Does.intro fun B' w K base h k=>?_
 replace r:=base r
 refine IM.up ?_
 unfold IM.pt
 unfold fB at k
 refine h.act 0 rfl (fun B2 own base2=>qy0) fun v e' τ w1 hp h=>?_
 obtain⟨rfl,rfl,rfl⟩:=hp
 refine h.act 0 rfl (fun B2 own base2=>sE0 f at_ ht) fun v e' τ w2 hp h=>?_
 obtain⟨rfl,rfl,rfl⟩:=hp
 have h:Rel B' w2 [Z6 p (fG (vF s) f at_ t) kv]:=h
 rw[R5]
 refine⟨fun e=>?_,fun e=>?_⟩
 ·rw[if_pos e] at k
  refine eo0 h 0 rfl ?_
  have hk:(fG (vF s) f at_ t).keep=s.keep:=by rw[CY,AR]
  refine h.act 0 rfl (fun B2 own base2=>Es0 (keep:=(fG (vF s) f at_ t).keep) (by rw[hk];exact base2 r) (by rw[hk];omega)) fun v e' τ w3 hp h=>?_
  obtain⟨rfl,rfl,rfl⟩:=hp
  exact k _ _ [] _ ⟨rfl,rfl,rfl⟩ h
 ·rw[if_neg (by rw[e];decide)] at k
  exact k _ _ [] _ ⟨rfl,rfl,rfl⟩ h
theorem zF0{σ:List Dat}{K:World→Prop}(r:O4 kv s.keep B)(hkl:s.keep.length≤1000000)(h:Rel B w [Z6 p s kv])(k:∀w',Rel B w' [Z6 p (TF s) kv]→K w') :
  upK prog (Z0 LH #[ptr p]) w fun t7 w5=>ifB t7 (M0 prog (D5 (ptr p)) fun t10=>M0 prog (O0 P5 t10 6) fun t11=>Y0 prog (X0 R6 t11) w5 fun t12=>upK prog (Z0 lG #[ptr p,t12]) w5 fun t13 w6=>K w6) (K w5):=by
 refine h.act 0 rfl (fun B2 own base2=>qy0) fun v e' τ w1 hp h=>?_
 obtain⟨rfl,rfl,rfl⟩:=hp
 unfold TF at k
 rw[R5]
 refine⟨fun e=>?_,fun e=>?_⟩
 ·rw[if_pos e] at k
  refine eo0 h 0 rfl ?_
  have hk:(vF s).keep=s.keep:=AR s
  refine h.act 0 rfl (fun B2 own base2=>Es0 (keep:=(vF s).keep) (by rw[hk];exact base2 r) (by rw[hk];omega)) fun v e' τ w3 hp h=>?_
  obtain⟨rfl,rfl,rfl⟩:=hp
  exact k _ h
 ·rw[if_neg (by rw[e];decide)] at k
  exact k _ h
theorem ga0(r:O4 kv s.keep B)(hkl:s.keep.length≤1000000)(f:Int):Does prog B (Z6 p s kv) (Z0 aC #[ptr p,.int .i64 f]) fun v e' τ=>v = .int .i64 (L9 s f).2∧e'=Z6 p (L9 s f).1 kv∧τ=[]:=by
 refine Does.intro fun B' w K base h k=>?_
 replace r:=base r
 refine YN.up ?_
 unfold YN.pt
 unfold L9 at k
 refine P6 fun J hJ=>?_
 replace hJ:∀w',Rel B' w' [Z6 p (TF s) kv]→J () w':=by
  intro w1 h
  refine hJ _ _ ?_
  clear hJ
  obtain⟨m,lf,cf,m2,ls,cs,qv,hF,hk,h⟩:=Z6.open_ h
  refine h.ask (fun B2 own base2=>zz0 (own (i:=0) rfl) f) fun w2 h=>?_
  simp -zeta only[Q7,G5,K3]
  refine⟨fun e0=>?_,fun e0=>?_⟩
  ·rw[if_neg (by simpa using e0)] at k
   simp -zeta only[J5,U0 Vh0,Nat.zero_add,h.ld 0 rfl Y2 (o:=3) rfl,x9,K3]
   refine⟨fun e1=>?_,fun e1=>?_⟩
   ·rw[if_pos e1] at k
    have hl:=hF.ok.lost
    rw[TB,E5 (by omega) (by omega)]
    refine h.st 0 rfl Y2 (show 3<7 by omega) rfl fun w3 h=>?_
    have hF':DF { TF s with lost:=(TF s).lost-1 } lf cf ls cs:=⟨hF.wf,hF.files,hF.ws,hF.set_,⟨hF.ok.now,hF.ok.last,hF.ok.q,hF.ok.nd,by show 0≤(TF s).lost-1∧(TF s).lost-1≤_;omega,hF.ok.armed⟩⟩
    exact k _ _ [] _ ⟨rfl,rfl,rfl⟩ (Z6.close hF' hk h)
   ·rw[if_neg e1] at k
    simp -zeta only[U0 VG,Nat.add_zero,h.ld 0 rfl b_ (o:=0) rfl,Ba0 hF (h.here (i:=1) rfl),En0 (cs:=#[.string ((TF s).fs f).now,.string ((TF s).fs f).last]) (v := .string ((TF s).fs f).now) YX rfl]
    have hn:=hF.ok.now f
    have h:=Z6.close hF hk h
    refine h.act 0 rfl (fun B2 own base2=>TA0 f hn) fun v e' τ w3 hp h=>?_
    obtain⟨rfl,rfl,rfl⟩:=hp
    exact k _ _ [] _ ⟨rfl,rfl,rfl⟩ h
  ·rw[if_pos e0] at k
   exact k _ _ [] _ ⟨rfl,rfl,rfl⟩ (Z6.close hF hk h)
 exact zF0 (σ:=[]) (K:=fun w=>J () w) r hkl h hJ
theorem Rp0:Makes prog B (Z0 lY #[]) fun v τ=>∃p,v=ptr p∧τ=[Z6 p iC (.slice none 0 0)]:=by
 refine Makes.intro fun B' w K base h k=>?_
 refine mZ.up ?_
 unfold mZ.pt
 refine h.mkMap Int YA fun m w1 h=>?_
 refine h.mkMap Sec Bool fun m2 w2 h=>?_
 rw[ua0]
 refine h.box fun p w3 h=>?_
 have h:=h.VC Sec R4
 have h:=h.pick [2,0,3,1] (by decide)
 have hF:DF iC [] 0 [] 0:=⟨WfE.nil,fun _=>rfl,WfE.nil,fun q=>by simp [SF,QC,iC],WC0⟩
 exact k _ _ _ ⟨p,rfl,rfl⟩ (Z6.close (m:=m) (m2:=m2) (qv := .slice none 0 0) hF rfl h)
end
theorem sZ{s:DS}(h:s.armed=0):KX s=false∧vF s=s:=by
 unfold KX vF
 rw[h]
 simp
theorem Ck0{s:DS}(h:s.armed=0):TF s=s:=by
 obtain⟨h1,h2⟩:=sZ h
 unfold TF
 rw[if_neg (by rw[h1];decide),h2]
theorem oi0{s:DS}(h:s.armed=0)(f a:Int)(t:ByteArray):fB s f a t=(fG s f a t,ZL s f a t):=by
 obtain⟨h1,h2⟩:=sZ h
 unfold fB
 rw[if_neg (by rw[h1];decide),h2]
theorem wA0{s:DS}{f a n:Int}(h:CV s f=0)(ha:0≤a)(hn:0≤n):LD s f a n=(ofL (((bl (s.fs f).now).drop a.toNat).take n.toNat),0):=by
 unfold LD
 rw[if_neg (by simpa using h),if_neg (by omega),if_neg (by omega)]
structure QI (f:Int) (X:ByteArray) (s:DS):Prop where
 fs:s.fs f=⟨X,X⟩
 q:∀q∈s.queue,q.file≠f
theorem Zo0{f:Int}{keep:List Int}{qs:List Sec}{fs:Int→YA}(hq:∀q∈qs,q.file≠f):∀n,n≤qs.length→FK keep qs fs n f=fs f:=by
 intro n
 induction n with
 | zero=>intro _;rfl
 | succ n ih =>
  intro hn
  have hg:qs.getD n ⟨0,0⟩=qs[n]'(by omega):=by rw[List.getD_eq_getElem?_getD,List.getElem?_eq_getElem (by omega)];rfl
  have hne:=hq _ (List.getElem_mem (show n<qs.length by omega))
  show yV keep n (qs.getD n ⟨0,0⟩) (FK keep qs fs n) f=_
  rw[hg]
  unfold yV
  split
  ·exact ih (by omega)
  ·split
   ·exact ih (by omega)
   ·split
    ·exact ih (by omega)
    ·rw[upd_ne (Ne.symm hne)]
     exact ih (by omega)
theorem QI.Te0{f:Int}{X:ByteArray}{s:DS}(h:QI f X s)(keep:List Int):QI f X (SL s keep):=by
 unfold SL
 split
 ·exact h
 ·refine⟨?_,fun q hq=>by cases hq⟩
  show (⟨(FK keep s.queue s.fs s.queue.length f).last,(FK keep s.queue s.fs s.queue.length f).last⟩:YA)=_
  rw[Zo0 h.q _ (Nat.le_refl _),h.fs]
theorem QI.ends{f:Int}{X:ByteArray}{s:DS}(h:QI f X s):QI f X (vF s):=by unfold vF;split;exact h;exact⟨h.fs,h.q⟩
theorem QI.come{f:Int}{X:ByteArray}{s:DS}(h:QI f X s):QI f X (TF s):=by unfold TF;split;exact h.ends.Te0 _;exact h.ends
theorem QI.write{f g:Int}{X:ByteArray}{s:DS}(h:QI f X s)(hg:g≠f)(a:Int)(t:ByteArray):QI f X (fG s g a t):=by
 unfold fG KJ
 split
 ·split
  ·exact h
  ·refine⟨?_,fun q hq=>?_⟩
   ·show upd s.fs g _ f=_
    rw[upd_ne (Ne.symm hg)];exact h.fs
   ·rcases dM.1 hq with hq | ⟨n,_,rfl⟩
    ·exact h.q q hq
    ·exact hg
 ·exact h
theorem QI.settle{f g:Int}{X Y:ByteArray}{s:DS}(h:QI f X s)(hg:g≠f):QI f X (OM s g Y):=by
 refine⟨?_,fun q hq=>h.q q (List.mem_filter.1 hq).1⟩
 show upd s.fs g _ f=_
 rw[upd_ne (Ne.symm hg)];exact h.fs
theorem Pw0(s:DS)(f a:Int)(t:ByteArray):ZL s f a t=if CV s f≠0 then CV s f else if a<0 then 1 else if ¬(0≤a∧a+t.size≤16777216) then 6 else 0:=by
 unfold ZL
 by_cases c0:CV s f≠0
 ·rw[if_pos c0,if_pos c0]
 rw[if_neg c0,if_neg c0]
 by_cases c1:a<0
 ·rw[if_pos c1,if_pos c1]
 rw[if_neg c1,if_neg c1]
 by_cases c2:16777216<a
 ·rw[if_pos c2,if_pos (by omega)]
 rw[if_neg c2]
 by_cases c3:16777216-a<t.size
 ·rw[if_pos c3,if_pos (by omega)]
 ·rw[if_neg c3,if_neg (by omega)]
theorem um0{s:DS}(hd:s.down=false){f a:Int}{t:ByteArray}:ZL s f a t=0↔(0≤f∧f<16)∧0≤a∧a+t.size≤16777216:=by
 have hm:=qU (s:=s) (f:=f)
 rw[Pw0]
 constructor
 ·intro h
  by_cases c0:CV s f≠0
  ·rw[if_pos c0] at h;exact absurd h c0
  rw[if_neg c0] at h
  by_cases c1:a<0
  ·rw[if_pos c1] at h;omega
  rw[if_neg c1] at h
  by_cases c2:0≤a∧a+t.size≤16777216
  ·exact⟨(hm.1 (by simpa using c0)).2,c2⟩
  ·rw[if_pos c2] at h;omega
 ·rintro⟨h1,h2,h3⟩
  rw[if_neg (by rw[hm.2 ⟨hd,h1⟩];decide),if_neg (by omega),if_neg (by omega)]
structure CS where
 slot:Int
 value:ByteArray
 sure:Bool
def c0S:CS:=⟨0,⟨#[]⟩,false⟩
def ZQ(k:Int):Int:=if k=2 then 131072 else 64
def mW(k n:Nat):List UInt8:=[UInt8.ofNat k,UInt8.ofNat n,UInt8.ofNat (n / 256),UInt8.ofNat (n / 65536),UInt8.ofNat (n / 16777216)]
def vd0(l:List UInt8):Nat:=(l.getD 1 0).toNat+256 * (l.getD 2 0).toNat+65536 * (l.getD 3 0).toNat+16777216 * (l.getD 4 0).toNat
def Yq0(l:List UInt8):Nat→Nat
 | 0=>0
 | j+1=>Yq0 l j * 256+(l.getD (4-j) 0).toNat
theorem iG0(l:List UInt8):Yq0 l 4=vd0 l:=by
 show (((0 * 256+(l.getD 4 0).toNat) * 256+(l.getD 3 0).toNat) * 256+(l.getD 2 0).toNat) * 256+(l.getD 1 0).toNat=_
 unfold vd0
 omega
theorem kp0(x:UInt8):x.toNat<256:=x.toNat_lt
theorem bD0(l:List UInt8)(j:Nat)(hj:j≤4):Yq0 l j≤4294967296:=by
 have h0:=kp0 (l.getD 4 0)
 have h1:=kp0 (l.getD 3 0)
 have h2:=kp0 (l.getD 2 0)
 have h3:=kp0 (l.getD 1 0)
 have:j=0∨j=1∨j=2∨j=3∨j=4:=by omega
 rcases this with rfl | rfl | rfl | rfl | rfl
 ·exact Nat.zero_le _
 ·show 0 * 256+(l.getD 4 0).toNat≤_;omega
 ·show (0 * 256+(l.getD 4 0).toNat) * 256+(l.getD 3 0).toNat≤_;omega
 ·show ((0 * 256+(l.getD 4 0).toNat) * 256+(l.getD 3 0).toNat) * 256+(l.getD 2 0).toNat≤_;omega
 ·show (((0 * 256+(l.getD 4 0).toNat) * 256+(l.getD 3 0).toNat) * 256+(l.getD 2 0).toNat) * 256+(l.getD 1 0).toNat≤_;omega
def Ct0(s:DS)(f:Int)(l:List UInt8):Option CS×Int :=
 if l.length<5 then(none,2) else if l.getD 0 0≠1∧l.getD 0 0≠2 then(none,2) else if 65536<vd0 l then(none,2)
 else if(LD s f (ZQ (l.getD 0 0).toNat) (vd0 l)).2≠0 then(none,(LD s f (ZQ (l.getD 0 0).toNat) (vd0 l)).2)
 else if(LD s f (ZQ (l.getD 0 0).toNat) (vd0 l)).1.size<vd0 l then(none,2)
 else(some ⟨(l.getD 0 0).toNat,(LD s f (ZQ (l.getD 0 0).toNat) (vd0 l)).1,false⟩,0)
def EQ(s:DS)(f:Int):Option CS×Int :=
 if(LD s f 0 5).2≠0 then(none,(LD s f 0 5).2) else if(LD s f 0 5).1=⟨#[]⟩ then(some c0S,0) else if(bl (LD s f 0 5).1).getD 0 0=0 then(some c0S,0)
 else Ct0 s f (bl (LD s f 0 5).1)
theorem HY(s:DS)(f a n:Int):(LD s f a n).1.size≤n.toNat:=by
 unfold LD
 split
 ·exact Nat.zero_le _
 ·split
  ·exact Nat.zero_le _
  ·split
   ·exact Nat.zero_le _
   ·show (ofL _).size≤_
    rw[Q_,List.length_take]
    omega
def UF(st:CS):Int:=if st.slot=1 then 2 else 1
def OO(s:DS)(st:CS)(f:Int):DS×Int:=if st.sure=false∧0<st.slot then L9 s f else(s,0)
def qI(st:CS):CS:={ st with sure:=st.sure||decide (0<st.slot) }
def mJ(st:CS)(v:ByteArray):ByteArray:=ofL (mW (UF st).toNat v.size)
def sr0(s:DS)(st:CS)(f:Int)(v:ByteArray):(DS×CS)×Int :=
 if(fB s f 0 (mJ st v)).2≠0 then(((fB s f 0 (mJ st v)).1,st),(fB s f 0 (mJ st v)).2)
 else(((L9 (fB s f 0 (mJ st v)).1 f).1,⟨UF st,v,decide ((L9 (fB s f 0 (mJ st v)).1 f).2=0)⟩),(L9 (fB s f 0 (mJ st v)).1 f).2)
def set2(s:DS)(st:CS)(f:Int)(v:ByteArray):(DS×CS)×Int:=if(L9 s f).2≠0 then(((L9 s f).1,st),(L9 s f).2) else sr0 (L9 s f).1 st f v
def set1(s:DS)(st:CS)(f:Int)(v:ByteArray):(DS×CS)×Int:=if(fB s f (ZQ (UF st)) v).2≠0 then(((fB s f (ZQ (UF st)) v).1,st),(fB s f (ZQ (UF st)) v).2) else set2 (fB s f (ZQ (UF st)) v).1 st f v
def EX(s:DS)(st:CS)(f:Int)(v:ByteArray):(DS×CS)×Int :=
 if 65536<v.size then((s,st),6) else if(OO s st f).2≠0 then(((OO s st f).1,st),(OO s st f).2) else set1 (OO s st f).1 (qI st) f v
theorem AY(s:DS)(st:CS)(f:Int):(OO s st f).1.keep=s.keep:=by unfold OO;split;exact cB s f;rfl
theorem Fv0(s:DS)(st:CS)(f:Int)(v:ByteArray):(sr0 s st f v).1.1.keep=s.keep:=by
 unfold sr0
 split
 ·exact GG _ _ _ _
 ·show (L9 _ _).1.keep=_;rw[cB,GG]
theorem Dv0(s:DS)(st:CS)(f:Int)(v:ByteArray):(set2 s st f v).1.1.keep=s.keep:=by
 unfold set2
 split
 ·exact cB _ _
 ·rw[Fv0,cB]
theorem Cv0(s:DS)(st:CS)(f:Int)(v:ByteArray):(set1 s st f v).1.1.keep=s.keep:=by
 unfold set1
 split
 ·exact GG _ _ _ _
 ·rw[Dv0,GG]
theorem Ti0(s:DS)(st:CS)(f:Int)(v:ByteArray):(EX s st f v).1.1.keep=s.keep:=by
 unfold EX
 split
 ·rfl
 ·split
  ·exact AY _ _ _
  ·rw[Cv0,AY]
theorem rW(st:CS):UF st=1∨UF st=2:=by unfold UF;split;exact .inr rfl;exact .inl rfl
theorem wrap_u8(m:Nat):IntKind.u8.wrap (m:Int)=((UInt8.ofNat m).toNat:Int):=by
 have:(UInt8.ofNat m).toNat=m % 256:=by simp
 rw[this]
 simp [IntKind.wrap,IntKind.bits,IntKind.signed]
theorem gD0(n b:Nat)(hn:n<1099511627776)(hb:b<256):IntKind.wrap .i64 (BitVec.ofInt IntKind.i64.bits ((n * 256:Nat):Int) ||| BitVec.ofInt IntKind.i64.bits (b:Int)).toNat=((n * 256+b:Nat):Int):=by
 have h1:(n * 256) ||| b=n * 256+b:=by
  have:=Nat.shiftLeft_add_eq_or_of_lt (i:=8) (b:=b) (by omega) n
  rw[Nat.shiftLeft_eq] at this
  exact this.symm
 rw[BitVec.toNat_or,BitVec.ofInt_natCast,BitVec.ofInt_natCast,BitVec.toNat_ofNat,BitVec.toNat_ofNat]
 show IntKind.wrap .i64 (((n * 256 % 2 ^ 64) ||| (b % 2 ^ 64):Nat):Int)=_
 rw[Nat.mod_eq_of_lt (by omega),Nat.mod_eq_of_lt (by omega),h1]
 exact E5 (by omega) (by omega)
section
variable {P:Program} {Kp:Value→Prop} {s:ByteArray} {T:TypeId}
theorem qm0{z:Int}(i:Nat)(hT:P.underlying T=some .string)(hi:i<s.size)(hz:z=i:=by rfl):M0 P (KY T (.string s) (.int .i64 z)) Kp=Kp (.int .u8 ((bl s).getD i 0).toNat):=by
 subst hz
 rw[WD0 hT hi]
 have:(bl s).getD i 0=(bl s)[i]'(by rw[B_];exact hi):=by
  rw[List.getD_eq_getElem?_getD,List.getElem?_eq_getElem (by rw[B_];exact hi)];rfl
 rw[this]
theorem NG0{T:TypeId}{xo yo:Operand}{x:UInt8}(n:Nat)(hn:n<256):M0 P (V3 .eql T xo yo (.int .u8 x.toNat) (.int .u8 (n:Int))) Kp=Kp (.bool (decide (x=UInt8.ofNat n))):=by
 rw[F7]
 congr 2
 refine decide_eq_decide.2 ⟨fun h=>UInt8.toNat_inj.1 ?_,fun h=>?_⟩
 ·have:(UInt8.ofNat n).toNat=n % 256:=by simp
  omega
 ·rw[h]
  have:(UInt8.ofNat n).toNat=n % 256:=by simp
  omega
end
section
variable {B:Base} {w:World} {p:Nat} {s:DS} {kv:Value}
theorem Vn0{k:Nat}{t:ByteArray}(hs:t.size≤1000000):Gives prog B (Z0 nP #[.int .i64 k,.string t]) (.string (ofL (mW k t.size))):=by
 refine Gives.intro fun B' w K base h fin=>?_
 refine JS.up ?_
 unfold JS.pt
 have hb:=B_ t
 rw[jU IV PW,wrap_u8]
 refine h.XH (α:=UInt8) (UInt8.ofNat k) jN (by decide) fun v1 w1 h=>?_
 rw[aK K8,hb]
 refine F6 (fun x w'=>∃(j:Nat) (v:Value),j≤4∧x=(v,.int .i64 ((t.size / 256 ^ j:Nat):Int),())∧Rel B' w' [Y3 p_ v ((mW k t.size).take (j+1))]) (fun x _=>5-(match x.1 with | .slice _ n _=>n | _=>0))
  ⟨0,v1,by omega,by simp,h⟩ ?_
 clear h
 rintro x w2 ⟨j,v,hj,rfl,h⟩ next hnext
 have hl:((mW k t.size).take (j+1)).length=j+1:=by rw[List.length_take];show min (j+1) 5=j+1;omega
 obtain⟨g,cap,hv⟩:=h.open_ (i:=0) rfl (by rw[hl];omega)
 have hr:=Y3.read (h.here (i:=0) rfl)
 simp -zeta only[O4.len hr jN,G6,K3]
 rw[hl]
 refine⟨fun hlt=>?_,fun hge=>?_⟩
 ·rw[jU IV PW,wrap_u8]
  refine h.WS (α:=UInt8) 0 rfl (UInt8.ofNat (t.size / 256 ^ j)) jN (by decide) (by rw[hl];omega) (by rw[hl];omega) fun v2 w3 h=>?_
  have e:(mW k t.size).take (j+1)++[UInt8.ofNat (t.size / 256 ^ j)]=(mW k t.size).take (j+2):=by
   have:j=0∨j=1∨j=2∨j=3:=by omega
   rcases this with rfl | rfl | rfl | rfl<;>simp [mW]
  have h:Rel B' w3 [Y3 p_ v2 ((mW k t.size).take (j+1)++[UInt8.ofNat (t.size / 256 ^ j)])]:=h
  rw[e] at h
  rw[TW (by decide)]
  have e2:(((t.size / 256 ^ j:Nat):Int).fdiv (2 ^ min (8:Int).toNat IntKind.i64.bits))=((t.size / 256 ^ (j+1):Nat):Int):=by
   show (((t.size / 256 ^ j:Nat):Int).fdiv 256)=_
   rw[Int.fdiv_eq_ediv_of_nonneg _ (by omega),Nat.pow_succ,←Nat.div_div_eq_div_mul]
   omega
  rw[e2]
  have hl2:((mW k t.size).take (j+2)).length=j+2:=by rw[List.length_take];show min (j+2) 5=j+2;omega
  obtain⟨g2,cap2,hv2⟩:=h.open_ (i:=0) rfl (by rw[hl2];omega)
  refine hnext _ _ ⟨j+1,v2,by omega,rfl,h⟩ ?_
  rw[hv,hv2]
  simp only
  omega
 ·have hj4:j=4:=by omega
  subst hj4
  exact vC (in0 (Y3.read (h.here (i:=0) rfl)) na0 PW K8) (fin _ _ h)
abbrev ccs(p:Nat)(f:Int)(st:CS):Array Value:=#[ptr p,.int .i64 f,.int .i64 st.slot,.string st.value,.bool st.sure]
def VT:Dat:=K6 0 0 [.int .i64 0,.int .i64 64,.int .i64 131072]
theorem off_1{Kp:Value→Prop}:M0 prog (I5 FM (.pointer (some ⟨0,0,none⟩)) (.int .i64 1)) Kp=Kp (.pointer (some ⟨0,1,none⟩)):=F5 fun w=>by kernel_rfl
theorem off_2{Kp:Value→Prop}:M0 prog (I5 FM (.pointer (some ⟨0,0,none⟩)) (.int .i64 2)) Kp=Kp (.pointer (some ⟨0,2,none⟩)):=F5 fun w=>by kernel_rfl
theorem Zz0{σ:List Dat}(hT:VT B)(h:Rel B w σ){k:Int}(hk:k=1∨k=2){Kp:Value→Prop} :
  M0 prog (I5 FM (.pointer (some ⟨0,0,none⟩)) (.int .i64 k)) (fun t=>Y0 prog (X0 Q0 t) w Kp)=Kp (.int .i64 (ZQ k)):=by
 have hT:K6 0 0 [.int .i64 0,.int .i64 64,.int .i64 131072] B:=hT
 rcases hk with rfl | rfl
 ·rw[off_1]
  exact K6.ld (h.L6 hT) Y2 (j:=1) rfl
 ·rw[off_2]
  exact K6.ld (h.L6 hT) Y2 (j:=2) rfl
theorem uE0{c:Nat}{f:Int}{st:CS}(hc:O1 c U4 (ccs p f st) B):Gives prog B (Z0 vM #[ptr c]) (.tuple #[.string st.value,.bool (decide (0<st.slot))]):=by
 refine Gives.intro fun B' w K base h k=>?_
 replace hc:=base hc
 refine rP.up ?_
 unfold rP.pt
 have h:=h.tick
 simp -zeta only[J5,U0 NT,U0 nM,Nat.zero_add,O1.ld (h.L6 hc) U6 (o:=3) rfl,O1.ld (h.L6 hc) Y2 (o:=2) rfl,x9]
 exact k _ _ h
theorem qs0(hT:VT B)(hd:Z6 p s kv B)(f:Int):Makes prog B (Z0 yS #[ptr p,.int .i64 f])
  fun v τ=>(∃c st,EQ s f=(some st,0)∧v = .tuple #[ptr c,.int .i64 0]∧τ=[O1 c U4 (ccs p f st)])∨((EQ s f).1=none∧v = .tuple #[.pointer none,.int .i64 (EQ s f).2]∧τ=[]):=by
 refine Makes.intro fun B' w K base h k=>?_
 replace hT:=base hT
 replace hd:=base hd
 refine UW.up ?_
 unfold UW.pt
 have no:∀w' σ e,Rel B' w' σ→EQ s f=(none,e)→K (.tuple #[.pointer none,.int .i64 e]) w':=fun w' σ e h he=>k _ _ _ (.inr ⟨by rw[he],by rw[he],rfl⟩) h.nil
 have yes:∀w' c st,Rel B' w' [O1 c U4 (ccs p f st)]→EQ s f=(some st,0)→K (.tuple #[ptr c,.int .i64 0]) w':=fun w' c st h he=>k _ _ _ (.inl ⟨c,st,he,rfl,rfl⟩) h
 clear k
 rw[ta0]
 refine h.box fun c w1 h=>?_
 have h:Rel B' w1 [O1 c U4 (ccs p f c0S)]:=h
 refine h.ask (fun B2 own base2=>wp0 (base2 hd) f 0 5) fun w2 h=>?_
 unfold EQ at no yes
 have hsz:=HY s f 0 5
 generalize hR:LD s f 0 5=R at no yes hsz
 obtain⟨hd0,e0⟩:=R
 have hsz:hd0.size≤5:=hsz
 dsimp only at no yes
 simp -zeta only[M9,D9,Q7,G5,K3]
 refine⟨fun z=>?_,fun z=>no _ _ _ h (by rw[if_pos z])⟩
 have z:e0=0:=z
 subst z
 rw[if_neg (fun hh=>hh rfl)] at no yes
 rw[WW,K3]
 refine⟨fun e1=>yes _ _ _ h (by rw[if_pos e1]),fun e1=>?_⟩
 rw[if_neg e1] at no yes
 have hpos:=size_pos e1
 have hbl:=B_ hd0
 simp -zeta only[qm0 (z:=0) 0 K8 hpos]
 rw[show ((.int .u8 0:Value)) = .int .u8 ((0:Nat):Int) from rfl,NG0 0 (by decide),show UInt8.ofNat 0=0 from rfl,K3]
 refine⟨fun e2=>yes _ _ _ h (by rw[if_pos e2]),fun e2=>?_⟩
 rw[if_neg e2] at no yes
 unfold Ct0 at no yes
 refine P6 fun J hJ=>?_
 replace hJ:(bl hd0).length=5→((bl hd0).getD 0 0=1∨(bl hd0).getD 0 0=2)→J () w2:=by
  intro hl hk
  refine hJ _ _ ?_
  clear hJ
  rw[if_neg (by omega),if_neg (by rintro⟨a,b⟩;rcases hk with hk | hk;exact a hk;exact b hk)] at no yes
  refine F6 (fun x w'=>∃j:Nat,j≤4∧x=(.int .i64 (Yq0 (bl hd0) j),.int .i64 ((4-j:Nat):Int),())∧Rel B' w' [O1 c U4 (ccs p f c0S)]) (fun x _=>(match x.2.1 with | .int _ n=>n.toNat | _=>0))
   ⟨0,by omega,rfl,h⟩ ?_
  clear h
  rintro x w3 ⟨j,hj,rfl,h⟩ next hnext
  have hlt:=bD0 (bl hd0) j hj
  simp -zeta only[x9,K3]
  refine⟨fun hg=>?_,fun hg=>?_⟩
  ·have hb:=kp0 ((bl hd0).getD (4-j) 0)
   have hw:IntKind.i64.wrap ((Yq0 (bl hd0) j:Int) * 2 ^ min (8:Int).toNat IntKind.i64.bits)=((Yq0 (bl hd0) j * 256:Nat):Int):=by
    show IntKind.i64.wrap ((Yq0 (bl hd0) j:Int) * 256)=_
    rw[E5 (by omega) (by omega)]
    omega
   rw[gC0 (by decide),hw,qm0 (4-j) K8 (by omega),jU PW IV,E5 (by omega) (by omega),Kx0,gD0 _ _ (by omega) hb,TB,E5 (by omega) (by omega)]
   exact hnext _ _ ⟨j+1,by omega,by rw[show ((4-j:Nat):Int)-1=((4-(j+1):Nat):Int) by omega];rfl,h⟩ (by simp only;omega)
  ·have hj4:j=4:=by omega
   subst hj4
   rw[iG0] at hlt ⊢
   clear hnext hg
   generalize hn:vd0 (bl hd0)=n at hlt no yes
   refine⟨fun e3=>no _ _ _ h (by rw[if_pos (by omega)]),fun e3=>?_⟩
   rw[if_neg (by omega)] at no yes
   have hk0:(((bl hd0).getD 0 0).toNat:Int)=1∨(((bl hd0).getD 0 0).toNat:Int)=2:=by
    rcases hk with hk | hk
    ·rw[hk];exact .inl rfl
    ·rw[hk];exact .inr rfl
   rw[jU PW IV]
   generalize (((bl hd0).getD 0 0).toNat:Int)=x at hk0 no yes
   rw[E5 (by omega) (by omega)]
   simp -zeta only[J5,U0 nM,U0 NT,Nat.zero_add]
   refine h.st 0 rfl Y2 (show 2<5 by omega) rfl fun w4 h=>?_
   simp -zeta only[h.ld 0 rfl Y2 (o:=2) rfl]
   rw[Zz0 hT h hk0]
   refine h.ask (fun B2 own base2=>wp0 (base2 hd) f (ZQ x) (n:Int)) fun w5 h=>?_
   have hsz2:=HY s f (ZQ x) (n:Int)
   generalize LD s f (ZQ x) (n:Int)=R2 at no yes hsz2
   obtain⟨t,e4⟩:=R2
   dsimp only at no yes
   simp -zeta only[M9,D9]
   refine h.st 0 rfl U6 (show 3<5 by omega) rfl fun w6 h=>?_
   have hbt:=B_ t
   refine P6 fun J2 hJ2=>?_
   simp -zeta only[F7,K3,h.ld 0 rfl U6 (o:=3) rfl,aK K8,G6]
   refine⟨fun e5=>⟨fun e6=>hJ2 _ _ ?_,fun e6=>hJ2 _ _ ?_⟩,fun e5=>hJ2 _ _ ?_⟩
   ·have e5:e4=0:=e5
    subst e5
    rw[if_neg (fun hh=>hh rfl),if_pos (by show t.size<n;omega)] at no
    rw[Q7,decide_eq_false (by decide),Bool.not_false,lC]
    exact no _ _ _ h rfl
   ·have e5:e4=0:=e5
    subst e5
    rw[if_neg (fun hh=>hh rfl),if_neg (by show ¬t.size<n;omega)] at yes
    rw[Q7,decide_eq_true rfl,Bool.not_true,d_]
    exact yes _ c ⟨x,t,false⟩ h rfl
   ·have e5:¬e4=0:=e5
    rw[if_pos e5] at no
    rw[Q7,decide_eq_false e5,Bool.not_false,lC]
    exact no _ _ _ h rfl
 simp -zeta only[aK K8,G6,K3,qm0 (z:=0) 0 K8 hpos]
 refine⟨fun e3=>no _ _ _ h (by rw[if_pos (by omega)]),fun e3=>?_⟩
 have h5:(bl hd0).length=5:=by omega
 rw[if_neg (by omega)] at no
 have n1:∀{Kp:Value→Prop} {a b:Operand},M0 prog (V3 .neq p_ a b (.int .u8 ((bl hd0).getD 0 0).toNat) (.int .u8 1)) Kp=Kp (.bool (!decide ((bl hd0).getD 0 0=1))):=by
  intro Kp a b
  rw[Q7]
  congr 3
  exact decide_eq_decide.2 ⟨fun h=>UInt8.toNat_inj.1 (by have:(1:UInt8).toNat=1:=rfl;omega),fun h=>by rw[h];rfl⟩
 have n2:∀{Kp:Value→Prop} {a b:Operand},M0 prog (V3 .neq p_ a b (.int .u8 ((bl hd0).getD 0 0).toNat) (.int .u8 2)) Kp=Kp (.bool (!decide ((bl hd0).getD 0 0=2))):=by
  intro Kp a b
  rw[Q7]
  congr 3
  exact decide_eq_decide.2 ⟨fun h=>UInt8.toNat_inj.1 (by have:(2:UInt8).toNat=2:=rfl;omega),fun h=>by rw[h];rfl⟩
 rw[n1,G5,K3]
 refine⟨fun k1=>hJ h5 (.inl k1),fun k1=>?_⟩
 rw[n2,G5,K3]
 exact⟨fun k2=>hJ h5 (.inr k2),fun k2=>no _ _ _ h (by rw[if_pos ⟨k1,k2⟩])⟩
end
end Go.Proofs.YtngbebnhegcokaaGreatDoor
namespace Go.Proofs.YtngbebnhegcokaaGreatDoor
open Go.Proofs.Tryz (prog)
open Go.ChangeShapes Go.WideShapes Go.ChangeAt Go.RowKit
set_option maxRecDepth 100000
theorem Nf0{P:Program}{w:World}:∀{l:List (String×DataW Unit)} {ps:List MemPlace},DataW.LaidVars P w l ps→∀n d,(n,d)∈l →
  ∃g t cs fuel p,P.globalNamed n=some g∧(P.globals[g]?).map (·.type)=some t∧w.var? P n=some cs∧DataW.trod (fun _=>()) P w 0 (fun _=>true) false fuel t cs.toList=some (d,p)
 | [],ps,_,n,d,hm=>by cases hm
 | (n0,d0) :: l,ps,h,n,d,hm=>by
  obtain⟨g,t,cs,fuel,p,q,h1,h2,h3,h4,h5,_⟩:=h
  rcases List.mem_cons.1 hm with e | hm
  ·injection e with e1 e2
   subst e1 e2
   exact⟨g,t,cs,fuel,p,h1,h2,h3,h4⟩
  ·exact Nf0 h5 n d hm
theorem Rj0{P:Program}{w:World}{n:String}{g:Nat}{cs:Array Value}(hg:P.globalNamed n=some g)(h:w.var? P n=some cs):∃E fz,w.heap[g]? = some (.cells cs E fz):=by
 unfold World.var? at h
 rw[hg] at h
 simp only[Option.bind_some] at h
 split at h
 ·rename_i c E fz hh
  injection h with h
  subst h
  exact⟨E,fz,hh⟩
 ·cases h
theorem Cd0{P:Program}{w:World}{fuel:Nat}{t:TypeId}{ms:Array (String×TypeId)}{cs:List Value}{nm:String}{x:DataW Unit}{p:List MemPlace}(ht:P.underlying t=some (.interface ms))
  (h:DataW.trod (fun _=>()) P w 0 (fun _=>true) false fuel t cs=some (.iface nm x,p)):∃u v,cs=[.iface u v]:=by
 cases fuel with
 | zero=>simp [DataW.trod] at h
 | succ fuel =>
  match cs with
  | []=>simp [DataW.trod,ht] at h
  | [.iface u v]=>exact⟨u,v,rfl⟩
  | [v]=>cases v<;>first | exact⟨_,_,rfl⟩ | (simp [DataW.trod,ht] at h)
  | a :: b :: r=>simp [DataW.trod,ht] at h
theorem Si0{P:Program}{W:World}{l:List (String×DataW Unit)}{ps:List MemPlace}(h:DataW.LaidVars P W l ps){n:String}{g:Nat}{t:TypeId}{ms:Array (String×TypeId)}{d:DataW Unit}(hm:(n,d)∈l)(hd:∃nm x,d = .iface nm x)(hg:P.globalNamed n=some g)
  (hty:(P.globals[g]?).map (·.type)=some t) (ht:P.underlying t=some (.interface ms)):∃e:TypeId×Value,tm0 g [.iface e.1 e.2] (EE W):=by
 obtain⟨nm,x,rfl⟩:=hd
 obtain⟨g',t',cs,fuel,p,h1,h2,h3,h4⟩:=Nf0 h n _ hm
 obtain rfl:=Option.some.inj (hg.symm.trans h1)
 obtain rfl:=Option.some.inj (hty.symm.trans h2)
 obtain⟨u,v,e⟩:=Cd0 ht h4
 obtain⟨E,fz,hb⟩:=Rj0 hg h3
 refine⟨(u,v),(Array.getElem?_eq_some_iff.1 hb).1,E,fz,?_⟩
 show W.heap[g]? = _
 rw[hb]
 congr 2
 exact Array.toList_inj.1 e
theorem gu0{P:Program}{W:World}{l:List (String×DataW Unit)}{ps:List MemPlace}(h:DataW.LaidVars P W l ps){n:String}{g m:Nat}{t e:TypeId}{k:IntKind}{zs:List Int}(hm:(n,Go.Lib.tabData k zs)∈l)(hg:P.globalNamed n=some g)
  (hty:(P.globals[g]?).map (·.type)=some t) (ht:P.underlying t=some (.array m e)) (he:P.underlying e=some (.int k)) (hce:P.cellsOf e=1) (hct:P.cellsOf t=m):tm0 g (zs.map (Value.int k)) (EE W):=by
 obtain⟨g',t',cs,fuel,p,h1,h2,h3,h4⟩:=Nf0 h n _ hm
 obtain rfl:=Option.some.inj (hg.symm.trans h1)
 obtain rfl:=Option.some.inj (hty.symm.trans h2)
 have e:=Go.Lib.cells_of_tab ht he hce hct h4
 obtain⟨E,fz,hb⟩:=Rj0 hg h3
 refine⟨(Array.getElem?_eq_some_iff.1 hb).1,E,fz,?_⟩
 show W.heap[g]? = _
 rw[hb]
 congr 2
 exact Array.toList_inj.1 e
theorem gA0:(Rows.laid_internal_strconv_uint64pow10:DataW Unit)=Go.Lib.tabData .u64 Go.Lib.pow10Tab:=by kernel_rfl
theorem bj0{W:World}(h:laidMetH prog [("math/bits.deBruijn32tab",Rows.laid_math_bits_deBruijn32tab),("math/bits.deBruijn64tab",Rows.laid_math_bits_deBruijn64tab),("internal/strconv.uint64pow10",Rows.laid_internal_strconv_uint64pow10),("errata/cell.offsets",Rows.laid_errata_cell_offsets),("strconv.ErrRange",Rows.laid_strconv_ErrRange),("strconv.ErrSyntax",Rows.laid_strconv_ErrSyntax)] W):qC (EE W):=by
 have h:laidMet prog [("math/bits.deBruijn32tab",Rows.laid_math_bits_deBruijn32tab),("math/bits.deBruijn64tab",Rows.laid_math_bits_deBruijn64tab),("internal/strconv.uint64pow10",Rows.laid_internal_strconv_uint64pow10),("errata/cell.offsets",Rows.laid_errata_cell_offsets),("strconv.ErrRange",Rows.laid_strconv_ErrRange),("strconv.ErrSyntax",Rows.laid_strconv_ErrSyntax)] W:=h
 obtain⟨ps,h,_⟩:=h
 rw[gA0] at h
 have hi:prog.underlying 117=some (.interface (prog.methodsAt 117)):=by kernel_rfl
 refine⟨gu0 h (n:= "internal/strconv.uint64pow10") (g:=4) (t:=328) (e:=292) (m:=20) (List.mem_cons_of_mem _ (List.mem_cons_of_mem _ (List.mem_cons_self))) (by kernel_rfl) (by kernel_rfl) (by kernel_rfl) (by kernel_rfl) (by kernel_rfl) (by kernel_rfl),Si0 h (n:= "strconv.ErrSyntax") (g:=2) (t:=117) (List.mem_cons_of_mem _ (List.mem_cons_of_mem _ (List.mem_cons_of_mem _ (List.mem_cons_of_mem _ (List.mem_cons_of_mem _ (List.mem_cons_self)))))) ⟨_,_,rfl⟩ (by kernel_rfl) (by kernel_rfl) hi,Si0 h (n:= "strconv.ErrRange") (g:=3) (t:=117) (List.mem_cons_of_mem _ (List.mem_cons_of_mem _ (List.mem_cons_of_mem _ (List.mem_cons_of_mem _ (List.mem_cons_self))))) ⟨_,_,rfl⟩ (by kernel_rfl) (by kernel_rfl) hi⟩
theorem Yz0:(Rows.laid_errata_cell_offsets:DataW Unit)=Go.Lib.tabData .i64 [0,64,131072]:=by kernel_rfl
theorem qz0{W:World}(h:laidMetH prog [("math/bits.deBruijn32tab",Rows.laid_math_bits_deBruijn32tab),("math/bits.deBruijn64tab",Rows.laid_math_bits_deBruijn64tab),("internal/strconv.uint64pow10",Rows.laid_internal_strconv_uint64pow10),("errata/cell.offsets",Rows.laid_errata_cell_offsets),("strconv.ErrRange",Rows.laid_strconv_ErrRange),("strconv.ErrSyntax",Rows.laid_strconv_ErrSyntax)] W):VT (EE W):=by
 have h:laidMet prog [("math/bits.deBruijn32tab",Rows.laid_math_bits_deBruijn32tab),("math/bits.deBruijn64tab",Rows.laid_math_bits_deBruijn64tab),("internal/strconv.uint64pow10",Rows.laid_internal_strconv_uint64pow10),("errata/cell.offsets",Rows.laid_errata_cell_offsets),("strconv.ErrRange",Rows.laid_strconv_ErrRange),("strconv.ErrSyntax",Rows.laid_strconv_ErrSyntax)] W:=h
 obtain⟨ps,h,_⟩:=h
 rw[Yz0] at h
 obtain⟨hk,E,fz,hh⟩:=gu0 h (n:= "errata/cell.offsets") (g:=0) (t:=201) (e:=3) (m:=3) (List.mem_cons_of_mem _ (List.mem_cons_of_mem _ (List.mem_cons_of_mem _ (List.mem_cons_self)))) (by kernel_rfl) (by kernel_rfl) (by kernel_rfl) (by kernel_rfl) (by kernel_rfl) (by kernel_rfl)
 have hh:W.heap[0]? = some (.cells ([0,64,131072].map (Value.int .i64)).toArray E fz):=hh
 refine⟨hk,(Array.getElem?_eq_some_iff.1 hh).1,fun j v hj=>?_⟩
 show W.cell? ⟨0,0+j,none⟩=some v
 rw[Nat.zero_add]
 simp only[World.cell?,hh]
 simpa using hj
noncomputable def Sa0(os:Os):World :=
 let w0:=World.holding prog os ⟨#[],#[],[]⟩
 let n0:=w0.heap.size
 let put (g:Nat) (cs:Array Value) (h:Array Obj):Array Obj:=h.modify g fun
   | .cells _ t frozen => .cells cs t frozen
   | o=>o
 { w0 with heap:=(((put 2 #[.iface 336 (.pointer (some ⟨n0+1,0,none⟩))] (put 3 #[.iface 336 (.pointer (some ⟨n0+0,0,none⟩))] (put 0 #[.int .i64 0,.int .i64 64,.int .i64 131072] (put 4 #[.int .u64 1,.int .u64 10,.int .u64 100,.int .u64 1000,.int .u64 10000,.int .u64 100000,.int .u64 1000000,.int .u64 10000000,.int .u64 100000000,.int .u64 1000000000,.int .u64 10000000000,.int .u64 100000000000,.int .u64 1000000000000,.int .u64 10000000000000,.int .u64 100000000000000,.int .u64 1000000000000000,.int .u64 10000000000000000,.int .u64 100000000000000000,.int .u64 1000000000000000000,.int .u64 10000000000000000000] (put 6 #[.int .u8 0,.int .u8 1,.int .u8 56,.int .u8 2,.int .u8 57,.int .u8 49,.int .u8 28,.int .u8 3,.int .u8 61,.int .u8 58,.int .u8 42,.int .u8 50,.int .u8 38,.int .u8 29,.int .u8 17,.int .u8 4,.int .u8 62,.int .u8 47,.int .u8 59,.int .u8 36,.int .u8 45,.int .u8 43,.int .u8 51,.int .u8 22,.int .u8 53,.int .u8 39,.int .u8 33,.int .u8 30,.int .u8 24,.int .u8 18,.int .u8 12,.int .u8 5,.int .u8 63,.int .u8 55,.int .u8 48,.int .u8 27,.int .u8 60,.int .u8 41,.int .u8 37,.int .u8 16,.int .u8 46,.int .u8 35,.int .u8 44,.int .u8 21,.int .u8 52,.int .u8 32,.int .u8 23,.int .u8 11,.int .u8 54,.int .u8 26,.int .u8 40,.int .u8 15,.int .u8 34,.int .u8 20,.int .u8 31,.int .u8 10,.int .u8 25,.int .u8 14,.int .u8 19,.int .u8 9,.int .u8 13,.int .u8 8,.int .u8 7,.int .u8 6] (put 5 #[.int .u8 0,.int .u8 1,.int .u8 28,.int .u8 2,.int .u8 29,.int .u8 14,.int .u8 24,.int .u8 3,.int .u8 30,.int .u8 22,.int .u8 20,.int .u8 15,.int .u8 25,.int .u8 17,.int .u8 4,.int .u8 8,.int .u8 31,.int .u8 27,.int .u8 13,.int .u8 23,.int .u8 21,.int .u8 19,.int .u8 16,.int .u8 7,.int .u8 26,.int .u8 12,.int .u8 18,.int .u8 6,.int .u8 11,.int .u8 5,.int .u8 10,.int .u8 9] w0.heap)))))).push (.cells #[.string ⟨#[118,97,108,117,101,32,111,117,116,32,111,102,32,114,97,110,103,101]⟩] 338 (0,0))).push (.cells #[.string ⟨#[105,110,118,97,108,105,100,32,115,121,110,116,97,120]⟩] 338 (0,0))) }
end Go.Proofs.YtngbebnhegcokaaGreatDoor
namespace Go.Proofs.YtngbebnhegcokaaGreatDoor
open Go.Proofs.Tryz (prog)
open Go.RowKit
set_option maxRecDepth 100000
def eF(L:List Dat):Dat:=⟨fun B=>∃G:Nat→Nat,∀(j:Nat) (d:Dat),L[j]? = some d→d ⟨B.W,fun k=>B.keep k∧G k=j⟩,fun {B B'} hl ⟨G,h⟩ =>
 ⟨G,fun j d hj=>d.mono (B:=⟨B.W,fun k=>B.keep k∧G k=j⟩) (B':=⟨B'.W,fun k=>B'.keep k∧G k=j⟩) (fun k (hk:B.keep k∧G k=j) hs=>⟨⟨(hl k hk.1 hs).1,hk.2⟩,(hl k hk.1 hs).2⟩) (h j d hj)⟩⟩
section
variable {L τ:List Dat} {B:Base} {j:Nat} {d:Dat} {w:World}
theorem eF.get(h:eF L B)(hj:L[j]? = some d):d B:=by
 obtain⟨G,h⟩:=h
 exact d.mono (B:=⟨B.W,fun k=>B.keep k∧G k=j⟩) (fun k hk _=>⟨hk.1,rfl⟩) (h j d hj)
open Classical in
open Classical in
theorem eF.push(h:((eF L).star d) B):eF (L++[d]) B:=by
 obtain⟨H,⟨G,h1⟩,h2⟩:=h
 refine⟨fun k=>if H k then G k else L.length,fun i e hi=>?_⟩
 rcases Nat.lt_trichotomy i L.length with c | c | c
 ·rw[List.getElem?_append_left c] at hi
  refine e.mono (B:=⟨B.W,fun k=>(B.keep k∧H k)∧G k=i⟩) (fun k hk _=>⟨⟨hk.1.1,?_⟩,rfl⟩) (h1 i e hi)
  show (if H k then _ else _)=_
  rw[if_pos hk.1.2]
  exact hk.2
 ·subst c
  rw[List.getElem?_append_right (Nat.le_refl _)] at hi
  simp at hi
  subst hi
  refine d.mono (B:=⟨B.W,fun k=>B.keep k∧¬H k⟩) (fun k hk _=>⟨⟨hk.1,?_⟩,rfl⟩) h2
  show (if H k then _ else _)=_
  rw[if_neg hk.2]
 ·rw[List.getElem?_eq_none (by simp;omega)] at hi;cases hi
theorem eF.nil:eF [] B:=⟨fun _=>0,fun j d hj=>by simp at hj⟩
theorem Rel.nS(h:Rel B w (eF L :: τ)):Rel B w (L++τ):=by
 obtain⟨c,h⟩:=h
 obtain⟨G,hG⟩:=h.own 0 _ rfl
 refine⟨fun k=>if c k=0 then 0 else if c k=1 then(if G k<L.length then G k+1 else 0) else c k-1+L.length,h.os,h.tape,h.output,h.size,fun k hk hs=>?_,h.same,fun j d hj=>?_⟩
 ·have:=h.keepc k hk hs
  simp only[this]
  rfl
 ·by_cases hl:j<L.length
  ·rw[List.getElem?_append_left hl] at hj
   refine d.wide (fun k hk hs=>?_) (hG j d hj)
   obtain⟨h1,h2⟩:=hk
   have h1:c k=1:=h1
   have h2:G k=j:=h2
   show (if c k=0 then 0 else if c k=1 then(if G k<L.length then G k+1 else 0) else _)=j+1
   rw[if_neg (by omega),if_pos h1,if_pos (by omega),h2]
  ·rw[List.getElem?_append_right (by omega)] at hj
   refine d.wide (fun k hk hs=>?_) (h.own (j-L.length+1) d (by rw[List.getElem?_cons_succ];exact hj))
   have hk:c k=j-L.length+1+1:=hk
   show (if c k=0 then 0 else if c k=1 then _ else c k-1+L.length)=j+1
   rw[if_neg (by omega),if_neg (by omega)]
   omega
theorem Rel.RL(h:Rel B w (L++τ)):Rel B w (eF L :: τ):=by
 obtain⟨c,h⟩:=h
 refine⟨fun k=>if c k=0 then 0 else if c k≤L.length then 1 else c k-L.length+1,h.os,h.tape,h.output,h.size,fun k hk hs=>?_,h.same,fun j d hj=>?_⟩
 ·have:=h.keepc k hk hs
  simp only[this]
  rfl
 ·cases j with
  | zero =>
   simp at hj
   subst hj
   refine⟨fun k=>c k-1,fun i e hi=>?_⟩
   have hl:i<L.length:=(List.getElem?_eq_some_iff.1 hi).1
   refine e.wide (fun k hk hs=>?_) (h.own i e (by rw[List.getElem?_append_left hl];exact hi))
   have hk:c k=i+1:=hk
   refine⟨?_,?_⟩
   ·show (if c k=0 then 0 else if c k≤L.length then 1 else _)=0+1
    rw[if_neg (by omega),if_pos (by omega)]
   ·show c k-1=i
    omega
  | succ j =>
   rw[List.getElem?_cons_succ] at hj
   refine d.wide (fun k hk hs=>?_) (h.own (L.length+j) d (by rw[List.getElem?_append_right (by omega),Nat.add_sub_cancel_left];exact hj))
   have hk:c k=L.length+j+1:=hk
   show (if c k=0 then 0 else if c k≤L.length then 1 else c k-L.length+1)=j+1+1
   rw[if_neg (by omega),if_neg (by omega)]
   omega
end
section
variable {B:Base} {w:World} {σ τ:List Dat}
theorem Rel.wrap{c:Dat}(h:Rel B w (σ++τ))(hc:∀B':Base,(∀{i:Nat} {d:Dat},τ[i]? = some d→d B')→c B'):Rel B w (σ++[c]):=by
 obtain⟨o,h⟩:=h
 refine⟨fun k=>if o k≤σ.length then o k else σ.length+1,h.os,h.tape,h.output,h.size,fun k hk hs=>?_,h.same,fun j d hj=>?_⟩
 ·have:=h.keepc k hk hs
  simp only[this]
  rfl
 ·rcases Nat.lt_trichotomy j σ.length with hl | hl | hl
  ·rw[List.getElem?_append_left hl] at hj
   refine d.wide (fun k hk hs=>?_) (h.own j d (by rw[List.getElem?_append_left hl];exact hj))
   have hk:o k=j+1:=hk
   show (if o k≤σ.length then o k else σ.length+1)=_
   rw[if_pos (by omega)]
   exact hk
  ·subst hl
   rw[List.getElem?_append_right (Nat.le_refl _)] at hj
   simp at hj
   subst hj
   refine hc _ fun {i e} hi=>?_
   refine e.wide (fun k hk hs=>?_) (h.own (σ.length+i) e (by rw[List.getElem?_append_right (by omega),Nat.add_sub_cancel_left];exact hi))
   have hk:o k=σ.length+i+1:=hk
   show (if o k≤σ.length then o k else σ.length+1)=_
   rw[if_neg (by omega)]
  ·rw[List.getElem?_eq_none (by simp;omega)] at hj;cases hj
theorem Rel.iU{L:List Dat}(h:Rel B w (σ++L)):Rel B w (σ++[eF L]):=by
 obtain⟨o,h⟩:=h
 refine⟨fun k=>if o k≤σ.length then o k else σ.length+1,h.os,h.tape,h.output,h.size,fun k hk hs=>?_,h.same,fun j d hj=>?_⟩
 ·have:=h.keepc k hk hs
  simp only[this]
  rfl
 ·rcases Nat.lt_trichotomy j σ.length with hl | hl | hl
  ·rw[List.getElem?_append_left hl] at hj
   refine d.wide (fun k hk hs=>?_) (h.own j d (by rw[List.getElem?_append_left hl];exact hj))
   have hk:o k=j+1:=hk
   show (if o k≤σ.length then o k else σ.length+1)=_
   rw[if_pos (by omega)]
   exact hk
  ·subst hl
   rw[List.getElem?_append_right (Nat.le_refl _)] at hj
   simp at hj
   subst hj
   refine⟨fun k=>o k - σ.length-1,fun i e hi=>?_⟩
   refine e.wide (fun k hk hs=>?_) (h.own (σ.length+i) e (by rw[List.getElem?_append_right (by omega),Nat.add_sub_cancel_left];exact hi))
   have hk:o k=σ.length+i+1:=hk
   refine⟨?_,?_⟩
   ·show (if o k≤σ.length then o k else σ.length+1)=_
    rw[if_neg (by omega)]
   ·show o k - σ.length-1=i
    omega
  ·rw[List.getElem?_eq_none (by simp;omega)] at hj;cases hj
theorem FW{E:TypeId}{v:Value}{α:Type}[Enc α]{l:List α}(h:Rel B w σ)(i:Nat)(hi:σ[i]? = some (Y3 E v l)):∃x n c,v = .slice x n c:=by
 rcases h.here hi with⟨rfl,_⟩ | ⟨g,cap,_,rfl,_⟩
 ·exact⟨_,_,_,rfl⟩
 ·exact⟨_,_,_,rfl⟩
theorem Rel.jk0{d:Dat}(h:Rel B w σ)(hd:∀B,d B):Rel B w (σ++[d]):=by
 obtain⟨c,h⟩:=h
 refine⟨c,h.os,h.tape,h.output,h.size,h.keepc,h.same,fun j e hj=>?_⟩
 by_cases hl:j<σ.length
 ·rw[List.getElem?_append_left hl] at hj;exact h.own j e hj
 ·rw[List.getElem?_append_right (by omega)] at hj
  have:j=σ.length:=by
   rcases Nat.lt_trichotomy j σ.length with c | c | c
   ·omega
   ·exact c
   ·rw[List.getElem?_eq_none (by simp;omega)] at hj;cases hj
  subst this
  simp at hj
  subst hj
  exact hd _
end
abbrev uB:=NK
abbrev SN:=QG
abbrev Cm0:=rR
structure T3 (α:Type) where
 a:α
 b:α
 c:α
 deriving DecidableEq
def T3.get{α:Type}(t:T3 α)(i:Int):α:=if i=0 then t.a else if i=1 then t.b else t.c
def T3.set{α:Type}(t:T3 α)(i:Int)(x:α):T3 α:=if i=0 then { t with a:=x } else if i=1 then { t with b:=x } else { t with c:=x }
abbrev I3(i:Int):Prop:=0≤i∧i<3
theorem I3.cases{i:Int}(h:I3 i):i=0∨i=1∨i=2:=by unfold I3 at h;omega
structure R9 where
 kind:Int
 from_:Int
 to_:Int
 term:Int
 index:Int
 prev:Int
 commit:Int
 yes:Bool
 recs:List uB
 deriving DecidableEq
def R9.raw(m:R9)(v:SV):Cm0:=⟨m.kind,m.from_,m.to_,m.term,m.index,m.prev,m.commit,m.yes,v⟩
structure G8 where
 id:Int
 hard:SN
 log:List uB
 role:Int
 commit:Int
 votes:T3 Bool
 next:T3 Int
 mtch:T3 Int
 deriving DecidableEq
abbrev M_(r:G8)(lv:Value):Array Value:=#[.int .i64 r.id,.int .i64 r.hard.term,.int .i64 r.hard.vote,lv,.int .i64 r.role,.int .i64 r.commit,.bool r.votes.a,.bool r.votes.b,.bool r.votes.c,
 .int .i64 r.next.a,.int .i64 r.next.b,.int .i64 r.next.c,.int .i64 r.mtch.a,.int .i64 r.mtch.b,.int .i64 r.mtch.c]
def yA0(p:Nat)(r:G8)(lv:SV):List Dat:=[O1 p I1 (M_ r lv.1),Y3 X3 lv.1 r.log]
def bA(p:Nat)(r:G8):Dat:=Dat.ex fun lv:SV=>eF (yA0 p r lv)
def pJ(p:Nat)(r:G8):Dat:=Dat.ex fun lv:SV=>Dat.and (O1 p I1 (M_ r lv.1)) (O4 lv.1 r.log)
def RA:List uB→Int→Int→Bool
 | [],_,_=>true
 | x :: l,least,most=>if x.term<least then false else if most<x.term then false else if 2000<x.data.size then false else RA l x.term most
def bK(l:List uB)(n:Int):Int:=if n=0 then 0 else((l[(n-1).toNat]?).map (·.term)).getD 0
def o8(id:Int):List Int:=[0,1,2].filter fun i=>!decide (i=id)
structure Y9 (r:G8):Prop where
 id:I3 r.id
 term:0≤r.hard.term∧r.hard.term≤1099511627776
 vote : -1≤r.hard.vote∧r.hard.vote≤2
 len:r.log.length≤4000
 sound:RA r.log 1 r.hard.term=true
 role:r.role=0∨r.role=1∨r.role=2
 commit:0≤r.commit∧r.commit≤r.log.length
 next:r.role=2→∀i,I3 i→1≤r.next.get i∧r.next.get i≤r.log.length+1
 mtch:r.role=2→∀i,I3 i→0≤r.mtch.get i∧r.mtch.get i≤r.log.length
def bG0(k f t term index prev commit:Int)(yes:Bool)(v:Value):Value := .agg #[.int .i64 k,.int .i64 f,.int .i64 t,.int .i64 term,.int .i64 index,.int .i64 prev,.int .i64 commit,.bool yes,v]
def wN(v:Value)(L:List R9):Dat:=Dat.ex fun vs:List SV=>Dat.and (Dat.pure (vs.length=L.length)) (Dat.and (O4 v (List.zipWith R9.raw L vs)) (Dat.all (L.zip vs) fun q=>O4 q.2.1 q.1.recs))
section
variable {B:Base} {w:World} {σ τ:List Dat} {p:Nat} {r:G8}
theorem bA.open(h:Rel B w (bA p r :: τ)):∃lv,Rel B w (yA0 p r lv++τ):=by
 obtain⟨lv,h⟩:=h.ex (i:=0) rfl
 exact⟨lv,Rel.nS h⟩
theorem bA.close(lv:SV)(h:Rel B w (yA0 p r lv++τ)):Rel B w (bA p r :: τ) :=
 (Rel.RL h).imp (i:=0) (e:=bA p r) rfl fun B hB=>⟨lv,hB⟩
theorem bA.toR(h:bA p r B):pJ p r B:=by
 obtain⟨lv,h⟩:=h
 exact⟨lv,eF.get (j:=0) h rfl,Y3.read (eF.get (j:=1) h rfl)⟩
theorem pJ.jP(h:pJ p r B):∃lv:SV,O1 p I1 (M_ r lv.1) B∧O4 lv.1 r.log B:=h
theorem WI(n a b:Int):Gives prog B (Z0 D_ #[.int .i64 n,.int .i64 a,.int .i64 b]) (.bool (decide (a≤n)&&decide (n≤b))):=by
 refine Gives.intro fun B' w K base h k=>?_
 refine NM.up ?_
 unfold NM.pt
 rw[FC,K3]
 refine⟨fun c=>?_,fun c=>?_⟩
 ·rw[WC]
  rw[decide_eq_true (p:=a≤n) (by omega),Bool.true_and] at k
  exact k _ _ h
 ·rw[decide_eq_false (p:=a≤n) (by omega),Bool.false_and] at k
  exact k _ _ h
theorem Zt0{v:Value}{l:List uB}(q:O4 v l B)(hl:l.length≤1000000000)(least most:Int):Gives prog B (Z0 BM #[v,.int .i64 least,.int .i64 most]) (.bool (RA l least most)):=by
 refine Gives.intro fun B' w K base h k=>?_
 replace q:=base q
 refine LP.up ?_
 unfold LP.pt
 rw[O4.len q u6]
 refine F6 (fun z w'=>∃(i:Nat) (m:Int),i≤l.length∧z=(.int .i64 m,.int .i64 i,())∧RA (l.drop i) m most=RA l least most∧Rel B' w' []) (fun z _=>l.length-(match z.2.1 with | .int _ n=>n.toNat | _=>0))
  ⟨0,least,Nat.zero_le _,rfl,rfl,h⟩ ?_
 clear h
 rintro z w1 ⟨i,m,hi,rfl,hs,h⟩ next hnext
 rw[G6,K3]
 refine⟨fun hlt=>?_,fun hge=>?_⟩
 case refine_2 =>
  have:i=l.length:=by omega
  subst this
  rw[List.drop_length] at hs
  have hs:true=RA l least most:=hs
  rw[←hs] at k
  exact k _ _ h
 have hil:i<l.length:=by omega
 obtain⟨g,o,hx,hc⟩:=O4.idx q u6 (P:=prog) hil
 have hc:K6 g o l[i].cs B':=hc
 rw[hx,K6.r9 (h.L6 hc) S9 rfl]
 rw[List.drop_eq_getElem_cons hil,RA] at hs
 generalize l[i]=x at *
 refine h.R8 (ds:=x.cs.toArray) CL rfl S9 rfl (fun v hv=>Enc.one x v hv) fun b w2 h=>?_
 have h:Rel B' w2 [O1 b X3 x.cs.toArray]:=h
 simp -zeta only[U0 NS,U0 bW,Nat.zero_add]
 rw[h.ld 0 rfl Y2 (o:=0) (v := .int .i64 x.term) rfl,G6,K3]
 refine⟨fun c=>?_,fun c=>?_⟩
 ·rw[if_pos c] at hs;rw[←hs] at k;exact k _ _ h
 rw[if_neg c] at hs
 rw[h.ld 0 rfl Y2 (o:=0) (v := .int .i64 x.term) rfl,x9,K3]
 refine⟨fun c=>?_,fun c=>?_⟩
 ·rw[if_pos c] at hs;rw[←hs] at k;exact k _ _ h
 rw[if_neg c] at hs
 rw[h.ld 0 rfl U6 (o:=1) (v := .string x.data) rfl,LC K8,x9,K3]
 refine⟨fun c=>?_,fun c=>?_⟩
 ·rw[if_pos (by omega)] at hs;rw[←hs] at k;exact k _ _ h
 rw[if_neg (by omega)] at hs
 rw[h.ld 0 rfl Y2 (o:=0) (v := .int .i64 x.term) rfl,Z5,E5 (by omega) (by omega)]
 exact hnext _ _ ⟨i+1,x.term,hil,rfl,hs,h.nil⟩ (by simp only;omega)
theorem iX(a:pJ p r B)(hlen:r.log.length≤1000000){n:Int}(hn:0≤n∧n≤r.log.length):Gives prog B (Z0 C_ #[ptr p,.int .i64 n]) (.int .i64 (bK r.log n)):=by
 refine Gives.intro fun B' w K base h k=>?_
 replace a:=base a
 refine LG.up ?_
 unfold LG.pt
 obtain⟨lv,c0,c1⟩:=pJ.jP a
 unfold bK at k
 rw[F7,K3]
 refine⟨fun c=>?_,fun c=>?_⟩
 ·rw[if_pos c] at k;exact k _ _ h
 rw[if_neg c] at k
 obtain⟨m,rfl⟩:∃m:Nat,n=m+1:=⟨(n-1).toNat,by omega⟩
 have hm:m<r.log.length:=by omega
 rw[show ((m:Int)+1-1).toNat=m by omega,List.getElem?_eq_getElem hm] at k
 simp -zeta only[J5,U0 x_,Nat.zero_add]
 rw[O1.ld (h.L6 c0) X5 (o:=3) (v:=lv.1) rfl,TB]
 have hw:IntKind.wrap .i64 ((m:Int)+1-1)=m:=by
  rw[show (m:Int)+1-1=m by omega]
  exact E5 (by omega) (by omega)
 rw[hw]
 obtain⟨g,o,hx,hc⟩:=O4.idx c1 u6 (P:=prog) hm
 have hc:K6 g o r.log[m].cs B':=hc
 rw[hx,U0 NS,Nat.add_zero,K6.ld0 (h.L6 hc) Y2 (v := .int .i64 r.log[m].term) rfl]
 exact k _ _ h
theorem eX(a:pJ p r B)(kind to_:Int):Gives prog B (Z0 zA #[ptr p,.int .i64 kind,.int .i64 to_]) (bG0 kind r.id to_ r.hard.term 0 0 0 false (.slice none 0 0)):=by
 refine Gives.intro fun B' w K base h k=>?_
 replace a:=base a
 refine jE.up ?_
 unfold jE.pt
 obtain⟨lv,c0,c1⟩:=pJ.jP a
 refine h.alloc vJ fun o w1 h=>?_
 have h:=h.tick
 generalize tick w1=w1 at *
 simp -zeta only[J5,U0 kH,U0 w_,U0 KC,Nat.zero_add,Nat.add_zero]
 rw[O1.ld (h.L6 c0) Y2 (o:=0) (v := .int .i64 r.id) rfl,O1.ld (h.L6 c0) Y2 (o:=1) (v := .int .i64 r.hard.term) rfl,qY]
 refine h.YG 0 (ds:=#[.int .i64 kind,.int .i64 r.id,.int .i64 to_,.int .i64 r.hard.term,.int .i64 0,.int .i64 0,.int .i64 0,.bool false,.slice none 0 0]) rfl Z8 rfl rfl (fun v hv=>?_) fun w2 h=>?_
 ·simp only[List.mem_cons,List.not_mem_nil,or_false] at hv
  rcases hv with rfl | rfl | rfl | rfl | rfl | rfl | rfl | rfl | rfl<;>rfl
 rw[qJ h 0 rfl Z8 rfl]
 exact k _ _ h
theorem Pu0{v f:Value}{l:List Int}(hl:l.length≤4611686018427387904)(p:Int→Bool)
  (hf:∀B':Base,(∀{d:Dat},d B→d B')→∀x∈l,Gives prog B' (dA f #[Enc.val x]) (.bool (p x))):Does prog B (Y3 Q0 v l) (Z0 ED #[v,f]) fun u e' τ=>e'=Y3 Q0 u (l.filter fun x=>!p x)∧τ=[]:=by
 refine Does.intro fun B' w K base h k=>?_
 refine tC.up ?_
 unfold tC.pt
 refine h.ask (fun B2 own base2=>RQ (Y3.read (own (i:=0) rfl)) hl p fun B3 base3 x hx=>hf B3 (fun hd=>base3 (base2 (base hd))) x hx) fun w1 h=>?_
 simp -zeta only[F7,K3]
 refine⟨fun e=>?_,fun e=>?_⟩
 ·have hno:=(yZ (p:=p) (l:=l)).1.1 (by omega)
  have hfl:(l.filter fun x=>!p x)=l:=List.filter_eq_self.2 fun x hx=>by simp [hno x hx]
  rw[hfl] at k
  exact k _ _ _ _ ⟨rfl,rfl⟩ h
 ·obtain⟨m,hm,hml,hmp,hmno⟩:∃m:Nat,jO p l=m∧∃hm:m<l.length,p l[m]=true∧∀x∈l.take m,p x=false:=by
   unfold jO at e ⊢
   split at e
   ·rename_i i hi
    obtain⟨h1,h2,h3⟩:=List.findIdx?_eq_some_iff_getElem.1 hi
    refine⟨i,rfl,h1,h2,fun x hx=>?_⟩
    obtain⟨j,hj,rfl⟩:=List.getElem_of_mem hx
    have:=h3 j (by simp at hj;omega)
    simp at this ⊢
    exact this
   ·exact absurd rfl e
  rw[hm]
  obtain⟨g,cap,rfl⟩:=h.open_ (i:=0) rfl (by omega)
  simp -zeta only[Z5]
  rw[E5 (by omega) (by omega)]
  refine F6 (fun x w'=>∃(i j:Nat) (l':List Int),j≤l.length∧i<j∧x=(.int .i64 i,.int .i64 j,())∧l'.length=l.length∧l'.take i=(l.take j).filter (fun x=>!p x)∧l'.drop j=l.drop j∧Rel B' w' [Y3 Q0 (.slice (some ⟨g,0,none⟩) l.length cap) l'])
   (fun x _=>l.length-(match x.2.1 with | .int _ n=>n.toNat | _=>0)) ⟨m,m+1,l,by omega,by omega,by simp,rfl,?_,rfl,h⟩ ?_
  ·rw[List.take_succ_eq_append_getElem hml,List.filter_append,List.filter_eq_self.2 fun x hx=>by simp [hmno x hx]]
   simp [hmp]
  clear h
  rintro x w2 ⟨i,j,l',hj,hij,rfl,hl',ht,hd,h⟩ next hnext
  have hrd:=Y3.read (h.here (i:=0) rfl)
  simp -zeta only[O4.len hrd N8,hl',G6,K3]
  refine⟨fun hlt=>?_,fun hge=>?_⟩
  ·have hjl:j<l.length:=by omega
   have hjl':j<l'.length:=by omega
   have hel:l'[j]=l[j]:=by
    have h1:(l'.drop j)[0]? = (l.drop j)[0]? := by rw[hd]
    simpa [hjl,hjl'] using h1
   have hd1:l'.drop (j+1)=l.drop (j+1):=by
    have:=congrArg (List.drop 1) hd
    simpa using this
   have hs:(l.take (j+1)).filter (fun x=>!p x)=(l.take j).filter (fun x=>!p x)++(if p l[j]=true then [] else [l[j]]):=by
    rw[List.take_succ_eq_append_getElem hjl,List.filter_append]
    congr 1
    cases hp:p l[j]<;>simp [hp]
   refine P6 fun J hJ=>?_
   replace hJ:∀w' (i:Nat) (l':List Int),i<j+1→l'.length=l.length→l'.take i=(l.take (j+1)).filter (fun x=>!p x)→l'.drop (j+1)=l.drop (j+1)→Rel B' w' [Y3 Q0 (.slice (some ⟨g,0,none⟩) l.length cap) l']→J (.int .i64 i,()) w':=by
    intro w' i l' h1 h2 h3 h4 h5
    refine hJ _ _ ?_
    show M0 _ _ _
    rw[Z5,E5 (by omega) (by omega)]
    exact hnext _ _ ⟨i,j+1,l',by omega,h1,rfl,h2,h3,h4,h5⟩ (by simp only;omega)
   clear hnext
   have hc:=h.elem (α:=Int) (i:=0) (j:=j) rfl hjl'
   rw[hel] at hc
   simp -zeta only[bX (α:=Int) N8 hjl,K6.ld0 hc Y2 (v := .int .i64 l[j]) rfl]
   refine h.ask (fun B2 own base2=>hf B2 (fun hd=>base2 (base hd)) l[j] (List.getElem_mem hjl)) fun w4 h=>?_
   simp -zeta only[V7,G5]
   rw[R5]
   refine⟨fun hp=>?_,fun hp=>?_⟩
   ·refine hJ w4 i l' (by omega) hl' ?_ hd1 (h.take 1)
    rw[hs,if_pos hp,ht,List.append_nil]
   ·simp -zeta only[bX (α:=Int) N8 (show i<l.length by omega)]
    refine h.km0 (α:=Int) 0 rfl l[j] (j:=i) (by omega) (f:=0) rfl (by decide) rfl Y2 rfl fun w5 h=>?_
    simp -zeta only[Z5]
    rw[E5 (by omega) (by omega)]
    refine hJ w5 (i+1) (l'.set i l[j]) (by omega) (by simp [hl']) ?_ ?_ (h.take 1)
    ·rw[hs,if_neg (by rw[hp];decide),←ht,List.take_succ_eq_append_getElem (by simp;omega),List.take_set_of_le (Nat.le_refl _)]
     simp
    ·rw[List.drop_set_of_lt (by omega),hd1]
  ·have:j=l.length:=by omega
   subst this
   rw[List.take_length] at ht
   rw[O4.Ue0 hrd N8 (lo:=i) (hi:=l'.length) Bnd.some Bnd.none (by omega) (Nat.le_refl _),hl']
   refine h.Re0 0 rfl N8 (by omega) fun w3 h=>?_
   rw[ht] at h
   exact k _ _ _ _ ⟨rfl,rfl⟩ h
theorem ug0(a:pJ p r B):Makes prog B (Z0 RB #[ptr p]) fun u τ=>τ=[Y3 Q0 u (o8 r.id)]:=by
 refine Makes.intro fun B' w K base h k=>?_
 replace a:=base a
 refine VE.up ?_
 unfold VE.pt
 refine h.box fun b w1 h=>?_
 have h:Rel B' w1 [O1 b J7 #[ptr p]]:=h
 refine h.NV ([0,1,2]:List Int) N8 fun v w2 h=>?_
 rw[TI]
 refine h.act 1 rfl (fun B2 own base2=>Pu0 (by decide) (fun i=>decide (i=r.id)) fun B3 base3 x _=>?_) fun u e' τ w3 hp h=>?_
 ·have a3:=base3 (base2 a)
  have cb:=base3 (own (j:=0) (by decide) rfl)
  obtain⟨lv,c0,c1⟩:=pJ.jP a3
  refine Gives.intro fun B4 w K base4 h k=>?_
  refine YH (?_:upK prog (Z0 sF #[.int .i64 x,ptr b]) w K)
  refine wD.up ?_
  unfold wD.pt
  rw[O1.ld (h.L6 (base4 cb)) P8 (o:=0) (v:=ptr p) rfl]
  simp -zeta only[J5,U0 kH,Nat.zero_add]
  rw[O1.ld (h.L6 (base4 c0)) Y2 (o:=0) (v := .int .i64 r.id) rfl,F7]
  exact k _ _ h
 ·obtain⟨rfl,rfl⟩:=hp
  exact k _ _ _ rfl (h.pick [1] (by decide))
end
structure vE where
 save:Bool
 hard:SN
 from_:Int
 recs:List uB
 send:List R9
 deriving DecidableEq
def o0:vE:=⟨false,⟨0,0⟩,0,[],[]⟩
def f_(o:vE)(rv sv:Value):Array Value:=#[.bool o.save,.int .i64 o.hard.term,.int .i64 o.hard.vote,.int .i64 o.from_,rv,sv]
def eG(u:Value)(o:vE):Dat:=Dat.ex fun q:SV×SV=>Dat.and (Dat.pure (u = .agg (f_ o q.1.1 q.2.1))) (Dat.and (O4 q.1.1 o.recs) (wN q.2.1 o.send))
def z_(r:G8)(to_:Int):R9:=⟨2,r.id,to_,r.hard.term,r.next.get to_-1,bK r.log (r.next.get to_-1),r.commit,false,(r.log.drop (r.next.get to_-1).toNat).take 8⟩
def PR(r:G8):List R9:=(o8 r.id).map (z_ r)
def PO(r:G8):G8:={ r with hard:=⟨r.hard.term+1,r.id⟩,role:=1,votes:=(⟨false,false,false⟩:T3 Bool).set r.id true }
def qd0(r:G8)(i:Int):R9:=⟨0,r.id,i,r.hard.term,r.log.length,bK r.log r.log.length,0,false,[]⟩
def oI(r:G8):G8×vE :=
 if r.role=2 then(r,{ o0 with send:=PR r })
 else if r.hard.term=1099511627776 then(r,o0)
 else(PO r,{ o0 with save:=true,hard:=(PO r).hard,send:=(o8 r.id).map (qd0 (PO r)) })
theorem BX{α:Type}[Enc α]{B:Base}:O4 (.slice none 0 0) ([]:List α) B:=⟨none,0,rfl,Nat.le_refl _,.inl rfl⟩
theorem Jz0{B:Base}:wN (.slice none 0 0) [] B:=⟨[],rfl,BX,fun q hq=>by cases hq⟩
theorem XU{r:G8}{lv:Value}{i:Int}(hi:I3 i):(M_ r lv).toList[9+i.toNat]? = some (.int .i64 (r.next.get i))∧(M_ r lv).toList[12+i.toNat]? = some (.int .i64 (r.mtch.get i))∧(M_ r lv).toList[6+i.toNat]? = some (.bool (r.votes.get i)):=by
 rcases hi.cases with rfl | rfl | rfl<;>exact⟨rfl,rfl,rfl⟩
theorem mV{r:G8}{lv:Value}{i:Int}(hi:I3 i)(n:Int)(b:Bool):(M_ r lv).setIfInBounds (9+i.toNat) (.int .i64 n)=M_ { r with next:=r.next.set i n } lv∧(M_ r lv).setIfInBounds (12+i.toNat) (.int .i64 n)=M_ { r with mtch:=r.mtch.set i n } lv∧(M_ r lv).setIfInBounds (6+i.toNat) (.bool b)=M_ { r with votes:=r.votes.set i b } lv:=by
 rcases hi.cases with rfl | rfl | rfl<;>exact⟨rfl,rfl,rfl⟩
theorem rv0{Kp:Value→Prop}{p o:Nat}{i:Int}(hi:I3 i):M0 prog (I5 FM (.pointer (some ⟨p,o,none⟩)) (.int .i64 i)) Kp=Kp (.pointer (some ⟨p,o+i.toNat,none⟩)):=by
 rcases hi.cases with rfl | rfl | rfl<;>exact F5 fun w=>by kernel_rfl
theorem LE0{Kp:Value→Prop}{p o:Nat}{i:Int}(hi:I3 i):M0 prog (I5 VH (.pointer (some ⟨p,o,none⟩)) (.int .i64 i)) Kp=Kp (.pointer (some ⟨p,o+i.toNat,none⟩)):=by
 rcases hi.cases with rfl | rfl | rfl<;>exact F5 fun w=>by kernel_rfl
theorem sU{id i:Int}(h:i∈o8 id):I3 i:=by
 unfold o8 at h
 have:=(List.mem_filter.1 h).1
 simp only[List.mem_cons,List.not_mem_nil,or_false] at this
 unfold I3
 omega
theorem sS(id:Int):(o8 id).length≤3:=List.length_filter_le _ _
section
variable {B:Base} {w:World} {σ τ:List Dat} {p:Nat} {r:G8}
theorem pJ.of{lv:Value}(h1:lv.oneCell'=true)(h2:O1 p I1 (M_ r lv) B)(h3:O4 lv r.log B):pJ p r B:=⟨⟨lv,h1⟩,h2,h3⟩
set_option maxHeartbeats 1000000 in
theorem Ki0(a:pJ p r B)(hk:Y9 r)(hlead:r.role=2){to_:Int}(ht:I3 to_):Makes prog B (Z0 yA #[ptr p,.int .i64 to_]) fun u τ=>∃v:SV,u=((z_ r to_).raw v).v∧τ=[Y3 X3 v.1 (z_ r to_).recs]:=by
 refine Makes.intro fun B' w K base h k=>?_
 replace a:=base a
 refine iE.up ?_
 unfold iE.pt
 obtain⟨lv,c0,c1⟩:=pJ.jP a
 have hlen:=hk.len
 have hnext:=hk.next hlead to_ ht
 have g3:=(XU (r:=r) (lv:=lv.1) ht).1
 obtain⟨n,hn⟩:∃n:Nat,r.next.get to_=n+1:=⟨(r.next.get to_-1).toNat,by omega⟩
 have hnl:n≤r.log.length:=by omega
 have hidx:r.next.get to_-1=(n:Int):=by omega
 have hE:∀v:SV,((z_ r to_).raw v).v=bG0 2 r.id to_ r.hard.term n (bK r.log n) r.commit false v.1:=fun v=>by
  unfold z_ R9.raw
  rw[hidx]
  rfl
 have hR:(z_ r to_).recs=(r.log.drop n).take 8:=by
  unfold z_
  rw[hidx]
  rfl
 refine h.alloc vJ fun o w1 h=>?_
 refine h.ask (fun B2 own base2=>eX (base2 a) 2 to_) fun w2 h=>?_
 refine h.R8 (ds:=#[.int .i64 2,.int .i64 r.id,.int .i64 to_,.int .i64 r.hard.term,.int .i64 0,.int .i64 0,.int .i64 0,.bool false,.slice none 0 0]) vJ rfl Z8 rfl (fun v hv=>?_) fun m w3 h=>?_
 ·simp only[List.mem_cons,List.not_mem_nil,or_false] at hv
  rcases hv with rfl | rfl | rfl | rfl | rfl | rfl | rfl | rfl | rfl<;>rfl
 simp -zeta only[J5,U0 UL,U0 x_,U0 lH,U0 bF,U0 nN,U0 MS,U0 VP,Nat.zero_add]
 rw[rv0 ht,O1.ld (h.L6 c0) Y2 (o:=9+to_.toNat) g3,hn,TB,show (n:Int)+1-1=n by omega,E5 (by omega) (by omega)]
 refine h.st 1 rfl Y2 (o:=4) (show 4<9 by omega) rfl fun w4 h=>?_
 have h:=h.tick
 generalize tick w4=w4 at *
 rw[h.ld 1 rfl Y2 (o:=4) (v := .int .i64 n) rfl,O1.ld (h.L6 c0) Y2 (o:=5) (v := .int .i64 r.commit) rfl]
 refine h.ask (fun B2 own base2=>iX (base2 a) (by omega) ⟨by omega,by omega⟩) fun w5 h=>?_
 refine⟨O1.is (h.L6 c0) Y2 (o:=5) rfl,?_⟩
 refine h.st 1 rfl Y2 (o:=5) (show 5<9 by omega) rfl fun w6 h=>?_
 refine⟨O1.is (h.L6 c0) Y2 (o:=5) rfl,?_⟩
 refine h.st 1 rfl Y2 (o:=6) (show 6<9 by omega) rfl fun w7 h=>?_
 have h:=h.tick
 generalize tick w7=w7 at *
 rw[O1.ld (h.L6 c0) X5 (o:=3) (v:=lv.1) rfl,h.ld 1 rfl Y2 (o:=4) (v := .int .i64 n) rfl,O1.ld (h.L6 c0) X5 (o:=3) (v:=lv.1) rfl,O4.len c1 u6,h.ld 1 rfl Y2 (o:=4) (v := .int .i64 n) rfl,Z5,E5 (by omega) (by omega),YK,
  show min (r.log.length:Int) ((n:Int)+8)=((min r.log.length (n+8):Nat):Int) by omega]
 have hcut:∀Kp:Value→Prop,M0 prog (y9 U3 lv.1 (some (.int .i64 n)) (some (.int .i64 (min r.log.length (n+8):Nat))) none) Kp=Kp (cutV 2 lv.1 n (min r.log.length (n+8))):=fun Kp =>
  O4.Ue0 (α:=uB) (P:=prog) (lo:=n) (hi:=min r.log.length (n+8)) c1 u6 Bnd.some Bnd.some (by omega) (by omega)
 rw[hcut]
 have rc:=O4.Fk0 (lo:=n) (hi:=min r.log.length (n+8)) c1 (by omega) (by omega)
 have e:(r.log.take (min r.log.length (n+8))).drop n=(r.log.drop n).take 8:=by
  rw[List.drop_take]
  by_cases c:n+8≤r.log.length
  ·rw[show min r.log.length (n+8)-n=8 by omega]
  ·rw[List.take_of_length_le (by rw[List.length_drop];omega),List.take_of_length_le (by rw[List.length_drop];omega)]
 rw[e] at rc
 refine h.make (fun B2 own base2=>P_ (base2 rc) (by rw[List.length_take];omega) (by rw[List.length_take];omega)) fun u τ w8 hp h=>?_
 subst hp
 have hu1:u.oneCell'=true:=h.oneCell (i:=2) rfl
 refine h.st 1 rfl X5 (o:=8) (show 8<9 by omega) hu1 fun w9 h=>?_
 rw[h.r9 1 rfl Z8 rfl]
 refine h.YG 0 rfl Z8 rfl rfl (fun v hv=>?_) fun w10 h=>?_
 ·have hv:v∈[Value.int .i64 2,.int .i64 r.id,.int .i64 to_,.int .i64 r.hard.term,.int .i64 n,.int .i64 (bK r.log n),.int .i64 r.commit,.bool false,u]:=hv
  simp only[List.mem_cons,List.not_mem_nil,or_false] at hv
  rcases hv with rfl | rfl | rfl | rfl | rfl | rfl | rfl | rfl | rfl<;>first | rfl | exact hu1
 rw[qJ h 0 rfl Z8 rfl]
 refine k _ _ _ ⟨(⟨u,hu1⟩:SV),?_,?_⟩ (h.pick [2] (by decide))
 ·exact(hE (⟨u,hu1⟩:SV)).symm
 ·rw[hR]
  rfl
theorem Qv0{v v':Value}{L:List R9}{m:R9}{u:SV}{vs:List SV}(hl:vs.length=L.length)(h:Dat.all (L.zip vs) (fun q=>O4 q.2.1 q.1.recs) B)(hu:O4 u.1 m.recs B) :
  Dat.all ((L++[m]).zip (vs++[u])) (fun q=>O4 q.2.1 q.1.recs) B:=by
 rw[List.zip_append hl.symm]
 refine Dat.all_append h fun q hq=>?_
 have hq:q∈[(m,u)]:=hq
 rw[List.mem_singleton.1 hq]
 exact hu
set_option maxHeartbeats 1000000 in
theorem Wr0(a:pJ p r B)(hk:Y9 r)(hlead:r.role=2):Makes prog B (Z0 QB #[ptr p]) fun u τ=>τ=[wN u (PR r)]∧∃x n c,u = .slice x n c:=by
 refine Makes.intro fun B' w K base h k=>?_
 replace a:=base a
 refine EH.up ?_
 unfold EH.pt
 unfold PR at k
 refine h.make (fun B2 own base2=>ug0 (base2 a)) fun ov τ w1 hp h=>?_
 subst hp
 have h:Rel B' w1 [Y3 Q0 ov (o8 r.id)]:=h
 have ho3:=sS r.id
 rw[O4.len (Y3.read (h.here (i:=0) rfl)) N8]
 have h:=(h.VC Cm0 Y1).jk0 (d:=Dat.all (([]:List R9).zip ([]:List SV)) fun q=>O4 q.2.1 q.1.recs) fun B q hq=>by cases hq
 refine F6 (fun z w'=>∃(i:Nat) (v:Value) (vs:List SV),i≤(o8 r.id).length∧vs.length=i∧z=(v,.int .i64 i,())∧Rel B' w' [Y3 Q0 ov (o8 r.id),Y3 Y1 v (List.zipWith R9.raw (((o8 r.id).take i).map (z_ r)) vs),Dat.all ((((o8 r.id).take i).map (z_ r)).zip vs) fun q=>O4 q.2.1 q.1.recs])
  (fun z _=>(o8 r.id).length-(match z.2.1 with | .int _ n=>n.toNat | _=>0)) ⟨0,.slice none 0 0,[],Nat.zero_le _,rfl,rfl,h⟩ ?_
 clear h
 rintro z w2 ⟨i,v,vs,hi,hvs,rfl,h⟩ next hnext
 simp -zeta only[G6,K3]
 refine⟨fun hlt=>?_,fun hge=>?_⟩
 case refine_2 =>
  have:i=(o8 r.id).length:=by omega
  subst this
  rw[List.take_length] at h
  obtain⟨x,n,c,rfl⟩:=FW h 1 rfl
  have h:=h.pick [1,2] (by decide)
  refine k _ _ _ ⟨rfl,x,n,c,rfl⟩ (Rel.wrap (σ:=[]) h fun B2 own=>⟨vs,(by rw[List.length_map];exact hvs:vs.length=((o8 r.id).map (z_ r)).length),Y3.read (own (i:=0) rfl),own (i:=1) rfl⟩)
 have hil:i<(o8 r.id).length:=by omega
 have hmem:=List.getElem_mem hil
 obtain⟨g,o,hx,hc⟩:=O4.idx (Y3.read (h.here (i:=0) rfl)) N8 (P:=prog) hil
 rw[hx,K6.ld0 hc Y2 (v := .int .i64 (o8 r.id)[i]) rfl]
 have htk:((o8 r.id).take (i+1)).map (z_ r)=((o8 r.id).take i).map (z_ r)++[z_ r (o8 r.id)[i]]:=by
  rw[List.take_succ_eq_append_getElem hil,List.map_append]
  rfl
 have hll:(((o8 r.id).take i).map (z_ r)).length=i:=by rw[List.length_map,List.length_take];omega
 generalize ((o8 r.id).take i).map (z_ r)=L at *
 refine h.make (fun B2 own base2=>Ki0 (base2 a) hk hlead (sU hmem)) fun u τ w3 hp h=>?_
 obtain⟨u',rfl,rfl⟩:=hp
 have h:Rel B' w3 [Y3 Q0 ov (o8 r.id),Y3 Y1 v (List.zipWith R9.raw L vs),Dat.all (L.zip vs) fun q=>O4 q.2.1 q.1.recs,Y3 X3 u'.1 (z_ r (o8 r.id)[i]).recs]:=h
 have hzl:(List.zipWith R9.raw L vs).length=i:=by rw[List.length_zipWith];omega
 refine h.WS (α:=Cm0) 1 rfl ((z_ r (o8 r.id)[i]).raw u') vL (by decide) (by omega) (by omega) fun v' w4 h=>?_
 have h:Rel B' w4 ([Y3 Q0 ov (o8 r.id),Y3 Y1 v' (List.zipWith R9.raw L vs++[(z_ r (o8 r.id)[i]).raw u'])]++[Dat.all (L.zip vs) fun q=>O4 q.2.1 q.1.recs,Y3 X3 u'.1 (z_ r (o8 r.id)[i]).recs]):=h
 have h:=h.wrap (c:=Dat.all ((L++[z_ r (o8 r.id)[i]]).zip (vs++[u'])) fun q=>O4 q.2.1 q.1.recs) fun B2 own=>Qv0 (v:=v) (v':=v) (by omega) (own (i:=0) rfl) (Y3.read (own (i:=1) rfl))
 rw[Z5,E5 (by omega) (by omega)]
 refine hnext _ _ ⟨i+1,v',vs++[u'],hil,by rw[List.length_append,hvs];rfl,rfl,?_⟩ (by simp only;omega)
 rw[htk,List.zipWith_append (by omega)]
 exact h
end
structure WO (r:G8) (m:R9):Prop where
 kind:0≤m.kind∧m.kind≤3
 to_:m.to_=r.id
 from_:m.from_≠r.id
 from3:0≤m.from_∧m.from_≤2
 term:1≤m.term∧m.term≤1099511627776
 index:0≤m.index∧m.index≤4000
 prev:0≤m.prev∧m.prev≤m.term
 zero:m.index=0→m.prev=0
 commit:0≤m.commit∧m.commit≤4000
 few:m.recs.length≤8
 room:m.index+m.recs.length≤4000
 sound:RA m.recs (max 1 m.prev) m.term=true
theorem mr0(r:G8)(m:R9):((0≤m.kind∧m.kind≤3)∧m.to_=r.id∧m.from_≠r.id∧(0≤m.from_∧m.from_≤2)∧(1≤m.term∧m.term≤1099511627776)∧(0≤m.index∧m.index≤4000)∧(0≤m.prev∧m.prev≤m.term)∧(m.index=0→m.prev=0)∧(0≤m.commit∧m.commit≤4000)∧m.recs.length≤8∧m.index+m.recs.length≤4000∧RA m.recs (max 1 m.prev) m.term=true)↔WO r m :=
 ⟨fun⟨a,b,c,d,e,f,g,h,i,j,k,l⟩=>⟨a,b,c,d,e,f,g,h,i,j,k,l⟩,fun⟨a,b,c,d,e,f,g,h,i,j,k,l⟩=>⟨a,b,c,d,e,f,g,h,i,j,k,l⟩⟩
instance (r:G8) (m:R9):Decidable (WO r m):=decidable_of_iff _ (mr0 r m)
def Lt0(r:G8)(m:R9):Bool:=decide (WO r m)
def BN(r:G8)(m:R9)(yes:Bool):R9:=⟨1,r.id,m.from_,r.hard.term,0,0,0,yes,[]⟩
def Yk0(r:G8)(m:R9):Prop:=bK r.log r.log.length<m.prev∨m.prev=bK r.log r.log.length∧(r.log.length:Int)≤m.index
instance (r:G8) (m:R9):Decidable (Yk0 r m):=by unfold Yk0;exact inferInstance
def zY(r:G8)(m:R9):Prop:=m.term=r.hard.term∧(r.hard.vote = -1∨r.hard.vote=m.from_)∧Yk0 r m
instance (r:G8) (m:R9):Decidable (zY r m):=by unfold zY;exact inferInstance
def Vj0(r:G8)(m:R9):G8×vE :=
 if zY r m then({ r with hard:=⟨r.hard.term,m.from_⟩ },{ o0 with send:=[BN r m true] }) else(r,{ o0 with send:=[BN r m false] })
def OV(t:T3 Bool):Nat:=(if t.a then 1 else 0)+(if t.b then 1 else 0)+(if t.c then 1 else 0)
def CZ(r:G8):G8:={ r with role:=2,next:=⟨r.log.length+1,r.log.length+1,r.log.length+1⟩,mtch:=⟨0,0,0⟩ }
def dc0(r:G8)(m:R9):G8×vE :=
 if r.role≠1∨m.term≠r.hard.term∨m.yes=false then(r,o0)
 else if OV (r.votes.set m.from_ true)<2 then({ r with votes:=r.votes.set m.from_ true },o0)
 else(CZ { r with votes:=r.votes.set m.from_ true },{ o0 with send:=PR (CZ { r with votes:=r.votes.set m.from_ true }) })
theorem FE{o:vE}{rv sv:Value}(h1:rv.oneCell'=true)(h2:sv.oneCell'=true):∀v∈(f_ o rv sv).toList,v.oneCell'=true:=by
 intro v hv
 have hv:v∈[Value.bool o.save,.int .i64 o.hard.term,.int .i64 o.hard.vote,.int .i64 o.from_,rv,sv]:=hv
 simp only[List.mem_cons,List.not_mem_nil,or_false] at hv
 rcases hv with rfl | rfl | rfl | rfl | rfl | rfl<;>first | rfl | exact h1 | exact h2
section
variable {B:Base} {w:World} {σ τ:List Dat} {p:Nat} {r:G8}
theorem eG.of{o:vE}{rv sv:Value}(h1:rv.oneCell'=true)(h2:sv.oneCell'=true)(r1:O4 rv o.recs B)(r2:wN sv o.send B):eG (.agg (f_ o rv sv)) o B:=⟨(⟨rv,h1⟩,⟨sv,h2⟩),rfl,r1,r2⟩
theorem Fe0{m:R9}{v:SV}(q:O4 v.1 m.recs B):Makes prog B (Z0 A_ #[(m.raw v).v]) fun u τ=>∃s:SV,u = .agg (f_ { o0 with send:=[m] } (.slice none 0 0) s.1)∧τ=[Y3 Y1 s.1 [m.raw v]]:=by
 refine Makes.intro fun B' w K base h k=>?_
 replace q:=base q
 refine vO.up ?_
 unfold vO.pt
 refine h.box fun o w1 h=>?_
 have h:Rel B' w1 [O1 o Y1 (m.raw v).cs.toArray]:=h
 refine h.alloc qF fun t w2 h=>?_
 rw[h.r9 0 rfl Z8 rfl]
 refine h.XH (α:=Cm0) (m.raw v) vL (by decide) fun s w3 h=>?_
 have hs1:s.oneCell'=true:=h.oneCell (i:=2) rfl
 obtain⟨x,n,c,rfl⟩:=FW h 2 rfl
 rw[MU]
 refine h.YG 1 (ds:=f_ { o0 with send:=[m] } (.slice none 0 0) (.slice x n c)) rfl EC rfl rfl (FE rfl rfl) fun w4 h=>?_
 rw[qJ h 1 rfl EC rfl]
 exact k _ _ _ ⟨⟨.slice x n c,rfl⟩,rfl,rfl⟩ (h.pick [2] (by decide))
theorem EZ{m:R9}{v:SV}{s:Value}(h1:O4 s [m.raw v] B)(h2:O4 v.1 m.recs B):wN s [m] B:=⟨[v],rfl,h1,fun q hq=>by
 have hq:q∈[(m,v)]:=hq
 rw[List.mem_singleton.1 hq]
 exact h2⟩
set_option maxHeartbeats 1000000 in
theorem mA0(a:pJ p r B){m:R9}{v:SV}(q:O4 v.1 m.recs B)(hml:m.recs.length≤1000000):Gives prog B (Z0 QH #[ptr p,(m.raw v).v]) (.bool (Lt0 r m)):=by
 refine Gives.intro fun B' w K base h k=>?_
 replace a:=base a
 replace q:=base q
 refine QF.up ?_
 unfold QF.pt
 obtain⟨lv,c0,c1⟩:=pJ.jP a
 unfold Lt0 at k
 refine h.box fun o w1 h=>?_
 have h:Rel B' w1 [O1 o Y1 (m.raw v).cs.toArray]:=h
 refine P6 fun J hJ=>?_
 simp -zeta only[J5,U0 kH,U0 WV,U0 lN,U0 XV,U0 uK,U0 bF,U0 nN,U0 MS,U0 VP,Nat.zero_add] at hJ ⊢
 have h:=h.tick
 generalize tick w1=w1 at *
 rw[h.ld 0 rfl Y2 (o:=0) (v := .int .i64 m.kind) rfl]
 refine h.ask (fun B2 own base2=>WI m.kind 0 3) fun w2 h=>?_
 rw[V7,G5,R5]
 refine⟨fun k1=>?_,fun k1=>?_⟩
 case refine_2 =>
  rw[decide_eq_false (fun hh=>by rw[decide_eq_true hh.kind.1,decide_eq_true hh.kind.2] at k1;cases k1)] at k
  exact k _ _ h
 rw[Bool.and_eq_true,decide_eq_true_eq,decide_eq_true_eq] at k1
 rw[h.ld 0 rfl Y2 (o:=2) (v := .int .i64 m.to_) rfl,O1.ld (h.L6 c0) Y2 (o:=0) (v := .int .i64 r.id) rfl,Q7,G5,K3]
 refine⟨fun k2=>?_,fun k2=>?_⟩
 case refine_2 =>
  rw[decide_eq_false (fun hh=>k2 hh.to_)] at k
  exact k _ _ h
 rw[h.ld 0 rfl Y2 (o:=1) (v := .int .i64 m.from_) rfl,O1.ld (h.L6 c0) Y2 (o:=0) (v := .int .i64 r.id) rfl,F7,K3]
 refine⟨fun k3=>?_,fun k3=>?_⟩
 ·rw[decide_eq_false (fun hh=>hh.from_ k3)] at k
  exact k _ _ h
 rw[h.ld 0 rfl Y2 (o:=1) (v := .int .i64 m.from_) rfl]
 refine h.ask (fun B2 own base2=>WI m.from_ 0 2) fun w3 h=>?_
 rw[V7,G5,R5]
 refine⟨fun k4=>?_,fun k4=>?_⟩
 case refine_2 =>
  rw[decide_eq_false (fun hh=>by rw[decide_eq_true hh.from3.1,decide_eq_true hh.from3.2] at k4;cases k4)] at k
  exact k _ _ h
 rw[Bool.and_eq_true,decide_eq_true_eq,decide_eq_true_eq] at k4
 rw[h.ld 0 rfl Y2 (o:=3) (v := .int .i64 m.term) rfl]
 refine h.ask (fun B2 own base2=>WI m.term 1 1099511627776) fun w4 h=>?_
 rw[V7,G5,R5]
 refine⟨fun k5=>?_,fun k5=>?_⟩
 case refine_2 =>
  rw[decide_eq_false (fun hh=>by rw[decide_eq_true hh.term.1,decide_eq_true hh.term.2] at k5;cases k5)] at k
  exact k _ _ h
 rw[Bool.and_eq_true,decide_eq_true_eq,decide_eq_true_eq] at k5
 rw[h.ld 0 rfl Y2 (o:=4) (v := .int .i64 m.index) rfl]
 refine h.ask (fun B2 own base2=>WI m.index 0 4000) fun w5 h=>?_
 rw[V7,G5,R5]
 refine⟨fun k6=>?_,fun k6=>?_⟩
 case refine_2 =>
  rw[decide_eq_false (fun hh=>by rw[decide_eq_true hh.index.1,decide_eq_true hh.index.2] at k6;cases k6)] at k
  exact k _ _ h
 rw[Bool.and_eq_true,decide_eq_true_eq,decide_eq_true_eq] at k6
 rw[h.ld 0 rfl Y2 (o:=5) (v := .int .i64 m.prev) rfl,h.ld 0 rfl Y2 (o:=3) (v := .int .i64 m.term) rfl]
 refine h.ask (fun B2 own base2=>WI m.prev 0 m.term) fun w6 h=>?_
 rw[V7,G5,R5]
 refine⟨fun k7=>?_,fun k7=>?_⟩
 case refine_2 =>
  rw[decide_eq_false (fun hh=>by rw[decide_eq_true hh.prev.1,decide_eq_true hh.prev.2] at k7;cases k7)] at k
  exact k _ _ h
 rw[Bool.and_eq_true,decide_eq_true_eq,decide_eq_true_eq] at k7
 have rest:(m.index=0→m.prev=0)→∀w',Rel B' w' [O1 o Y1 (m.raw v).cs.toArray]→J () w':=by
  intro k8 w' h
  refine hJ _ _ ?_
  clear hJ
  rw[h.ld 0 rfl Y2 (o:=6) (v := .int .i64 m.commit) rfl]
  refine h.ask (fun B2 own base2=>WI m.commit 0 4000) fun w7 h=>?_
  rw[R5]
  refine⟨fun k9=>?_,fun k9=>?_⟩
  case refine_2 =>
   rw[decide_eq_false (fun hh=>by rw[decide_eq_true hh.commit.1,decide_eq_true hh.commit.2] at k9;cases k9)] at k
   exact k _ _ h
  rw[Bool.and_eq_true,decide_eq_true_eq,decide_eq_true_eq] at k9
  rw[h.ld 0 rfl X5 (o:=8) (v:=v.1) rfl,O4.len q u6,WC,K3]
  refine⟨fun k10=>?_,fun k10=>?_⟩
  case refine_2 =>
   rw[decide_eq_false (fun hh=>k10 (by have:=hh.few;omega))] at k
   exact k _ _ h
  rw[h.ld 0 rfl Y2 (o:=4) (v := .int .i64 m.index) rfl,h.ld 0 rfl X5 (o:=8) (v:=v.1) rfl,O4.len q u6,Z5,E5 (by omega) (by omega),WC,K3]
  refine⟨fun k11=>?_,fun k11=>?_⟩
  case refine_2 =>
   rw[decide_eq_false (fun hh=>k11 hh.room)] at k
   exact k _ _ h
  rw[h.ld 0 rfl X5 (o:=8) (v:=v.1) rfl,h.ld 0 rfl Y2 (o:=5) (v := .int .i64 m.prev) rfl,II,h.ld 0 rfl Y2 (o:=3) (v := .int .i64 m.term) rfl]
  refine h.ask (fun B2 own base2=>Zt0 (base2 q) (by omega) (max 1 m.prev) m.term) fun w8 h=>?_
  have e:decide (WO r m)=RA m.recs (max 1 m.prev) m.term:=by
   rw[Bool.eq_iff_iff,decide_eq_true_eq]
   exact⟨fun hh=>hh.sound,fun hh=>⟨k1,k2,k3,k4,k5,k6,k7,k8,k9,by omega,k11,hh⟩⟩
  rw[e] at k
  exact k _ _ h
 rw[h.ld 0 rfl Y2 (o:=4) (v := .int .i64 m.index) rfl,F7,K3]
 refine⟨fun i0=>?_,fun i0=>rest (fun hh=>absurd hh i0) _ h⟩
 rw[h.ld 0 rfl Y2 (o:=5) (v := .int .i64 m.prev) rfl,Q7,G5,K3]
 refine⟨fun p0=>rest (fun _=>p0) _ h,fun p0=>?_⟩
 rw[decide_eq_false (fun hh=>p0 (hh.zero i0))] at k
 exact k _ _ h
set_option maxHeartbeats 1000000 in
theorem TG0(hk:Y9 r){m:R9}{v:SV}:Does prog B (bA p r) (Z0 DI #[ptr p,(m.raw v).v]) fun u e' τ=>e'=bA p (Vj0 r m).1∧τ=[eG u (Vj0 r m).2]:=by
 refine Does.intro fun B' w K base h k=>?_
 refine MG.up ?_
 unfold MG.pt
 obtain⟨lv,h⟩:=bA.open h
 have h:Rel B' w [O1 p I1 (M_ r lv.1),Y3 X3 lv.1 r.log]:=h
 have hlen:=hk.len
 refine h.box fun o w1 h=>?_
 have h:Rel B' w1 [O1 p I1 (M_ r lv.1),Y3 X3 lv.1 r.log,O1 o Y1 (m.raw v).cs.toArray]:=h
 refine h.alloc qF fun t w2 h=>?_
 simp -zeta only[J5,U0 w_,U0 x_,U0 KC,U0 VU,U0 lN,U0 uK,U0 bF,U0 nN,Nat.zero_add,Nat.add_zero]
 rw[h.ld 2 rfl Y2 (o:=1) (v := .int .i64 m.from_) rfl]
 refine h.ask (fun B2 own base2=>eX (pJ.of lv.2 (own (i:=0) rfl) (Y3.read (own (i:=1) rfl))) 1 m.from_) fun w3 h=>?_
 refine h.R8 (ds:=((BN r m false).raw ⟨.slice none 0 0,rfl⟩).cs.toArray) vJ rfl Z8 rfl (fun v hv=>Enc.one ((BN r m false).raw ⟨.slice none 0 0,rfl⟩) v hv) fun a w4 h=>?_
 simp -zeta only[U0 vK,Nat.zero_add]
 have h:Rel B' w4 [O1 p I1 (M_ r lv.1),Y3 X3 lv.1 r.log,O1 o Y1 (m.raw v).cs.toArray,O1 t F3 (f_ o0 (.slice none 0 0) (.slice none 0 0)),O1 a Y1 ((BN r m false).raw ⟨.slice none 0 0,rfl⟩).cs.toArray]:=h
 rw[h.ld 0 rfl X5 (o:=3) (v:=lv.1) rfl,O4.len (Y3.read (h.here (i:=1) rfl)) u6]
 refine h.ask (fun B2 own base2=>iX (pJ.of lv.2 (own (i:=0) rfl) (Y3.read (own (i:=1) rfl))) (by omega) ⟨by omega,by omega⟩) fun w5 h=>?_
 have fin:∀(yes:Bool) (r':G8) (w':World),(if zY r m then({ r with hard:=⟨r.hard.term,m.from_⟩ },{ o0 with send:=[BN r m true] }) else(r,{ o0 with send:=[BN r m false] }))=(r',{ o0 with send:=[BN r m yes] })→r'.log=r.log →
   Rel B' w' [O1 p I1 (M_ r' lv.1),Y3 X3 lv.1 r.log,O1 o Y1 (m.raw v).cs.toArray,O1 t F3 (f_ o0 (.slice none 0 0) (.slice none 0 0)),O1 a Y1 ((BN r m yes).raw ⟨.slice none 0 0,rfl⟩).cs.toArray] →
   Y0 prog (X0 Y1 (.pointer (some ⟨a,0,none⟩))) w' fun t75=>upK prog (Z0 A_ #[t75]) w' fun t76 w9=>upK prog (I4 F3 (.pointer (some ⟨t,0,none⟩)) t76) w9 fun tu_1 w10 =>
    U9 prog (do loadVar F3 (←asAddr (.pointer (some ⟨t,0,none⟩)))) w10 fun t4_1=>K t4_1 w10:=by
  intro yes r' w' e1 elog h
  rw[h.r9 4 rfl Z8 rfl]
  refine h.make (fun B2 own base2=>Fe0 (m:=BN r m yes) (v:=⟨.slice none 0 0,rfl⟩) BX) fun u τ w9 hp h=>?_
  obtain⟨s,rfl,rfl⟩:=hp
  refine h.YG 3 rfl EC rfl rfl (FE rfl s.2) fun w10 h=>?_
  rw[qJ h 3 rfl EC rfl]
  have e2:Vj0 r m=(r',{ o0 with send:=[BN r m yes] }):=e1
  have h:=h.pick [0,1,5] (by decide)
  have h:Rel B' w10 ([O1 p I1 (M_ r' lv.1),Y3 X3 lv.1 r.log]++[Y3 Y1 s.1 [(BN r m yes).raw ⟨.slice none 0 0,rfl⟩]]):=h
  have h:=h.wrap (c:=eG (.agg (f_ { o0 with send:=[BN r m yes] } (.slice none 0 0) s.1)) { o0 with send:=[BN r m yes] }) fun B2 own=>eG.of rfl s.2 BX (EZ (Y3.read (own (i:=0) rfl)) BX)
  refine k _ _ _ _ ⟨rfl,rfl⟩ ?_
  rw[e2]
  refine bA.close lv ?_
  unfold yA0
  rw[elog]
  exact h
 refine P6 fun J1 hJ1=>?_
 replace hJ1:∀(b:Bool) (w':World),b=decide (Yk0 r m)→Rel B' w' [O1 p I1 (M_ r lv.1),Y3 X3 lv.1 r.log,O1 o Y1 (m.raw v).cs.toArray,O1 t F3 (f_ o0 (.slice none 0 0) (.slice none 0 0)),O1 a Y1 ((BN r m false).raw ⟨.slice none 0 0,rfl⟩).cs.toArray]→J1 (.bool b,()) w':=by
  intro b w' hb h
  refine hJ1 _ _ ?_
  clear hJ1
  refine P6 fun J2 hJ2=>?_
  replace hJ2:∀(yes:Bool) (r':G8) (w':World),(if zY r m then({ r with hard:=⟨r.hard.term,m.from_⟩ },{ o0 with send:=[BN r m true] }) else(r,{ o0 with send:=[BN r m false] }))=(r',{ o0 with send:=[BN r m yes] })→r'.log=r.log →
   Rel B' w' [O1 p I1 (M_ r' lv.1),Y3 X3 lv.1 r.log,O1 o Y1 (m.raw v).cs.toArray,O1 t F3 (f_ o0 (.slice none 0 0) (.slice none 0 0)),O1 a Y1 ((BN r m yes).raw ⟨.slice none 0 0,rfl⟩).cs.toArray]→J2 () w':=fun yes r' w' e1 e2 h=>hJ2 _ _ (fin yes r' w' e1 e2 h)
  refine P6 fun J3 hJ3=>?_
  replace hJ3:∀(b:Bool) (w':World),b=decide (zY r m)→Rel B' w' [O1 p I1 (M_ r lv.1),Y3 X3 lv.1 r.log,O1 o Y1 (m.raw v).cs.toArray,O1 t F3 (f_ o0 (.slice none 0 0) (.slice none 0 0)),O1 a Y1 ((BN r m false).raw ⟨.slice none 0 0,rfl⟩).cs.toArray]→J3 (.bool b,()) w':=by
   intro b w' hb h
   refine hJ3 _ _ ?_
   show ifB (.bool b) _ _
   rw[hb,K3]
   refine⟨fun c=>?_,fun c=>?_⟩
   ·have h:=h.tick
    generalize tick w'=w' at *
    rw[h.ld 2 rfl Y2 (o:=1) (v := .int .i64 m.from_) rfl]
    refine h.st 4 rfl AB (o:=7) (show 7<9 by omega) rfl fun w12 h=>?_
    refine⟨h.is 2 rfl Y2 (o:=1) rfl,?_⟩
    refine h.st 0 rfl Y2 (o:=2) (show 2<15 by omega) rfl fun w13 h=>?_
    exact hJ2 true { r with hard:=⟨r.hard.term,m.from_⟩ } _ (if_pos c) rfl h
   ·exact hJ2 false r _ (if_neg c) rfl h
  have h:=h.tick
  generalize tick w'=w' at *
  rw[h.ld 2 rfl Y2 (o:=3) (v := .int .i64 m.term) rfl,h.ld 0 rfl Y2 (o:=1) (v := .int .i64 r.hard.term) rfl,F7,K3]
  refine⟨fun c1=>?_,fun c1=>hJ3 false _ (decide_eq_false fun hh=>c1 hh.1).symm h⟩
  have hv:decide (r.hard.vote = -1∨r.hard.vote=m.from_)=true→b=decide (zY r m):=fun hv=>by
   rw[hb]
   exact decide_eq_decide.2 ⟨fun hf=>⟨c1,of_decide_eq_true hv,hf⟩,fun hh=>hh.2.2⟩
  rw[h.ld 0 rfl Y2 (o:=1+1) (v := .int .i64 r.hard.vote) rfl,F7,K3]
  refine⟨fun c2=>hJ3 b _ (hv (decide_eq_true (.inl c2))) h,fun c2=>?_⟩
  rw[h.ld 0 rfl Y2 (o:=1+1) (v := .int .i64 r.hard.vote) rfl,h.ld 2 rfl Y2 (o:=1) (v := .int .i64 m.from_) rfl,F7,K3]
  exact⟨fun c3=>hJ3 b _ (hv (decide_eq_true (.inr c3))) h,fun c3=>hJ3 false _ (decide_eq_false fun hh=>hh.2.1.elim c2 c3).symm h⟩
 clear fin
 have h:=h.tick
 generalize tick w5=w5 at *
 rw[h.ld 2 rfl Y2 (o:=5) (v := .int .i64 m.prev) rfl,x9,K3]
 refine⟨fun c1=>hJ1 true _ (decide_eq_true (.inl c1)).symm h,fun c1=>?_⟩
 rw[h.ld 2 rfl Y2 (o:=5) (v := .int .i64 m.prev) rfl,F7,K3]
 refine⟨fun c2=>?_,fun c2=>hJ1 false _ (decide_eq_false fun hh=>hh.elim c1 fun h=>c2 h.1).symm h⟩
 rw[h.ld 2 rfl Y2 (o:=4) (v := .int .i64 m.index) rfl,h.ld 0 rfl X5 (o:=3) (v:=lv.1) rfl,O4.len (Y3.read (h.here (i:=1) rfl)) u6,FC]
 refine hJ1 _ _ ?_ h
 exact decide_eq_decide.2 ⟨fun hh => .inr ⟨c2,by omega⟩,fun hh=>hh.elim (fun h=>absurd h c1) fun h=>by omega⟩
end
def nC:SV:=⟨.slice none 0 0,rfl⟩
theorem bd3{K:Value→Prop}:M0 prog (H6 VH #[]) K=K (.agg #[.bool false,.bool false,.bool false]):=F5 fun w=>by kernel_rfl
theorem cH0:agB prog VH 3=true:=by kernel_rfl
section
variable {B:Base} {w:World} {σ τ:List Dat} {p:Nat} {r:G8} {K:PtK}
theorem BK{t i:Nat}{cs ds:Array Value}(h:Rel B w σ)(hi:σ[i]? = some (O1 t F3 cs))(hc:cs.size=6)(hd:ds.size=6)(h1:∀v∈ds.toList,v.oneCell'=true)(k:∀w',Rel B w' (σ.set i (O1 t F3 ds))→K (.agg ds) w') :
  upK prog (I4 F3 (.pointer (some ⟨t,0,none⟩)) (.agg ds)) w fun _ w'=>U9 prog (do loadVar F3 (←asAddr (.pointer (some ⟨t,0,none⟩)))) w' fun v=>K v w':=by
 refine h.YG i hi EC hd hc h1 fun w' h=>?_
 have hlt:i<σ.length:=(List.getElem?_eq_some_iff.1 hi).1
 rw[qJ h i (by rw[List.getElem?_set_self hlt]) EC hd]
 exact k w' h
theorem UI{t i:Nat}{cs:Array Value}(h:Rel B w σ)(hi:σ[i]? = some (O1 t F3 cs))(hc:cs.size=6)(k:∀w',Rel B w' (σ.set i (O1 t F3 (f_ o0 (.slice none 0 0) (.slice none 0 0))))→K (.agg (f_ o0 (.slice none 0 0) (.slice none 0 0))) w') :
  M0 prog (H6 F3 #[]) fun x=>upK prog (I4 F3 (.pointer (some ⟨t,0,none⟩)) x) w fun _ w'=>U9 prog (do loadVar F3 (←asAddr (.pointer (some ⟨t,0,none⟩)))) w' fun v=>K v w':=by
 rw[Mm0]
 exact BK h hi hc rfl (FE (o:=o0) (rv := .slice none 0 0) (sv := .slice none 0 0) rfl rfl) k
theorem Df0{lv:Value}(h:O1 p I1 (M_ r lv) B):K6 p 1 r.hard.cs B:=O1.sub h rfl
theorem Sd0{lv:Value}{Kp:Value→Prop}(h:(O1 p I1 (M_ r lv)).here w):Y0 prog (X0 O5 (.pointer (some ⟨p,1,none⟩))) w Kp=Kp (.agg r.hard.cs.toArray):=K6.r9 (Df0 h) fC rfl
theorem EC0{lv:Value}(h:(O1 p I1 (M_ r lv)).here w):Is prog (X0 O5 (.pointer (some ⟨p,1,none⟩))) (.agg r.hard.cs.toArray) w:=K6.bV (Df0 h) fC rfl
theorem NZ{o:vE}{sv:Value}{lv:SV}{l:List uB}(h1:sv.oneCell'=true)(ho:o.recs=[])(h:Rel B w [O1 p I1 (M_ r lv.1),Y3 X3 lv.1 l,wN sv o.send])(hl:r.log=l):Rel B w [bA p r,eG (.agg (f_ o (.slice none 0 0) sv)) o]:=by
 have h:Rel B w ([O1 p I1 (M_ r lv.1),Y3 X3 lv.1 l]++[wN sv o.send]):=h
 have h:=h.wrap (c:=eG (.agg (f_ o (.slice none 0 0) sv)) o) fun B2 own=>eG.of rfl h1 (by rw[ho];exact BX) (own (i:=0) rfl)
 subst hl
 exact bA.close lv h
theorem oD{lv:SV}{l:List uB}(h:Rel B w [O1 p I1 (M_ r lv.1),Y3 X3 lv.1 l])(hl:r.log=l):Rel B w [bA p r,eG (.agg (f_ o0 (.slice none 0 0) (.slice none 0 0))) o0] :=
 NZ rfl rfl (h.jk0 fun B=>Jz0) hl
theorem sA0{L:List R9}(h:∀m∈L,m.recs=[]){v:Value}(hr:O4 v (L.map fun m=>m.raw nC) B):wN v L B:=by
 refine⟨L.map fun _=>nC,List.length_map ..,?_,fun q hq=>?_⟩
 ·have e:List.zipWith R9.raw L (L.map fun _=>nC)=L.map fun m=>m.raw nC:=by
   rw[List.zipWith_map_right]
   exact List.zipWith_self (f:=fun(m:R9) (_:R9)=>m.raw nC) ..
  rw[e]
  exact hr
 ·obtain⟨h1,h2⟩:=List.of_mem_zip hq
  obtain⟨q1,q2⟩:=q
  obtain⟨_,_,e⟩:=List.mem_map.1 h2
  have e:nC=q2:=e
  subst e
  have e1:q1.recs=[]:=h q1 h1
  show O4 _ q1.recs B
  rw[e1]
  exact BX
set_option maxHeartbeats 2000000 in
theorem LG0(hk:Y9 r):Does prog B (bA p r) (Z0 PN #[ptr p]) fun u e' τ=>e'=bA p (oI r).1∧τ=[eG u (oI r).2]:=by
 refine Does.intro fun B' w K base h k=>?_
 refine KG.up ?_
 unfold KG.pt
 obtain⟨lv,h⟩:=bA.open h
 have h:Rel B' w [O1 p I1 (M_ r lv.1),Y3 X3 lv.1 r.log]:=h
 have hlen:=hk.len
 have hterm:=hk.term
 have hid:=hk.id
 unfold oI at k
 refine h.alloc qF fun t w1 h=>?_
 have h:Rel B' w1 [O1 p I1 (M_ r lv.1),Y3 X3 lv.1 r.log,O1 t F3 (f_ o0 (.slice none 0 0) (.slice none 0 0))]:=h
 simp -zeta only[J5,U0 kH,U0 w_,U0 x_,U0 NC,U0 AQ,U0 KC,Nat.zero_add,Nat.add_zero]
 rw[h.ld 0 rfl Y2 (o:=4) (v := .int .i64 r.role) rfl,F7,K3]
 refine⟨fun c1=>?_,fun c1=>?_⟩
 ·rw[if_pos c1] at k
  refine h.make (fun B2 own base2=>Wr0 (pJ.of lv.2 (own (i:=0) rfl) (Y3.read (own (i:=1) rfl))) hk c1) fun u τ w2 hp h=>?_
  obtain⟨rfl,x,n,c,rfl⟩:=hp
  rw[MU]
  refine BK (i:=2) h rfl rfl rfl (FE (o:={ o0 with send:=PR r }) rfl (rfl:(Value.slice x n c).oneCell'=true)) fun w3 h=>?_
  exact k _ _ _ _ ⟨rfl,rfl⟩ (NZ (o:={ o0 with send:=PR r }) rfl rfl (h.pick [0,1,3] (by decide)) rfl)
 rw[if_neg c1] at k
 rw[h.ld 0 rfl Y2 (o:=1) (v := .int .i64 r.hard.term) rfl,F7,K3]
 refine⟨fun c2=>?_,fun c2=>?_⟩
 ·rw[if_pos c2] at k
  refine UI (i:=2) h rfl rfl fun w3 h=>?_
  exact k _ _ _ _ ⟨rfl,rfl⟩ (oD (h.pick [0,1] (by decide)) rfl)
 rw[if_neg c2] at k
 have h:=h.tick
 generalize tick w1=w1 at *
 rw[h.ld 0 rfl Y2 (o:=1) (v := .int .i64 r.hard.term) rfl,Z5,E5 (by omega) (by omega),h.ld 0 rfl Y2 (o:=0) (v := .int .i64 r.id) rfl,rQ]
 refine h.Nr0 0 (n:=2) (o:=1) rfl fC rfl (show 1+2≤15 by omega) (fun v hv=>?_) fun w2 h=>?_
 ·have hv:v∈[Value.int .i64 (r.hard.term+1),.int .i64 r.id]:=hv
  simp only[List.mem_cons,List.not_mem_nil,or_false] at hv
  rcases hv with rfl | rfl<;>rfl
 rw[bd3]
 refine h.st 0 rfl Y2 (o:=4) (show 4<15 by omega) rfl fun w3 h=>?_
 refine h.Nr0 0 (n:=3) (o:=6) rfl cH0 rfl (show 6+3≤15 by omega) (fun v hv=>?_) fun w4 h=>?_
 ·have hv:v∈[Value.bool false,.bool false,.bool false]:=hv
  simp only[List.mem_cons,List.not_mem_nil,or_false] at hv
  rcases hv with rfl | rfl | rfl<;>rfl
 have h:Rel B' w4 [O1 p I1 (M_ { r with hard:=⟨r.hard.term+1,r.id⟩,role:=1,votes:=⟨false,false,false⟩ } lv.1),Y3 X3 lv.1 r.log,O1 t F3 (f_ o0 (.slice none 0 0) (.slice none 0 0))]:=h
 have h:=h.tick
 generalize tick w4=w4 at *
 rw[h.ld 0 rfl Y2 (o:=0) (v := .int .i64 r.id) rfl,LE0 hid]
 refine h.st 0 rfl AB (o:=6+r.id.toNat) (show 6+r.id.toNat<15 by unfold I3 at hid;omega) rfl fun w5 h=>?_
 rw[(mV (r:={ r with hard:=⟨r.hard.term+1,r.id⟩,role:=1,votes:=⟨false,false,false⟩ }) (lv:=lv.1) hid 0 true).2.2] at h
 have h:Rel B' w5 [O1 p I1 (M_ (PO r) lv.1),Y3 X3 lv.1 r.log,O1 t F3 (f_ o0 (.slice none 0 0) (.slice none 0 0))]:=h
 have hlog:(PO r).log=r.log:=rfl
 have hrid:(PO r).id=r.id:=rfl
 have hht:(PO r).hard.term=r.hard.term+1:=rfl
 generalize PO r=r' at *
 rw[Sd0 (h.here (i:=0) rfl),show (Value.agg r'.hard.cs.toArray) = .agg #[.int .i64 r'.hard.term,.int .i64 r'.hard.vote] from rfl,Ke0]
 refine h.R8 (ds:=f_ { o0 with save:=true,hard:=r'.hard } (.slice none 0 0) (.slice none 0 0)) qF rfl EC rfl (FE rfl rfl) fun o3 w6 h=>?_
 refine h.make (fun B2 own base2=>ug0 (r:=r') (pJ.of lv.2 (own (i:=0) rfl) (by rw[hlog];exact Y3.read (own (i:=1) rfl)))) fun ov τ w7 hp h=>?_
 subst hp
 have ho3:=sS r.id
 rw[hrid] at h
 have h:=h.VC Cm0 Y1
 have h:Rel B' w7 [O1 p I1 (M_ r' lv.1),Y3 X3 lv.1 r.log,O1 t F3 (f_ o0 (.slice none 0 0) (.slice none 0 0)),O1 o3 F3 (f_ { o0 with save:=true,hard:=r'.hard } (.slice none 0 0) (.slice none 0 0)),Y3 Q0 ov (o8 r.id),Y3 Y1 (.slice none 0 0) ([]:List Cm0)]:=h
 rw[O4.len (Y3.read (h.here (i:=4) rfl)) N8]
 refine F6 (fun z w'=>∃(i:Nat) (sv:SV),i≤(o8 r.id).length∧z=(.int .i64 i,())∧Rel B' w' [O1 p I1 (M_ r' lv.1),Y3 X3 lv.1 r.log,O1 t F3 (f_ o0 (.slice none 0 0) (.slice none 0 0)),O1 o3 F3 (f_ { o0 with save:=true,hard:=r'.hard } (.slice none 0 0) sv.1),Y3 Q0 ov (o8 r.id),Y3 Y1 sv.1 ((((o8 r.id).take i).map (qd0 r')).map fun m=>m.raw nC)])
  (fun z _=>(o8 r.id).length-(match z.1 with | .int _ n=>n.toNat | _=>0)) ⟨0,nC,Nat.zero_le _,rfl,h⟩ ?_
 clear h
 rintro z w8 ⟨i,sv,hi,rfl,h⟩ next hnext
 simp -zeta only[G6,K3]
 refine⟨fun hlt=>?_,fun hge=>?_⟩
 case refine_2 =>
  have:i=(o8 r.id).length:=by omega
  subst this
  rw[List.take_length] at h
  rw[h.r9 3 rfl EC rfl]
  refine BK (i:=2) h rfl rfl rfl (FE rfl sv.2) fun w9 h=>?_
  have h:Rel B' w9 ([O1 p I1 (M_ r' lv.1),Y3 X3 lv.1 r.log]++[Y3 Y1 sv.1 (((o8 r.id).map (qd0 r')).map fun m=>m.raw nC)]):=h.pick [0,1,5] (by decide)
  have h:=h.wrap (c:=wN sv.1 ((o8 r.id).map (qd0 r'))) fun B2 own=>sA0 (fun m hm=>by obtain⟨j,_,rfl⟩:=List.mem_map.1 hm;rfl) (Y3.read (own (i:=0) rfl))
  exact k _ _ _ _ ⟨rfl,rfl⟩ (NZ (o:={ o0 with save:=true,hard:=r'.hard,send:=(o8 r.id).map (qd0 r') }) sv.2 rfl h hlog)
 have hil:i<(o8 r.id).length:=by omega
 obtain⟨g,o,hx,hc⟩:=O4.idx (Y3.read (h.here (i:=4) rfl)) N8 (P:=prog) hil
 rw[hx,K6.ld0 hc Y2 (v := .int .i64 (o8 r.id)[i]) rfl]
 clear hc hx
 have htk:(((o8 r.id).take (i+1)).map (qd0 r')).map (fun m=>m.raw nC)=(((o8 r.id).take i).map (qd0 r')).map (fun m=>m.raw nC)++[(qd0 r' (o8 r.id)[i]).raw nC]:=by
  rw[List.take_succ_eq_append_getElem hil,List.map_append,List.map_append]
  rfl
 have hll:((((o8 r.id).take i).map (qd0 r')).map fun m=>m.raw nC).length=i:=by rw[List.length_map,List.length_map,List.length_take];omega
 generalize (((o8 r.id).take i).map (qd0 r')).map (fun m=>m.raw nC)=L at *
 generalize (o8 r.id)[i]=to_ at *
 refine h.ask (fun B2 own base2=>eX (r:=r') (pJ.of lv.2 (own (i:=0) rfl) (by rw[hlog];exact Y3.read (own (i:=1) rfl))) 0 to_) fun w9 h=>?_
 have hm0:bG0 0 r'.id to_ r'.hard.term 0 0 0 false (.slice none 0 0)=((⟨0,r'.id,to_,r'.hard.term,0,0,0,false,[]⟩:R9).raw nC).v:=rfl
 rw[hm0]
 refine h.R8 (ds:=((⟨0,r'.id,to_,r'.hard.term,0,0,0,false,[]⟩:R9).raw nC).cs.toArray) vJ rfl Z8 rfl (fun v hv=>Enc.one ((⟨0,r'.id,to_,r'.hard.term,0,0,0,false,[]⟩:R9).raw nC) v hv) fun m6 w10 h=>?_
 have h:=h.tick
 generalize tick w10=w10 at *
 simp -zeta only[U0 bF,U0 nN,U0 ZV,Nat.zero_add]
 rw[h.ld 0 rfl X5 (o:=3) (v:=lv.1) rfl,O4.len (Y3.read (h.here (i:=1) rfl)) u6,h.ld 0 rfl X5 (o:=3) (v:=lv.1) rfl,O4.len (Y3.read (h.here (i:=1) rfl)) u6]
 refine h.ask (fun B2 own base2=>iX (r:=r') (n:=r.log.length) (pJ.of lv.2 (own (i:=0) rfl) (by rw[hlog];exact Y3.read (own (i:=1) rfl))) (by rw[hlog];omega) ⟨by omega,by rw[hlog];omega⟩) fun w11 h=>?_
 have isl:Is prog (M5 .len #[U3] Q0 #[false] #[lv.1]) (.int .i64 r.log.length) w11:=by
  have:=O4.len (P:=prog) (w:=w11) (T:=U3) (U:=Q0) (bs:=#[false]) (Kp:=fun x=>x = .int .i64 r.log.length) (Y3.read (h.here (i:=1) rfl)) u6
  obtain⟨x,h1,rfl⟩:=this.mpr rfl
  exact h1
 refine⟨isl,h.is 0 rfl X5 (o:=3) rfl,?_⟩
 refine h.st 6 rfl Y2 (o:=4) (show 4<9 by omega) rfl fun w12 h=>?_
 refine h.st 6 rfl Y2 (o:=5) (show 5<9 by omega) rfl fun w13 h=>?_
 rw[h.ld 3 rfl pR (o:=5) (v:=sv.1) rfl,h.r9 6 rfl Z8 rfl]
 refine h.WS (α:=Cm0) 5 rfl ((qd0 r' to_).raw nC) vL (by decide) (by omega) (by omega) (hx:=by unfold qd0;rw[hlog];rfl) fun v' w14 h=>?_
 ·have hv1:v'.oneCell'=true:=h.oneCell (i:=5) rfl
  refine h.st 3 rfl pR (o:=5) (show 5<6 by omega) hv1 fun w15 h=>?_
  rw[Z5,E5 (by omega) (by omega)]
  refine hnext _ _ ⟨i+1,⟨v',hv1⟩,hil,rfl,?_⟩ (by simp only;omega)
  rw[htk]
  exact h.take 6
end
def OU(t:T3 Bool):Nat→Nat
 | 0=>0
 | 1=>if t.a then 1 else 0
 | 2=>(if t.a then 1 else 0)+(if t.b then 1 else 0)
 | _=>OV t
def Kc0(r:G8):Nat→G8
 | 0=>{ r with role:=2 }
 | i+1=>{ Kc0 r i with next:=(Kc0 r i).next.set i (r.log.length+1),mtch:=(Kc0 r i).mtch.set i 0 }
theorem ZF0(r:G8):Kc0 r 3=CZ r:=rfl
theorem Rf0{r:G8}(hk:Y9 r):Y9 (CZ r) where
 id:=hk.id
 term:=hk.term
 vote:=hk.vote
 len:=hk.len
 sound:=hk.sound
 role := .inr (.inr rfl)
 commit:=hk.commit
 next:=fun _ i hi=>by
  rcases hi.cases with rfl | rfl | rfl<;>(show 1≤((r.log.length:Int)+1)∧((r.log.length:Int)+1)≤(r.log.length:Int)+1;omega)
 mtch:=fun _ i hi=>by
  rcases hi.cases with rfl | rfl | rfl<;>(show (0:Int)≤0∧(0:Int)≤(r.log.length:Int);omega)
theorem XZ{r:G8}(hk:Y9 r)(t:T3 Bool):Y9 { r with votes:=t }:=⟨hk.id,hk.term,hk.vote,hk.len,hk.sound,hk.role,hk.commit,hk.next,hk.mtch⟩
def ij0(r:G8):Int:=(o8 r.id).foldl (fun a i=>max a (r.mtch.get i)) 0
def kJ(r:G8):G8:=if r.commit<ij0 r∧bK r.log (ij0 r)=r.hard.term then { r with commit:=ij0 r } else r
theorem yf0{f:Int→Int}{n:Int}:∀{l:List Int} {a:Int},(∀i∈l,f i≤n)→0≤a→a≤n→0≤l.foldl (fun a i=>max a (f i)) a∧l.foldl (fun a i=>max a (f i)) a≤n
 | [],_,_,h0,h1=>⟨h0,h1⟩
 | i :: l,a,h,h0,h1=>by
  have:=h i (List.mem_cons_self ..)
  exact yf0 (l:=l) (fun j hj=>h j (List.mem_cons_of_mem _ hj)) (show 0≤max a (f i) by omega) (show max a (f i)≤n by omega)
theorem bg0{r:G8}(hk:Y9 r)(hl:r.role=2):0≤ij0 r∧ij0 r≤r.log.length :=
 yf0 (fun i hi=>(hk.mtch hl i (sU hi)).2) (Int.le_refl 0) (by omega)
theorem OF0{Kp:Value→Prop}{a b c:Bool}:M0 prog (KY VH (.agg #[.bool a,.bool b,.bool c]) (.int .i64 (0:Nat))) Kp=Kp (.bool a)∧M0 prog (KY VH (.agg #[.bool a,.bool b,.bool c]) (.int .i64 (1:Nat))) Kp=Kp (.bool b)∧M0 prog (KY VH (.agg #[.bool a,.bool b,.bool c]) (.int .i64 (2:Nat))) Kp=Kp (.bool c) :=
 ⟨F5 fun w=>by kernel_rfl,F5 fun w=>by kernel_rfl,F5 fun w=>by kernel_rfl⟩
section
variable {B:Base} {w:World} {σ τ:List Dat} {p:Nat} {r:G8} {K:PtK}
theorem sp0{lv:Value}(h:O1 p I1 (M_ r lv) B):K6 p 6 [Value.bool r.votes.a,.bool r.votes.b,.bool r.votes.c] B:=O1.sub h rfl
theorem uB0{lv:Value}{Kp:Value→Prop}(h:(O1 p I1 (M_ r lv)).here w):Y0 prog (X0 VH (.pointer (some ⟨p,6,none⟩))) w Kp=Kp (.agg #[.bool r.votes.a,.bool r.votes.b,.bool r.votes.c]):=K6.r9 (sp0 h) cH0 rfl
set_option maxHeartbeats 2000000 in
theorem qE0(hk:Y9 r){m:R9}{v:SV}(hf:I3 m.from_):Does prog B (bA p r) (Z0 RH #[ptr p,(m.raw v).v]) fun u e' τ=>e'=bA p (dc0 r m).1∧τ=[eG u (dc0 r m).2]:=by
 refine Does.intro fun B' w K base h k=>?_
 refine RF.up ?_
 unfold RF.pt
 obtain⟨lv,h⟩:=bA.open h
 have h:Rel B' w [O1 p I1 (M_ r lv.1),Y3 X3 lv.1 r.log]:=h
 have hlen:=hk.len
 refine h.box fun o w1 h=>?_
 have h:Rel B' w1 [O1 p I1 (M_ r lv.1),Y3 X3 lv.1 r.log,O1 o Y1 (m.raw v).cs.toArray]:=h
 refine h.alloc qF fun t w2 h=>?_
 have h:Rel B' w2 [O1 p I1 (M_ r lv.1),Y3 X3 lv.1 r.log,O1 o Y1 (m.raw v).cs.toArray,O1 t F3 (f_ o0 (.slice none 0 0) (.slice none 0 0))]:=h
 have h:=h.tick
 generalize tick w2=w2 at *
 unfold dc0 at k
 simp -zeta only[J5,U0 w_,U0 x_,U0 NC,U0 AQ,U0 UL,U0 VL,U0 KC,U0 lN,U0 uK,U0 vK,Nat.zero_add,Nat.add_zero]
 rw[h.ld 0 rfl Y2 (o:=4) (v := .int .i64 r.role) rfl,Q7,G5,K3]
 refine⟨fun c1=>?_,fun c1=>?_⟩
 case refine_2 =>
  rw[if_pos (.inl c1)] at k
  refine UI (i:=3) h rfl rfl fun w3 h=>?_
  exact k _ _ _ _ ⟨rfl,rfl⟩ (oD (h.pick [0,1] (by decide)) rfl)
 rw[h.ld 2 rfl Y2 (o:=3) (v := .int .i64 m.term) rfl,h.ld 0 rfl Y2 (o:=1) (v := .int .i64 r.hard.term) rfl,Q7,G5,K3]
 refine⟨fun c2=>?_,fun c2=>?_⟩
 case refine_2 =>
  rw[if_pos (.inr (.inl c2))] at k
  refine UI (i:=3) h rfl rfl fun w3 h=>?_
  exact k _ _ _ _ ⟨rfl,rfl⟩ (oD (h.pick [0,1] (by decide)) rfl)
 rw[h.ld 2 rfl AB (o:=7) (v := .bool m.yes) rfl,V7,G5,R5]
 refine⟨fun c3=>?_,fun c3=>?_⟩
 case refine_2 =>
  rw[if_pos (.inr (.inr c3))] at k
  refine UI (i:=3) h rfl rfl fun w3 h=>?_
  exact k _ _ _ _ ⟨rfl,rfl⟩ (oD (h.pick [0,1] (by decide)) rfl)
 rw[if_neg (fun hh=>hh.elim (fun h=>h c1) fun hh=>hh.elim (fun h=>h c2) fun h=>by rw[c3] at h;cases h)] at k
 have h:=h.tick
 generalize tick w2=w2 at *
 rw[h.ld 2 rfl Y2 (o:=1) (v := .int .i64 m.from_) rfl,LE0 hf]
 refine h.st 0 rfl AB (o:=6+m.from_.toNat) (show 6+m.from_.toNat<15 by unfold I3 at hf;omega) rfl fun w5 h=>?_
 rw[(mV (r:=r) (lv:=lv.1) hf 0 true).2.2] at h
 have hk:Y9 { r with votes:=r.votes.set m.from_ true }:=XZ hk _
 have hlog:r.log={ r with votes:=r.votes.set m.from_ true }.log:=rfl
 have h:Rel B' w5 [O1 p I1 (M_ { r with votes:=r.votes.set m.from_ true } lv.1),Y3 X3 lv.1 r.log,O1 o Y1 (m.raw v).cs.toArray,O1 t F3 (f_ o0 (.slice none 0 0) (.slice none 0 0))]:=h
 have hct:OV (r.votes.set m.from_ true)=OV { r with votes:=r.votes.set m.from_ true }.votes:=rfl
 rw[hct] at k
 clear hct
 rw[hlog] at h hlen
 clear hlog
 generalize { r with votes:=r.votes.set m.from_ true }=r at *
 rw[uB0 (h.here (i:=0) rfl)]
 refine F6 (fun z w'=>∃i:Nat,i≤3∧z=(.int .i64 (OU r.votes i),.int .i64 i,())∧Rel B' w' [O1 p I1 (M_ r lv.1),Y3 X3 lv.1 r.log,O1 o Y1 (m.raw v).cs.toArray,O1 t F3 (f_ o0 (.slice none 0 0) (.slice none 0 0))])
  (fun z _=>3-(match z.2.1 with | .int _ n=>n.toNat | _=>0)) ⟨0,by omega,rfl,h⟩ ?_
 clear h
 rintro z w6 ⟨i,hi,rfl,h⟩ next hnext
 simp -zeta only[G6,K3]
 refine⟨fun hlt=>?_,fun hge=>?_⟩
 ·refine P6 fun J hJ=>?_
  replace hJ:∀w',Rel B' w' [O1 p I1 (M_ r lv.1),Y3 X3 lv.1 r.log,O1 o Y1 (m.raw v).cs.toArray,O1 t F3 (f_ o0 (.slice none 0 0) (.slice none 0 0))]→J (.int .i64 (OU r.votes (i+1)),()) w':=by
   intro w' h
   refine hJ _ _ ?_
   rw[Z5,E5 (by omega) (by omega)]
   exact hnext _ _ ⟨i+1,by omega,rfl,h⟩ (by simp only;omega)
  clear hnext
  have hi3:i=0∨i=1∨i=2:=by omega
  rcases hi3 with rfl | rfl | rfl
  ·rw[OF0.1,R5]
   refine⟨fun c=>?_,fun c=>?_⟩
   ·rw[Z5]
    have e:IntKind.wrap .i64 ((OU r.votes 0:Nat)+1)=((OU r.votes (0+1):Nat):Int):=by
     unfold OU
     rw[if_pos c]
     rfl
    rw[e]
    exact hJ _ h
   ·have e:OU r.votes (0+1)=OU r.votes 0:=by
     show (if r.votes.a=true then 1 else 0)=0
     rw[if_neg (by rw[c];decide)]
    rw[e] at hJ
    exact hJ _ h
  ·rw[OF0.2.1,R5]
   refine⟨fun c=>?_,fun c=>?_⟩
   ·rw[Z5]
    have e:IntKind.wrap .i64 ((OU r.votes 1:Nat)+1)=((OU r.votes (1+1):Nat):Int):=by
     show IntKind.wrap .i64 (((if r.votes.a=true then 1 else 0:Nat):Int)+1)=(((if r.votes.a=true then 1 else 0)+(if r.votes.b=true then 1 else 0):Nat):Int)
     rw[if_pos c]
     generalize r.votes.a=x
     cases x<;>rfl
    rw[e]
    exact hJ _ h
   ·have e:OU r.votes (1+1)=OU r.votes 1:=by
     show (if r.votes.a=true then 1 else 0)+(if r.votes.b=true then 1 else 0)=(if r.votes.a=true then 1 else 0)
     rw[if_neg (c:=r.votes.b=true) (by rw[c];decide),Nat.add_zero]
    rw[e] at hJ
    exact hJ _ h
  ·rw[OF0.2.2,R5]
   refine⟨fun c=>?_,fun c=>?_⟩
   ·rw[Z5]
    have e:IntKind.wrap .i64 ((OU r.votes 2:Nat)+1)=((OU r.votes (2+1):Nat):Int):=by
     show IntKind.wrap .i64 ((((if r.votes.a=true then 1 else 0)+(if r.votes.b=true then 1 else 0):Nat):Int)+1)=(((if r.votes.a=true then 1 else 0)+(if r.votes.b=true then 1 else 0)+(if r.votes.c=true then 1 else 0):Nat):Int)
     rw[if_pos (c:=r.votes.c=true) c]
     generalize r.votes.a=x
     generalize r.votes.b=y
     cases x<;>cases y<;>rfl
    rw[e]
    exact hJ _ h
   ·have e:OU r.votes (2+1)=OU r.votes 2:=by
     show (if r.votes.a=true then 1 else 0)+(if r.votes.b=true then 1 else 0)+(if r.votes.c=true then 1 else 0)=(if r.votes.a=true then 1 else 0)+(if r.votes.b=true then 1 else 0)
     rw[if_neg (c:=r.votes.c=true) (by rw[c];decide),Nat.add_zero]
    rw[e] at hJ
    exact hJ _ h
 have:i=3:=by omega
 subst this
 refine⟨fun c4=>?_,fun c4=>?_⟩
 ·have c4:OV r.votes<2:=by
   have:((OU r.votes 3:Nat):Int)<2:=c4
   have e:OU r.votes 3=OV r.votes:=rfl
   omega
  rw[if_pos c4] at k
  refine UI (i:=3) h rfl rfl fun w3 h=>?_
  exact k _ _ _ _ ⟨rfl,rfl⟩ (oD (h.pick [0,1] (by decide)) rfl)
 have c4:¬OV r.votes<2:=by
  have:¬((OU r.votes 3:Nat):Int)<2:=c4
  have e:OU r.votes 3=OV r.votes:=rfl
  omega
 rw[if_neg c4] at k
 refine h.st 0 rfl Y2 (o:=4) (show 4<15 by omega) rfl fun w7 h=>?_
 refine F6 (fun z w'=>∃i:Nat,i≤3∧z=(.int .i64 i,())∧Rel B' w' [O1 p I1 (M_ (Kc0 r i) lv.1),Y3 X3 lv.1 r.log,O1 o Y1 (m.raw v).cs.toArray,O1 t F3 (f_ o0 (.slice none 0 0) (.slice none 0 0))])
  (fun z _=>3-(match z.1 with | .int _ n=>n.toNat | _=>0)) ⟨0,by omega,rfl,h⟩ ?_
 clear h
 rintro z w8 ⟨i,hi,rfl,h⟩ next hnext
 simp -zeta only[G6,K3]
 refine⟨fun hlt=>?_,fun hge=>?_⟩
 ·have h:=h.tick
  generalize tick w8=w8 at *
  have hi3:I3 (i:Int):=by unfold I3;omega
  rw[h.ld 0 rfl X5 (o:=3) (v:=lv.1) rfl,O4.len (Y3.read (h.here (i:=1) rfl)) u6,Z5,E5 (by omega) (by omega),rv0 hi3]
  refine h.st 0 rfl Y2 (o:=9+(i:Int).toNat) (show 9+(i:Int).toNat<15 by omega) rfl fun w9 h=>?_
  rw[(mV (r:=Kc0 r i) (lv:=lv.1) hi3 (r.log.length+1) true).1] at h
  rw[rv0 hi3]
  refine h.st 0 rfl Y2 (o:=12+(i:Int).toNat) (show 12+(i:Int).toNat<15 by omega) rfl fun w9 h=>?_
  rw[(mV (r:={ Kc0 r i with next:=(Kc0 r i).next.set i (r.log.length+1) }) (lv:=lv.1) hi3 0 true).2.1] at h
  rw[Z5,E5 (by omega) (by omega)]
  exact hnext _ _ ⟨i+1,by omega,rfl,h⟩ (by simp only;omega)
 have:i=3:=by omega
 subst this
 rw[ZF0] at h
 have hll:(CZ r).log=r.log:=rfl
 refine h.make (fun B2 own base2=>Wr0 (pJ.of lv.2 (own (i:=0) rfl) (Y3.read (own (i:=1) rfl))) (Rf0 hk) rfl) fun u τ w2 hp h=>?_
 obtain⟨rfl,x,n,c,rfl⟩:=hp
 rw[MU]
 refine BK (i:=3) h rfl rfl rfl (FE (o:={ o0 with send:=PR (CZ r) }) rfl (rfl:(Value.slice x n c).oneCell'=true)) fun w3 h=>?_
 exact k _ _ _ _ ⟨rfl,rfl⟩ (NZ (o:={ o0 with send:=PR (CZ r) }) rfl rfl (h.pick [0,1,4] (by decide)) rfl)
set_option maxHeartbeats 1000000 in
theorem tu0(hk:Y9 r)(hl:r.role=2):Does prog B (bA p r) (Z0 ZF #[ptr p]) fun _ e' τ=>e'=bA p (kJ r)∧τ=[]:=by
 refine Does.intro fun B' w K base h k=>?_
 refine fE.up ?_
 unfold fE.pt
 obtain⟨lv,h⟩:=bA.open h
 have h:Rel B' w [O1 p I1 (M_ r lv.1),Y3 X3 lv.1 r.log]:=h
 have hlen:=hk.len
 have hmr:=bg0 hk hl
 have fin:∀(r':G8) (z:Value) (w':World),kJ r=r'→r'.log=r.log→Rel B' w' [O1 p I1 (M_ r' lv.1),Y3 X3 lv.1 r.log]→K z w':=by
  intro r' z w' e elog h
  refine k z _ [] w' ⟨rfl,rfl⟩ ?_
  rw[e]
  refine bA.close lv ?_
  unfold yA0
  rw[elog]
  exact h
 clear k
 unfold kJ at fin
 refine h.make (fun B2 own base2=>ug0 (pJ.of lv.2 (own (i:=0) rfl) (Y3.read (own (i:=1) rfl)))) fun ov τ w1 hp h=>?_
 subst hp
 have h:Rel B' w1 [O1 p I1 (M_ r lv.1),Y3 X3 lv.1 r.log,Y3 Q0 ov (o8 r.id)]:=h
 have ho3:=sS r.id
 rw[O4.len (Y3.read (h.here (i:=2) rfl)) N8]
 refine F6 (fun z w'=>∃i:Nat,i≤(o8 r.id).length∧z=(.int .i64 (((o8 r.id).take i).foldl (fun a i=>max a (r.mtch.get i)) 0),.int .i64 i,())∧Rel B' w' [O1 p I1 (M_ r lv.1),Y3 X3 lv.1 r.log,Y3 Q0 ov (o8 r.id)])
  (fun z _=>(o8 r.id).length-(match z.2.1 with | .int _ n=>n.toNat | _=>0)) ⟨0,Nat.zero_le _,rfl,h⟩ ?_
 clear h
 rintro z w2 ⟨i,hi,rfl,h⟩ next hnext
 simp -zeta only[G6,K3]
 refine⟨fun hlt=>?_,fun hge=>?_⟩
 ·have hil:i<(o8 r.id).length:=by omega
  have hmem:=sU (List.getElem_mem hil)
  obtain⟨g,o,hx,hc⟩:=O4.idx (Y3.read (h.here (i:=2) rfl)) N8 (P:=prog) hil
  rw[hx,K6.ld0 hc Y2 (v := .int .i64 (o8 r.id)[i]) rfl]
  clear hc hx
  simp -zeta only[J5,U0 VL,Nat.zero_add]
  rw[rv0 hmem,h.ld 0 rfl Y2 (o:=12+((o8 r.id)[i]).toNat) (XU hmem).2.1,II,Z5,E5 (by omega) (by omega)]
  refine hnext _ _ ⟨i+1,hil,?_,h⟩ (by simp only;omega)
  rw[List.take_succ_eq_append_getElem hil,List.foldl_append]
  rfl
 have:i=(o8 r.id).length:=by omega
 subst this
 rw[List.take_length]
 have em:(o8 r.id).foldl (fun a i=>max a (r.mtch.get i)) 0=ij0 r:=rfl
 rw[em]
 have h:=h.tick
 generalize tick w2=w2 at *
 simp -zeta only[J5,U0 w_,U0 lH,U0 KC,Nat.zero_add,Nat.add_zero]
 rw[h.ld 0 rfl Y2 (o:=5) (v := .int .i64 r.commit) rfl,x9,K3]
 refine⟨fun c1=>?_,fun c1=>?_⟩
 case refine_2 =>
  rw[if_neg (fun hh=>c1 hh.1)] at fin
  exact fin r _ _ rfl rfl (h.pick [0,1] (by decide))
 rw[h.ld 0 rfl Y2 (o:=1) (v := .int .i64 r.hard.term) rfl]
 refine h.ask (fun B2 own base2=>iX (pJ.of lv.2 (own (i:=0) rfl) (Y3.read (own (i:=1) rfl))) (by omega) hmr) fun w3 h=>?_
 refine⟨h.is 0 rfl Y2 (o:=1) rfl,?_⟩
 rw[F7,K3]
 refine⟨fun c2=>?_,fun c2=>?_⟩
 case refine_2 =>
  rw[if_neg (fun hh=>c2 hh.2)] at fin
  exact fin r _ _ rfl rfl (h.pick [0,1] (by decide))
 refine h.st 0 rfl Y2 (o:=5) (show 5<15 by omega) rfl fun w4 h=>?_
 rw[if_pos ⟨c1,c2⟩] at fin
 exact fin _ _ _ rfl rfl (h.pick [0,1] (by decide))
end
end Go.Proofs.YtngbebnhegcokaaGreatDoor
