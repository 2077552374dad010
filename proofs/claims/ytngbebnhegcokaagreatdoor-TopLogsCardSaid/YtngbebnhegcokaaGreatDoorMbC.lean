/-
  Part 3 of the proof that TopLogs holds, for the parts that follow; made small by program out of longer texts. No condition.
-/
import Derived.Test.YtngbebnhegcokaaGreatDoorMbB
set_option linter.all false
namespace Go.Proofs.YtngbebnhegcokaaGreatDoor
open Go.Proofs.Tryz (prog)
set_option linter.unusedVariables false
set_option maxRecDepth 100000
section
variable {w:World} {K:PtK}
def dC.pt(p0 t1:Value)(w:World)(K:PtK):Prop :=
 upK prog (yC M3 p0) w fun p2 w1 =>
 M0 prog (O0 M3 p2 0) fun t4 =>
 Y0 prog (X0 Q0 t4) w1 fun t5 =>
 Y0 prog (X0 Q0 t1) w1 fun t6 =>
 M0 prog (Y3 .eql Q0 (.tmp 5) (.tmp 6) t5 t6) fun t7 =>
 K t7 w1
theorem dC.EQ:dC.pt=fun p0 t1 w K=>FN prog Tryz.f202 (WS Tryz.f202) [3] .leaf [p0,t1] w K:=by kernel_rfl
theorem dC.call{p0 t1:Value}{w:World}{K:PtK}(h:dC.pt p0 t1 w K):Calls prog xG #[p0,t1] w (EP K) :=
 jM (args:=[p0,t1]) Tryz.func202 (by kernel_rfl) (by rw[dC.EQ] at h;exact h)
theorem dC.up{p0 t1:Value}{w:World}{K:PtK}(h:Calls prog xG #[p0,t1] w (EP K)):upK prog (Z0 xG #[p0,t1]) w K :=
 VH (fn:=Tryz.f202) Tryz.func202 (by kernel_rfl) (by kernel_rfl) h
def z8.pt(x0 target1 cmp2:Value)(w:World)(K:PtK):Prop :=
 Y0 prog (J5 .len #[I4] Q0 #[false] #[x0]) w fun t13 =>
 TE (X:=Value×Unit) (fun jv1 w1 =>
  M0 prog (Y3 .lss Q0 (.tmp 36) (.tmp 37) jv1.1 t13) fun t38 =>
  ifB t38
  (M0 prog (Y4 I4 x0 jv1.1) fun t43 =>
  Y0 prog (X0 M3 t43) w1 fun t44 =>
  upK prog (aA cmp2 #[t44,target1]) w1 fun t46 w2 =>
  M0 prog (Y3 .eql Q0 (.tmp 46) (.const (.int .i64 0)) t46 (.int .i64 0)) fun t47 =>
  K (.tuple #[jv1.1,t47]) w2)
  (K (.tuple #[jv1.1,(.bool false)]) w1))
 (fun J1 =>
  LOOP (X:=Value×Value×Unit) (fun lv3 w3 next3 =>
  M0 prog (Y3 .lss Q0 (.tmp 15) (.tmp 16) lv3.1 lv3.2.1) fun t17 =>
  ifB t17
  (M0 prog (Y3 .add Q0 (.tmp 18) (.tmp 19) lv3.1 lv3.2.1) fun t20 =>
   upK prog (iU Q0 Im0 t20) w3 fun t21 w4 =>
   M0 prog (Y3 .shr Im0 (.tmp 21) (.const (.int .u64 1)) t21 (.int .u64 1)) fun t22 =>
   upK prog (iU Im0 Q0 t22) w4 fun t23 w5 =>
   M0 prog (Y4 I4 x0 t23) fun t27 =>
   Y0 prog (X0 M3 t27) w5 fun t28 =>
   upK prog (aA cmp2 #[t28,target1]) w5 fun t30 w6 =>
   M0 prog (Y3 .lss Q0 (.tmp 30) (.const (.int .i64 0)) t30 (.int .i64 0)) fun t31 =>
   ifB t31
   (M0 prog (Y3 .add Q0 (.tmp 32) (.const (.int .i64 1)) t23 (.int .i64 1)) fun t33 =>
   next3 (t33,lv3.2.1,()) w6)
   (next3 (lv3.1,t23,()) w6))
  (J1 (lv3.1,()) w3))
  ((.int .i64 0),t13,()) w)
theorem z8.up{x0 target1 cmp2:Value}(h:z8.pt x0 target1 cmp2 w K):upK prog (Z0 G9 #[x0,target1,cmp2]) w K :=
 upF [6,7] (.node none .leaf (.node none .leaf (.node none .leaf (.node (some [9]) .leaf .leaf)))) [x0,target1,cmp2] Tryz.func203 h
def fC.pt(x0 id1:Value)(w:World)(K:PtK):Prop :=
 upK prog (yC M3 x0) w fun x2 w1 =>
 M0 prog (O0 M3 x2 0) fun t5 =>
 Y0 prog (X0 Q0 t5) w1 fun t6 =>
 M0 prog (Y3 .sub Q0 (.tmp 6) (.tmp 7) t6 id1) fun t8 =>
 K t8 w1
theorem fC.EQ:fC.pt=fun x0 id1 w K=>FN prog Tryz.f204 (WS Tryz.f204) [4] .leaf [x0,id1] w K:=by kernel_rfl
theorem fC.call{x0 id1:Value}{w:World}{K:PtK}(h:fC.pt x0 id1 w K):Calls prog yG #[x0,id1] w (EP K) :=
 jM (args:=[x0,id1]) Tryz.func204 (by kernel_rfl) (by rw[fC.EQ] at h;exact h)
theorem fC.up{x0 id1:Value}{w:World}{K:PtK}(h:Calls prog yG #[x0,id1] w (EP K)):upK prog (Z0 yG #[x0,id1]) w K :=
 VH (fn:=Tryz.f204) Tryz.func204 (by kernel_rfl) (by kernel_rfl) h
def m_.pt(s0 i1 v2:Value)(w:World)(K:PtK):Prop :=
 M0 prog (d9 I4 s0 (some i1) none none) fun t12 =>
 Y0 prog (J5 .len #[I4] Q0 #[false] #[v2]) w fun t14 =>
 M0 prog (Y3 .eql Q0 (.tmp 15) (.const (.int .i64 0)) t14 (.int .i64 0)) fun t16 =>
 ifB t16
 (K s0 w)
 (Y0 prog (J5 .len #[I4] Q0 #[false] #[s0]) w fun t19 =>
  M0 prog (Y3 .eql Q0 (.tmp 20) (.tmp 21) i1 t19) fun t22 =>
  ifB t22
  (upK prog (J5 .append #[I4,I4] I4 #[false,false] #[s0,v2]) w fun t25 w1 =>
  K t25 w1)
  (M0 prog (Y3 .add Q0 (.tmp 26) (.tmp 27) t19 t14) fun t28 =>
  Y0 prog (J5 .cap #[I4] Q0 #[false] #[s0]) w fun t30 =>
  M0 prog (Y3 .gtr Q0 (.tmp 28) (.tmp 30) t28 t30) fun t31 =>
  ifB t31
  (M0 prog (d9 I4 s0 none (some i1) none) fun t34 =>
   M0 prog (Y3 .add Q0 (.tmp 35) (.tmp 36) t19 t14) fun t37 =>
   M0 prog (Y3 .sub Q0 (.tmp 37) (.tmp 38) t37 i1) fun t39 =>
   upK prog (J5 .append #[I4,Q0] I4 #[false,false] #[t34,t39]) w fun t40 w2 =>
   M0 prog (d9 I4 t40 (some i1) none none) fun t43 =>
   upK prog (J5 .copy #[I4,I4] Q0 #[false,false] #[t43,v2]) w2 fun t45 w3 =>
   M0 prog (Y3 .add Q0 (.tmp 47) (.tmp 48) i1 t14) fun t49 =>
   M0 prog (d9 I4 t40 (some t49) none none) fun t50 =>
   M0 prog (d9 I4 s0 (some i1) none none) fun t53 =>
   upK prog (J5 .copy #[I4,I4] Q0 #[false,false] #[t50,t53]) (tick w3) fun t54 w4 =>
   K t40 w4)
  (M0 prog (Y3 .add Q0 (.tmp 57) (.tmp 58) t19 t14) fun t59 =>
   M0 prog (d9 I4 s0 none (some t59) none) fun t60 =>
   M0 prog (Y3 .add Q0 (.tmp 63) (.tmp 64) i1 t14) fun t65 =>
   M0 prog (d9 I4 t60 (some t65) none none) fun t66 =>
   upK prog (Z0 mP #[v2,t66]) w fun t67 w5 =>
   M0 prog (sUn .not t67) fun t68 =>
   ifB t68
   (M0 prog (Y3 .add Q0 (.tmp 70) (.tmp 71) i1 t14) fun t72 =>
   M0 prog (d9 I4 t60 (some t72) none none) fun t73 =>
   M0 prog (d9 I4 t60 (some i1) none none) fun t76 =>
   upK prog (J5 .copy #[I4,I4] Q0 #[false,false] #[t73,t76]) (tick w5) fun t77 w6 =>
   M0 prog (d9 I4 t60 (some i1) none none) fun t80 =>
   upK prog (J5 .copy #[I4,I4] Q0 #[false,false] #[t80,v2]) w6 fun t82 w7 =>
   K t60 w7)
   (M0 prog (d9 I4 t60 (some t19) none none) fun t86 =>
   upK prog (J5 .copy #[I4,I4] Q0 #[false,false] #[t86,v2]) w5 fun t88 w8 =>
   M0 prog (d9 I4 t60 (some i1) none none) fun t91 =>
   upK prog (Z0 SN #[t91,t14]) w8 fun t93 w9 =>
   K t60 w9))))
theorem m_.up{s0 i1 v2:Value}(h:m_.pt s0 i1 v2 w K):upK prog (Z0 qA #[s0,i1,v2]) w K :=
 upF [6] .leaf [s0,i1,v2] Tryz.func205 h
def T9.pt(s0 del1:Value)(w:World)(K:PtK):Prop :=
 upK prog (Z0 X_ #[s0,del1]) w fun t10 w1 =>
 M0 prog (Y3 .eql Q0 (.tmp 11) (.const (.int .i64 (-1))) t10 (.int .i64 (-1))) fun t12 =>
 ifB t12
 (K s0 w1)
 (M0 prog (Y3 .add Q0 (.tmp 14) (.const (.int .i64 1)) t10 (.int .i64 1)) fun t15 =>
  LOOP (X:=Value×Value×Unit) (fun lv2 w2 next2 =>
  Y0 prog (J5 .len #[N7] Q0 #[false] #[s0]) w2 fun t18 =>
  M0 prog (Y3 .lss Q0 (.tmp 16) (.tmp 18) lv2.2.1 t18) fun t19 =>
  ifB t19
  (TE (X:=Value×Unit) (fun jv1 w3 =>
   M0 prog (Y3 .add Q0 (.tmp 20) (.const (.int .i64 1)) lv2.2.1 (.int .i64 1)) fun t21 =>
   next2 (jv1.1,t21,()) w3)
   (fun J1 =>
   M0 prog (Y4 N7 s0 lv2.2.1) fun t24 =>
   Y0 prog (X0 O4 t24) w2 fun t25 =>
   upK prog (I7 O4) w2 fun v7 w4 =>
   upK prog (F4 O4 v7 t25) w4 fun tu w5 =>
   Y0 prog (X0 O4 v7) w5 fun t27 =>
   upK prog (aA del1 #[t27]) w5 fun t28 w6 =>
   M0 prog (sUn .not t28) fun t29 =>
   ifB t29
   (Y0 prog (X0 O4 v7) w6 fun t32 =>
    M0 prog (Y4 N7 s0 lv2.1) fun t33 =>
    upK prog (F4 O4 t33 t32) w6 fun tu_1 w7 =>
    M0 prog (Y3 .add Q0 (.tmp 34) (.const (.int .i64 1)) lv2.1 (.int .i64 1)) fun t35 =>
    J1 (t35,()) w7)
   (J1 (lv2.1,()) w6)))
  (M0 prog (d9 N7 s0 (some lv2.1) none none) fun t38 =>
   upK prog (J5 .clear #[N7] T_ #[false] #[t38]) w2 fun tu_2 w8 =>
   M0 prog (d9 N7 s0 none (some lv2.1) none) fun t41 =>
   K t41 w8))
  (t10,t15,()) w1)
theorem T9.up{s0 del1:Value}(h:T9.pt s0 del1 w K):upK prog (Z0 V_ #[s0,del1]) w K :=
 upF [4] (.node none .leaf (.node none .leaf (.node none .leaf (.node none (.node none .leaf (.node none (.node none (.node none .leaf (.node (some [5]) .leaf .leaf)) .leaf) .leaf)) .leaf)))) [s0,del1] Tryz.func206 h
def BA.pt(p0 t1:Value)(w:World)(K:PtK):Prop :=
 upK prog (yC O4 p0) w fun p2 w1 =>
 M0 prog (O0 O4 p2 0) fun t4 =>
 Y0 prog (X0 Q0 t4) w1 fun t5 =>
 Y0 prog (X0 Q0 t1) w1 fun t6 =>
 M0 prog (Y3 .eql Q0 (.tmp 5) (.tmp 6) t5 t6) fun t7 =>
 K t7 w1
theorem BA.EQ:BA.pt=fun p0 t1 w K=>FN prog Tryz.f207 (WS Tryz.f207) [3] .leaf [p0,t1] w K:=by kernel_rfl
theorem BA.call{p0 t1:Value}{w:World}{K:PtK}(h:BA.pt p0 t1 w K):Calls prog RD #[p0,t1] w (EP K) :=
 jM (args:=[p0,t1]) Tryz.func207 (by kernel_rfl) (by rw[BA.EQ] at h;exact h)
theorem BA.up{p0 t1:Value}{w:World}{K:PtK}(h:Calls prog RD #[p0,t1] w (EP K)):upK prog (Z0 RD #[p0,t1]) w K :=
 VH (fn:=Tryz.f207) Tryz.func207 (by kernel_rfl) (by kernel_rfl) h
def J8.pt(m0 del1:Value)(w:World)(K:PtK):Prop :=
 upK prog (vo0 K7 m0) w fun t7 w1 =>
 LOOP (X:=Unit) (fun lv2 w2 next2 =>
  upK prog (Gx0 t7 false T_) w2 fun t8 w3 =>
  M0 prog (R5 t8 0) fun t9 =>
  ifB t9
  (upK prog (uo0 t7) w3 fun t10 w4 =>
  M0 prog (R5 t10 0) fun t11 =>
  M0 prog (R5 t10 1) fun t12 =>
  upK prog (I7 O4) w4 fun k4 w5 =>
  upK prog (F4 O4 k4 t11) w5 fun tu w6 =>
  Y0 prog (X0 O4 k4) w6 fun t14 =>
  upK prog (aA del1 #[t14,t12]) w6 fun t16 w7 =>
  ifB t16
  (Y0 prog (X0 O4 k4) w7 fun t18 =>
   upK prog (J5 .delete #[K7,O4] T_ #[false,false] #[m0,t18]) w7 fun tu_1 w8 =>
   next2 (()) w8)
  (next2 (()) w7))
  (K (.tuple #[]) w3))
 (()) w1
theorem J8.up{m0 del1:Value}(h:J8.pt m0 del1 w K):upK prog (Z0 K9 #[m0,del1]) w K :=
 upF [] .leaf [m0,del1] Tryz.func208 h
def EA.pt(p0 t1 t2:Value)(w:World)(K:PtK):Prop :=
 upK prog (yC O4 p0) w fun p3 w1 =>
 M0 prog (O0 O4 p3 0) fun t6 =>
 Y0 prog (X0 Q0 t6) w1 fun t7 =>
 Y0 prog (X0 Q0 t2) w1 fun t8 =>
 M0 prog (Y3 .eql Q0 (.tmp 7) (.tmp 8) t7 t8) fun t9 =>
 K t9 w1
theorem EA.EQ:EA.pt=fun p0 t1 t2 w K=>FN prog Tryz.f209 (WS Tryz.f209) [5] .leaf [p0,t1,t2] w K:=by kernel_rfl
theorem EA.call{p0 t1 t2:Value}{w:World}{K:PtK}(h:EA.pt p0 t1 t2 w K):Calls prog TD #[p0,t1,t2] w (EP K) :=
 jM (args:=[p0,t1,t2]) Tryz.func209 (by kernel_rfl) (by rw[EA.EQ] at h;exact h)
theorem EA.up{p0 t1 t2:Value}{w:World}{K:PtK}(h:Calls prog TD #[p0,t1,t2] w (EP K)):upK prog (Z0 TD #[p0,t1,t2]) w K :=
 VH (fn:=Tryz.f209) Tryz.func209 (by kernel_rfl) (by kernel_rfl) h
def GR.pt(l0:Value)(w:World)(K:PtK):Prop :=
 upK prog (I7 M5) w fun b3 w1 =>
 Y0 prog (J5 .len #[K4] Q0 #[false] #[l0]) w1 fun t7 =>
 LOOP (X:=Value×Unit) (fun lv2 w2 next2 =>
  M0 prog (Y3 .lss Q0 (.tmp 8) (.tmp 7) lv2.1 t7) fun t9 =>
  ifB t9
  (M0 prog (Y4 K4 l0 lv2.1) fun t10 =>
  Y0 prog (X0 U2 t10) w2 fun t11 =>
  upK prog (Z0 pF #[t11]) w2 fun t13 w3 =>
  upK prog (Z0 u7 #[b3,t13]) w3 fun t14 w4 =>
  M0 prog (Y3 .add Q0 (.tmp 8) (.const (.int .i64 1)) lv2.1 (.int .i64 1)) fun t15 =>
  next2 (t15,()) w4)
  (upK prog (Z0 H9 #[b3]) w2 fun t16 w5 =>
  K t16 w5))
 ((.int .i64 0),()) w1
theorem GR.up{l0:Value}(h:GR.pt l0 w K):upK prog (Z0 DK #[l0]) w K :=
 upF [2] .leaf [l0] Tryz.func210 h
def AC.pt(s0 del1:Value)(w:World)(K:PtK):Prop :=
 upK prog (Z0 IE #[s0,del1]) w fun t10 w1 =>
 M0 prog (Y3 .eql Q0 (.tmp 11) (.const (.int .i64 (-1))) t10 (.int .i64 (-1))) fun t12 =>
 ifB t12
 (K s0 w1)
 (M0 prog (Y3 .add Q0 (.tmp 14) (.const (.int .i64 1)) t10 (.int .i64 1)) fun t15 =>
  LOOP (X:=Value×Value×Unit) (fun lv2 w2 next2 =>
  Y0 prog (J5 .len #[J6] Q0 #[false] #[s0]) w2 fun t18 =>
  M0 prog (Y3 .lss Q0 (.tmp 16) (.tmp 18) lv2.2.1 t18) fun t19 =>
  ifB t19
  (TE (X:=Value×Unit) (fun jv1 w3 =>
   M0 prog (Y3 .add Q0 (.tmp 20) (.const (.int .i64 1)) lv2.2.1 (.int .i64 1)) fun t21 =>
   next2 (jv1.1,t21,()) w3)
   (fun J1 =>
   M0 prog (Y4 J6 s0 lv2.2.1) fun t24 =>
   Y0 prog (X0 Q0 t24) w2 fun t25 =>
   upK prog (aA del1 #[t25]) w2 fun t28 w4 =>
   M0 prog (sUn .not t28) fun t29 =>
   ifB t29
   (M0 prog (Y4 J6 s0 lv2.1) fun t33 =>
    upK prog (F4 Q0 t33 t25) w4 fun tu w5 =>
    M0 prog (Y3 .add Q0 (.tmp 34) (.const (.int .i64 1)) lv2.1 (.int .i64 1)) fun t35 =>
    J1 (t35,()) w5)
   (J1 (lv2.1,()) w4)))
  (M0 prog (d9 J6 s0 (some lv2.1) none none) fun t38 =>
   upK prog (J5 .clear #[J6] T_ #[false] #[t38]) w2 fun tu_1 w6 =>
   M0 prog (d9 J6 s0 none (some lv2.1) none) fun t41 =>
   K t41 w6))
  (t10,t15,()) w1)
theorem AC.up{s0 del1:Value}(h:AC.pt s0 del1 w K):upK prog (Z0 VD #[s0,del1]) w K :=
 upF [4] (.node none .leaf (.node none .leaf (.node none .leaf (.node none (.node none .leaf (.node none (.node none (.node none .leaf (.node (some [5]) .leaf .leaf)) .leaf) .leaf)) .leaf)))) [s0,del1] Tryz.func211 h
def OD.pt(i0 t1:Value)(w:World)(K:PtK):Prop :=
 Y0 prog (X0 R6 t1) w fun t5 =>
 M0 prog (X4 t5) fun t6 =>
 M0 prog (O0 I1 t6 0) fun t7 =>
 Y0 prog (X0 Q0 t7) w fun t8 =>
 M0 prog (Y3 .eql Q0 (.tmp 4) (.tmp 8) i0 t8) fun t9 =>
 K t9 w
theorem OD.up{i0 t1:Value}(h:OD.pt i0 t1 w K):upK prog (Z0 JF #[i0,t1]) w K :=
 upF [3] .leaf [i0,t1] Tryz.func212 h
def R_.pt(s0 i1 j2:Value)(w:World)(K:PtK):Prop :=
 Y0 prog (J5 .len #[I5] Q0 #[false] #[s0]) w fun t12 =>
 M0 prog (d9 I5 s0 (some i1) (some j2) (some t12)) fun t13 =>
 M0 prog (Y3 .eql Q0 (.tmp 14) (.tmp 15) i1 j2) fun t16 =>
 ifB t16
 (K s0 w)
 (Y0 prog (J5 .len #[I5] Q0 #[false] #[s0]) w fun t19 =>
  M0 prog (d9 I5 s0 none (some i1) none) fun t22 =>
  M0 prog (d9 I5 s0 (some j2) none none) fun t25 =>
  upK prog (J5 .append #[I5,I5] I5 #[false,false] #[t22,t25]) (tick w) fun t26 w1 =>
  Y0 prog (J5 .len #[I5] Q0 #[false] #[t26]) w1 fun t29 =>
  M0 prog (d9 I5 t26 (some t29) (some t19) none) fun t31 =>
  upK prog (J5 .clear #[I5] T_ #[false] #[t31]) w1 fun tu w2 =>
  K t26 w2)
theorem R_.up{s0 i1 j2:Value}(h:R_.pt s0 i1 j2 w K):upK prog (Z0 ZA #[s0,i1,j2]) w K :=
 upF [6] .leaf [s0,i1,j2] Tryz.func213 h
def PO.pt(m0:Value)(w:World)(K:PtK):Prop :=
 upK prog (yC U1 m0) w fun m1 w1 =>
 upK prog (I7 Y2) w1 fun t2 w2 =>
 Y0 prog (X0 U1 m1) w2 fun t3 =>
 upK prog (P6 W_ 1 #[(0,t3)]) w2 fun t4 w3 =>
 M0 prog (G6 Y2 #[(4,t4)]) fun t5 =>
 upK prog (F4 Y2 t2 t5) w3 fun tu w4 =>
 S9 prog (do loadVar Y2 (←asAddr t2)) w4 fun t2_1 =>
 K t2_1 w4
theorem PO.up{m0:Value}(h:PO.pt m0 w K):upK prog (Z0 D_ #[m0]) w K :=
 upF [] .leaf [m0] Tryz.func214 h
def yE.pt(r0:Value)(w:World)(K:PtK):Prop :=
 upK prog (Z0 UB #[r0]) w fun t6 w1 =>
 Y0 prog (J5 .len #[J6] Q0 #[false] #[t6]) w1 fun t7 =>
 LOOP (X:=Value×Value×Unit) (fun lv2 w2 next2 =>
  M0 prog (Y3 .lss Q0 (.tmp 8) (.tmp 7) lv2.2.1 t7) fun t9 =>
  ifB t9
  (M0 prog (Y4 J6 t6 lv2.2.1) fun t10 =>
  Y0 prog (X0 Q0 t10) w2 fun t11 =>
  M0 prog (X4 r0) fun t15 =>
  M0 prog (O0 I1 t15 7) fun t16 =>
  M0 prog (Y4 IM t16 t11) fun t17 =>
  Y0 prog (X0 Q0 t17) w2 fun t18 =>
  M0 prog (J5 .max #[Q0,Q0] Q0 #[false,false] #[lv2.1,t18]) fun t19 =>
  M0 prog (Y3 .add Q0 (.tmp 8) (.const (.int .i64 1)) lv2.2.1 (.int .i64 1)) fun t20 =>
  next2 (t19,t20,()) w2)
  (M0 prog (X4 r0) fun t23 =>
  M0 prog (O0 I1 t23 4) fun t24 =>
  Y0 prog (X0 Q0 t24) (tick w2) fun t25 =>
  M0 prog (Y3 .gtr Q0 (.tmp 21) (.tmp 25) lv2.1 t25) fun t26 =>
  ifB t26
  (M0 prog (X4 r0) fun t32 =>
   M0 prog (O0 I1 t32 1) fun t33 =>
   M0 prog (O0 H5 t33 0) fun t34 =>
   Y0 prog (X0 Q0 t34) (tick w2) fun t35 =>
   upK prog (Z0 F_ #[r0,lv2.1]) (tick w2) fun t30 w3 =>
   Is prog (X0 Q0 t34) t35 w3∧M0 prog (Y3 .eql Q0 (.tmp 30) (.tmp 35) t30 t35) fun t36 =>
   ifB t36
   (M0 prog (X4 r0) fun t40 =>
   M0 prog (O0 I1 t40 4) fun t41 =>
   upK prog (F4 Q0 t41 lv2.1) w3 fun tu w4 =>
   K (.tuple #[]) w4)
   (K (.tuple #[]) w3))
  (K (.tuple #[]) (tick w2))))
 ((.int .i64 0),(.int .i64 0),()) w1
theorem yE.up{r0:Value}(h:yE.pt r0 w K):upK prog (Z0 mG #[r0]) w K :=
 upF [] .leaf [r0] Tryz.func215 h
def l_.pt(s0 f1:Value)(w:World)(K:PtK):Prop :=
 upK prog (Z0 VA #[s0,f1]) w fun t7 w1 =>
 M0 prog (Y3 .geq Q0 (.tmp 7) (.const (.int .i64 0)) t7 (.int .i64 0)) fun t8 =>
 K t8 w1
theorem l_.up{s0 f1:Value}(h:l_.pt s0 f1 w K):upK prog (Z0 nA #[s0,f1]) w K :=
 upF [4] .leaf [s0,f1] Tryz.func216 h
def UG.pt(v0:Value)(w:World)(K:PtK):Prop :=
 upK prog (yC R3 v0) w fun v1 w1 =>
 Y0 prog (X0 R3 v1) w1 fun t3 =>
 upK prog (Z0 rU #[t3]) w1 fun t4 w2 =>
 M0 prog (sUn .not t4) fun t5 =>
 K t5 w2
theorem UG.EQ:UG.pt=fun v0 w K=>FN prog Tryz.f217 (WS Tryz.f217) [2] .leaf [v0] w K:=by kernel_rfl
theorem UG.call{v0:Value}{w:World}{K:PtK}(h:UG.pt v0 w K):Calls prog OP #[v0] w (EP K) :=
 jM (args:=[v0]) Tryz.func217 (by kernel_rfl) (by rw[UG.EQ] at h;exact h)
theorem UG.up{v0:Value}{w:World}{K:PtK}(h:Calls prog OP #[v0] w (EP K)):upK prog (Z0 OP #[v0]) w K :=
 VH (fn:=Tryz.f217) Tryz.func217 (by kernel_rfl) (by kernel_rfl) h
def mU.pt(v0:Value)(w:World)(K:PtK):Prop :=
 upK prog (yC R3 v0) w fun v1 w1 =>
 M0 prog (O0 R3 v1 0) fun t3 =>
 Y0 prog (X0 Q0 t3) w1 fun t4 =>
 M0 prog (Y3 .eql Q0 (.tmp 4) (.const (.int .i64 0)) t4 (.int .i64 0)) fun t6 =>
 ifB t6
 (Y0 prog (X0 R3 v1) (tick w1) fun t7 =>
  M0 prog (O0 R3 v1 1) fun t8 =>
  Y0 prog (X0 Q0 t8) (tick w1) fun t9 =>
  upK prog (Z0 NW #[t9]) (tick w1) fun t10 w2 =>
  Is prog (X0 R3 v1) t7 w2∧M0 prog (Y3 .eql R3 (.tmp 7) (.tmp 10) t7 t10) fun t11 =>
  K t11 w2)
 (M0 prog (Y3 .eql Q0 (.tmp 4) (.const (.int .i64 1)) t4 (.int .i64 1)) fun t13 =>
  ifB t13
  (Y0 prog (X0 R3 v1) (tick w1) fun t14 =>
  M0 prog (O0 R3 v1 2) fun t15 =>
  Y0 prog (X0 U2 t15) (tick w1) fun t16 =>
  upK prog (Z0 CV #[t16]) (tick w1) fun t17 w3 =>
  Is prog (X0 R3 v1) t14 w3∧M0 prog (Y3 .eql R3 (.tmp 14) (.tmp 17) t14 t17) fun t18 =>
  ifB t18
  (M0 prog (O0 R3 v1 2) fun t20 =>
   Y0 prog (X0 U2 t20) w3 fun t21 =>
   Y0 prog (J5 .len #[U2] Q0 #[false] #[t21]) w3 fun t22 =>
   M0 prog (Y3 .leq Q0 (.tmp 22) (.const (.int .i64 200)) t22 (.int .i64 200)) fun t23 =>
   K t23 w3)
  (K (.bool false) w3))
  (Y0 prog (X0 R3 v1) (tick w1) fun t25 =>
  upK prog (Z0 wR #[(.bool false)]) (tick w1) fun t26 w4 =>
  Is prog (X0 R3 v1) t25 w4∧M0 prog (Y3 .eql R3 (.tmp 25) (.tmp 26) t25 t26) fun t27 =>
  ifB t27
  (K (.bool true) w4)
  (Y0 prog (X0 R3 v1) w4 fun t29 =>
   upK prog (Z0 wR #[(.bool true)]) w4 fun t30 w5 =>
   Is prog (X0 R3 v1) t29 w5∧M0 prog (Y3 .eql R3 (.tmp 29) (.tmp 30) t29 t30) fun t31 =>
   K t31 w5)))
theorem mU.up{v0:Value}(h:mU.pt v0 w K):upK prog (Z0 rU #[v0]) w K :=
 upF [2] .leaf [v0] Tryz.func218 h
def LM.pt(d0 f1 at2 s3:Value)(w:World)(K:PtK):Prop :=
 upK prog (Z0 YH #[d0]) w fun t12 w1 =>
 upK prog (Z0 XN #[d0,f1,at2,s3]) w1 fun t17 w2 =>
 ifB t12
 (M0 prog (X4 d0) fun t21 =>
  M0 prog (O0 F5 t21 6) fun t22 =>
  Y0 prog (X0 J6 t22) w2 fun t23 =>
  upK prog (Z0 kE #[d0,t23]) w2 fun t24 w3 =>
  K (.int .i64 9) w3)
 (K t17 w2)
theorem LM.up{d0 f1 at2 s3:Value}(h:LM.pt d0 f1 at2 s3 w K):upK prog (Z0 vG #[d0,f1,at2,s3]) w K :=
 upF [8] .leaf [d0,f1,at2,s3] Tryz.func235 h
def TT.pt(slot0 s1:Value)(w:World)(K:PtK):Prop :=
 upK prog (iU Q0 p_ slot0) w fun t8 w1 =>
 upK prog (P6 OA 1 #[(0,t8)]) w1 fun t9 w2 =>
 Y0 prog (J5 .len #[U2] Q0 #[false] #[s1]) w2 fun t11 =>
 LOOP (X:=Value×Value×Unit) (fun lv3 w3 next3 =>
  Y0 prog (J5 .len #[OA] Q0 #[false] #[lv3.1]) w3 fun t13 =>
  M0 prog (Y3 .lss Q0 (.tmp 13) (.const (.int .i64 5)) t13 (.int .i64 5)) fun t14 =>
  ifB t14
  (upK prog (iU Q0 p_ lv3.2.1) w3 fun t19 w4 =>
  upK prog (P6 OA 1 #[(0,t19)]) w4 fun t20 w5 =>
  upK prog (J5 .append #[OA,OA] OA #[false,false] #[lv3.1,t20]) w5 fun t21 w6 =>
  M0 prog (Y3 .shr Q0 (.tmp 15) (.const (.int .u64 8)) lv3.2.1 (.int .u64 8)) fun t16 =>
  next3 (t21,t16,()) w6)
  (upK prog (iU OA U2 lv3.1) w3 fun t23 w7 =>
  K t23 w7))
 (t9,t11,()) w2
theorem TT.up{slot0 s1:Value}(h:TT.pt slot0 s1 w K):upK prog (Z0 MP #[slot0,s1]) w K :=
 upF [4] .leaf [slot0,s1] Tryz.func236 h
def MG.pt(j0 bytes1 n2:Value)(w:World)(K:PtK):Prop :=
 M0 prog (X4 j0) fun t9 =>
 M0 prog (O0 R4 t9 2) fun t10 =>
 Y0 prog (X0 M8 t10) (tick w) fun t11 =>
 upK prog (Z0 A8 #[bytes1]) (tick w) fun t13 w1 =>
 Is prog (X0 M8 t10) t11 w1∧upK prog (Z0 A8 #[n2]) w1 fun t15 w2 =>
 Is prog (X0 M8 t10) t11 w2∧M0 prog (Y3 .add U2 (.tmp 13) (.tmp 15) t13 t15) fun t16 =>
 upK prog (Z0 yM #[t11,t16]) w2 fun t17 w3 =>
 M0 prog (Y3 .neq Z6 (.tmp 19) (.const (.int .i64 0)) t17 (.int .i64 0)) fun t20 =>
 M0 prog (X4 j0) fun t21 =>
 M0 prog (O0 R4 t21 5) fun t22 =>
 upK prog (F4 EC t22 t20) w3 fun tu w4 =>
 K t17 w4
theorem MG.up{j0 bytes1 n2:Value}(h:MG.pt j0 bytes1 n2 w K):upK prog (Z0 aF #[j0,bytes1,n2]) w K :=
 upF [6] .leaf [j0,bytes1,n2] Tryz.func237 h
def N_.pt(s0 f1:Value)(w:World)(K:PtK):Prop :=
 Y0 prog (J5 .len #[O9] Q0 #[false] #[s0]) w fun t7 =>
 LOOP (X:=Value×Unit) (fun lv1 w1 next1 =>
  M0 prog (Y3 .lss Q0 (.tmp 8) (.tmp 7) lv1.1 t7) fun t9 =>
  ifB t9
  (M0 prog (Y4 O9 s0 lv1.1) fun t14 =>
  Y0 prog (X0 Y7 t14) w1 fun t15 =>
  upK prog (aA f1 #[t15]) w1 fun t16 w2 =>
  ifB t16
  (K lv1.1 w2)
  (M0 prog (Y3 .add Q0 (.tmp 8) (.const (.int .i64 1)) lv1.1 (.int .i64 1)) fun t18 =>
   next1 (t18,()) w2))
  (K (.int .i64 (-1)) w1))
 ((.int .i64 0),()) w
theorem N_.up{s0 f1:Value}(h:N_.pt s0 f1 w K):upK prog (Z0 UA #[s0,f1]) w K :=
 upF [4] .leaf [s0,f1] Tryz.func238 h
def H_.pt(k0 t1:Value)(w:World)(K:PtK):Prop :=
 upK prog (yC Y7 k0) w fun k2 w1 =>
 M0 prog (O0 Y7 k2 0) fun t4 =>
 Y0 prog (X0 U2 t4) w1 fun t5 =>
 M0 prog (O0 Y1 t1 4) fun t6 =>
 Y0 prog (X0 U2 t6) w1 fun t7 =>
 M0 prog (Y3 .eql U2 (.tmp 5) (.tmp 7) t5 t7) fun t8 =>
 ifB t8
 (M0 prog (O0 Y7 k2 1) fun t10 =>
  Y0 prog (X0 Q0 t10) w1 fun t11 =>
  M0 prog (O0 Y1 t1 5) fun t12 =>
  Y0 prog (X0 Q0 t12) w1 fun t13 =>
  M0 prog (Y3 .eql Q0 (.tmp 11) (.tmp 13) t11 t13) fun t14 =>
  K t14 w1)
 (K (.bool false) w1)
theorem H_.EQ:H_.pt=fun k0 t1 w K=>FN prog Tryz.f239 (WS Tryz.f239) [3] .leaf [k0,t1] w K:=by kernel_rfl
theorem H_.call{k0 t1:Value}{w:World}{K:PtK}(h:H_.pt k0 t1 w K):Calls prog MC #[k0,t1] w (EP K) :=
 jM (args:=[k0,t1]) Tryz.func239 (by kernel_rfl) (by rw[H_.EQ] at h;exact h)
theorem H_.up{k0 t1:Value}{w:World}{K:PtK}(h:Calls prog MC #[k0,t1] w (EP K)):upK prog (Z0 MC #[k0,t1]) w K :=
 VH (fn:=Tryz.f239) Tryz.func239 (by kernel_rfl) (by kernel_rfl) h
def o8.pt(s10 s21 eq2:Value)(w:World)(K:PtK):Prop :=
 Y0 prog (J5 .len #[G5] Q0 #[false] #[s10]) w fun t11 =>
 Y0 prog (J5 .len #[NB] Q0 #[false] #[s21]) w fun t13 =>
 M0 prog (Y3 .neq Q0 (.tmp 11) (.tmp 13) t11 t13) fun t14 =>
 ifB t14
 (K (.bool false) w)
 (Y0 prog (J5 .len #[G5] Q0 #[false] #[s10]) w fun t16 =>
  LOOP (X:=Value×Unit) (fun lv1 w1 next1 =>
  M0 prog (Y3 .lss Q0 (.tmp 17) (.tmp 16) lv1.1 t16) fun t18 =>
  ifB t18
  (M0 prog (Y4 G5 s10 lv1.1) fun t20 =>
   Y0 prog (X0 R3 t20) w1 fun t21 =>
   upK prog (I7 R3) w1 fun v18 w2 =>
   upK prog (F4 R3 v18 t21) w2 fun tu w3 =>
   M0 prog (Y4 NB s21 lv1.1) fun t24 =>
   Y0 prog (X0 cB t24) w3 fun t25 =>
   upK prog (I7 cB) w3 fun v29 w4 =>
   upK prog (F4 cB v29 t25) w4 fun tu_1 w5 =>
   Y0 prog (X0 R3 v18) w5 fun t27 =>
   Y0 prog (X0 cB v29) w5 fun t28 =>
   upK prog (aA eq2 #[t27,t28]) w5 fun t29 w6 =>
   M0 prog (sUn .not t29) fun t30 =>
   ifB t30
   (K (.bool false) w6)
   (M0 prog (Y3 .add Q0 (.tmp 17) (.const (.int .i64 1)) lv1.1 (.int .i64 1)) fun t31 =>
   next1 (t31,()) w6))
  (K (.bool true) w1))
  ((.int .i64 0),()) w)
theorem o8.up{s10 s21 eq2:Value}(h:o8.pt s10 s21 eq2 w K):upK prog (Z0 x9 #[s10,s21,eq2]) w K :=
 upF [6] .leaf [s10,s21,eq2] Tryz.func240 h
def I_.pt(v0 c1:Value)(w:World)(K:PtK):Prop :=
 upK prog (yC R3 v0) w fun v2 w1 =>
 upK prog (yC cB c1) w1 fun c3 w2 =>
 M0 prog (O0 R3 v2 0) fun t5 =>
 Y0 prog (X0 Q0 t5) w2 fun t6 =>
 M0 prog (O0 cB c3 1) fun t7 =>
 Y0 prog (X0 Q0 t7) w2 fun t8 =>
 M0 prog (Y3 .eql Q0 (.tmp 6) (.tmp 8) t6 t8) fun t9 =>
 K t9 w2
theorem I_.EQ:I_.pt=fun v0 c1 w K=>FN prog Tryz.f241 (WS Tryz.f241) [4] .leaf [v0,c1] w K:=by kernel_rfl
theorem I_.call{v0 c1:Value}{w:World}{K:PtK}(h:I_.pt v0 c1 w K):Calls prog NC #[v0,c1] w (EP K) :=
 jM (args:=[v0,c1]) Tryz.func241 (by kernel_rfl) (by rw[I_.EQ] at h;exact h)
theorem I_.up{v0 c1:Value}{w:World}{K:PtK}(h:Calls prog NC #[v0,c1] w (EP K)):upK prog (Z0 NC #[v0,c1]) w K :=
 VH (fn:=Tryz.f241) Tryz.func241 (by kernel_rfl) (by kernel_rfl) h
def a_.pt(s0 f1:Value)(w:World)(K:PtK):Prop :=
 Y0 prog (J5 .len #[N7] Q0 #[false] #[s0]) w fun t7 =>
 LOOP (X:=Value×Unit) (fun lv1 w1 next1 =>
  M0 prog (Y3 .lss Q0 (.tmp 8) (.tmp 7) lv1.1 t7) fun t9 =>
  ifB t9
  (M0 prog (Y4 N7 s0 lv1.1) fun t14 =>
  Y0 prog (X0 O4 t14) w1 fun t15 =>
  upK prog (aA f1 #[t15]) w1 fun t16 w2 =>
  ifB t16
  (K lv1.1 w2)
  (M0 prog (Y3 .add Q0 (.tmp 8) (.const (.int .i64 1)) lv1.1 (.int .i64 1)) fun t18 =>
   next1 (t18,()) w2))
  (K (.int .i64 (-1)) w1))
 ((.int .i64 0),()) w
theorem a_.up{s0 f1:Value}(h:a_.pt s0 f1 w K):upK prog (Z0 X_ #[s0,f1]) w K :=
 upF [4] .leaf [s0,f1] Tryz.func244 h
def YC.pt(s0 f1:Value)(w:World)(K:PtK):Prop :=
 Y0 prog (J5 .len #[J6] Q0 #[false] #[s0]) w fun t7 =>
 LOOP (X:=Value×Unit) (fun lv1 w1 next1 =>
  M0 prog (Y3 .lss Q0 (.tmp 8) (.tmp 7) lv1.1 t7) fun t9 =>
  ifB t9
  (M0 prog (Y4 J6 s0 lv1.1) fun t14 =>
  Y0 prog (X0 Q0 t14) w1 fun t15 =>
  upK prog (aA f1 #[t15]) w1 fun t16 w2 =>
  ifB t16
  (K lv1.1 w2)
  (M0 prog (Y3 .add Q0 (.tmp 8) (.const (.int .i64 1)) lv1.1 (.int .i64 1)) fun t18 =>
   next1 (t18,()) w2))
  (K (.int .i64 (-1)) w1))
 ((.int .i64 0),()) w
theorem YC.up{s0 f1:Value}(h:YC.pt s0 f1 w K):upK prog (Z0 IE #[s0,f1]) w K :=
 upF [4] .leaf [s0,f1] Tryz.func245 h
def O_.pt(s0 f1:Value)(w:World)(K:PtK):Prop :=
 Y0 prog (J5 .len #[G5] Q0 #[false] #[s0]) w fun t7 =>
 LOOP (X:=Value×Unit) (fun lv1 w1 next1 =>
  M0 prog (Y3 .lss Q0 (.tmp 8) (.tmp 7) lv1.1 t7) fun t9 =>
  ifB t9
  (M0 prog (Y4 G5 s0 lv1.1) fun t14 =>
  Y0 prog (X0 R3 t14) w1 fun t15 =>
  upK prog (aA f1 #[t15]) w1 fun t16 w2 =>
  ifB t16
  (K lv1.1 w2)
  (M0 prog (Y3 .add Q0 (.tmp 8) (.const (.int .i64 1)) lv1.1 (.int .i64 1)) fun t18 =>
   next1 (t18,()) w2))
  (K (.int .i64 (-1)) w1))
 ((.int .i64 0),()) w
theorem O_.up{s0 f1:Value}(h:O_.pt s0 f1 w K):upK prog (Z0 VA #[s0,f1]) w K :=
 upF [4] .leaf [s0,f1] Tryz.func246 h
def wY.pt(n0:Value)(w:World)(K:PtK):Prop :=
 upK prog (I7 R3) w fun t2 w1 =>
 M0 prog (G6 R3 #[(0,(.int .i64 0)),(1,n0)]) fun t4 =>
 upK prog (F4 R3 t2 t4) w1 fun tu w2 =>
 S9 prog (do loadVar R3 (←asAddr t2)) w2 fun t2_1 =>
 K t2_1 w2
theorem wY.up{n0:Value}(h:wY.pt n0 w K):upK prog (Z0 NW #[n0]) w K :=
 upF [] .leaf [n0] Tryz.func247 h
def zW.pt(s0:Value)(w:World)(K:PtK):Prop :=
 upK prog (I7 R3) w fun t2 w1 =>
 M0 prog (G6 R3 #[(0,(.int .i64 1)),(2,s0)]) fun t4 =>
 upK prog (F4 R3 t2 t4) w1 fun tu w2 =>
 S9 prog (do loadVar R3 (←asAddr t2)) w2 fun t2_1 =>
 K t2_1 w2
theorem zW.up{s0:Value}(h:zW.pt s0 w K):upK prog (Z0 CV #[s0]) w K :=
 upF [] .leaf [s0] Tryz.func248 h
def xW.pt(b0:Value)(w:World)(K:PtK):Prop :=
 upK prog (I7 R3) w fun t2 w1 =>
 ifB b0
 (M0 prog (G6 R3 #[(0,(.int .i64 2)),(1,(.int .i64 1))]) fun t4 =>
  upK prog (F4 R3 t2 t4) w1 fun tu w2 =>
  S9 prog (do loadVar R3 (←asAddr t2)) w2 fun t2_1 =>
  K t2_1 w2)
 (M0 prog (G6 R3 #[(0,(.int .i64 2))]) fun t5 =>
  upK prog (F4 R3 t2 t5) w1 fun tu_1 w3 =>
  S9 prog (do loadVar R3 (←asAddr t2)) w3 fun t2_2 =>
  K t2_2 w3)
theorem xW.up{b0:Value}(h:xW.pt b0 w K):upK prog (Z0 wR #[b0]) w K :=
 upF [] .leaf [b0] Tryz.func249 h
def MM.pt(d0 f1 at2 s3:Value)(w:World)(K:PtK):Prop :=
 upK prog (Z0 xJ #[d0,f1]) w fun t15 w1 =>
 M0 prog (Y3 .neq Z6 (.tmp 16) (.const (.int .i64 0)) t15 (.int .i64 0)) fun t17 =>
 ifB t17
 (K t15 w1)
 (M0 prog (Y3 .lss Q0 (.tmp 20) (.const (.int .i64 0)) at2 (.int .i64 0)) fun t21 =>
  ifB t21
  (K (.int .i64 1) w1)
  (M0 prog (Y3 .gtr Q0 (.tmp 23) (.const (.int .i64 16777216)) at2 (.int .i64 16777216)) fun t24 =>
  ifB t24
  (K (.int .i64 6) w1)
  (Y0 prog (J5 .len #[U2] Q0 #[false] #[s3]) w1 fun t27 =>
   M0 prog (Y3 .sub Q0 (.const (.int .i64 16777216)) (.tmp 28) (.int .i64 16777216) at2) fun t29 =>
   M0 prog (Y3 .gtr Q0 (.tmp 27) (.tmp 29) t27 t29) fun t30 =>
   ifB t30
   (K (.int .i64 6) w1)
   (M0 prog (Y3 .eql U2 (.tmp 33) (.const (.string ⟨#[]⟩)) s3 (.string ⟨#[]⟩)) fun t34 =>
   ifB t34
   (K (.int .i64 0) w1)
   (M0 prog (X4 d0) fun t36 =>
    M0 prog (O0 F5 t36 0) fun t37 =>
    Y0 prog (X0 u6 t37) w1 fun t38 =>
    Y0 prog (lK u6 t38 f1 false) w1 fun t40 =>
    upK prog (I7 D8) w1 fun x10 w2 =>
    upK prog (F4 D8 x10 t40) w2 fun tu w3 =>
    M0 prog (O0 D8 x10 0) fun t41 =>
    Y0 prog (X0 U2 t41) w3 fun t42 =>
    upK prog (Z0 xV #[t42,at2,s3]) w3 fun t45 w4 =>
    M0 prog (O0 D8 x10 0) fun t46 =>
    upK prog (F4 U2 t46 t45) w4 fun tu_1 w5 =>
    M0 prog (X4 d0) fun t48 =>
    M0 prog (O0 F5 t48 0) fun t49 =>
    Y0 prog (X0 u6 t49) (tick w5) fun t50 =>
    Y0 prog (X0 D8 x10) (tick w5) fun t52 =>
    upK prog (tY u6 t50 f1 t52) (tick w5) fun tu_2 w6 =>
    M0 prog (Y3 .quo Q0 (.tmp 53) (.const (.int .i64 64)) at2 (.int .i64 64)) fun t54 =>
    LOOP (X:=Value×Unit) (fun lv7 w7 next7 =>
    Y0 prog (J5 .len #[U2] Q0 #[false] #[s3]) w7 fun t58 =>
    M0 prog (Y3 .add Q0 (.tmp 56) (.tmp 58) at2 t58) fun t59 =>
    M0 prog (Y3 .sub Q0 (.tmp 59) (.const (.int .i64 1)) t59 (.int .i64 1)) fun t60 =>
    M0 prog (Y3 .quo Q0 (.tmp 60) (.const (.int .i64 64)) t60 (.int .i64 64)) fun t61 =>
    M0 prog (Y3 .leq Q0 (.tmp 55) (.tmp 61) lv7.1 t61) fun t62 =>
    ifB t62
    (TE (X:=Unit) (fun jv1 w8 =>
     M0 prog (Y3 .add Q0 (.tmp 63) (.const (.int .i64 1)) lv7.1 (.int .i64 1)) fun t64 =>
     next7 (t64,()) w8)
     (fun J1 =>
     M0 prog (G6 O4 #[(0,f1),(1,lv7.1)]) fun t67 =>
     upK prog (I7 O4) w7 fun p12 w9 =>
     upK prog (F4 O4 p12 t67) w9 fun tu_3 w10 =>
     M0 prog (X4 d0) fun t69 =>
     M0 prog (O0 F5 t69 2) fun t70 =>
     Y0 prog (X0 K7 t70) (tick w10) fun t71 =>
     Y0 prog (X0 O4 p12) (tick w10) fun t72 =>
     Y0 prog (lK K7 t71 t72 false) (tick w10) fun t73 =>
     M0 prog (sUn .not t73) fun t74 =>
     ifB t74
     (M0 prog (X4 d0) fun t77 =>
      M0 prog (O0 F5 t77 2) fun t78 =>
      Y0 prog (X0 K7 t78) (tick (tick w10)) fun t79 =>
      Y0 prog (X0 O4 p12) (tick (tick w10)) fun t80 =>
      M0 prog (X4 d0) fun t82 =>
      M0 prog (O0 F5 t82 1) fun t83 =>
      Y0 prog (X0 N7 t83) (tick (tick w10)) fun t84 =>
      Y0 prog (X0 O4 p12) (tick (tick w10)) fun t85 =>
      upK prog (P6 N7 1 #[(0,t85)]) (tick (tick w10)) fun t86 w11 =>
      Is prog (X0 N7 t83) t84 w11∧Is prog (X0 O4 p12) t80 w11∧Is prog (X0 K7 t78) t79 w11∧upK prog (J5 .append #[N7,N7] N7 #[false,false] #[t84,t86]) w11 fun t87 w12 =>
      Is prog (X0 O4 p12) t80 w12∧Is prog (X0 K7 t78) t79 w12∧M0 prog (X4 d0) fun t88 =>
      M0 prog (O0 F5 t88 1) fun t89 =>
      upK prog (F4 N7 t89 t87) w12 fun tu_4 w13 =>
      Is prog (X0 O4 p12) t80 w13∧upK prog (km0 K7 t79 t80) w13 fun t90 w14 =>
      M0 prog (R5 t90 1) fun t91 =>
      upK prog (Kf0 K7 t79 t91 (.bool true)) w14 fun tu_5 w15 =>
      J1 (()) w15)
     (J1 (()) (tick w10))))
    (K (.int .i64 0) w7))
    (t54,()) w6)))))
theorem MM.up{d0 f1 at2 s3:Value}(h:MM.pt d0 f1 at2 s3 w K):upK prog (Z0 XN #[d0,f1,at2,s3]) w K :=
 upF [8] (.node none .leaf (.node none .leaf (.node none .leaf (.node none .leaf (.node none .leaf (.node none .leaf (.node none (.node none .leaf (.node none (.node none (.node none .leaf (.node (some []) .leaf .leaf)) .leaf) .leaf)) .leaf))))))) [d0,f1,at2,s3] Tryz.func267 h
end
end Go.Proofs.YtngbebnhegcokaaGreatDoor
namespace Go.Proofs.YtngbebnhegcokaaGreatDoor
open Go.Proofs.Tryz (prog)
open Go.RowKit Go.Shelf
set_option maxRecDepth 100000
def Wo0(g:Nat)(cs:List Value):Dat:=⟨fun B=>B.keep g∧∃E fz,B.W.heap[g]? = some (.cells cs.toArray E fz),fun {B B'} hl ⟨h1,E,fz,h2⟩=>by
 obtain⟨h3,h4⟩:=hl g h1 (Array.getElem?_eq_some_iff.1 h2).1
 exact⟨h3,E,fz,h4.trans h2⟩⟩
theorem TH0:prog.globalNamed "internal/strconv.uint64pow10"=some zD:=by kernel_rfl
def kH:Dat:=Wo0 zD (Lib.pow10Tab.map (Value.int .u64))
def lC:Dat:=kH.and ((Dat.ex fun e:TypeId×Value=>Wo0 WL [.iface e.1 e.2]).and (Dat.ex fun e:TypeId×Value=>Wo0 jN [.iface e.1 e.2]))
set_option maxRecDepth 100000 in
theorem MN0{n:Int}(h0 : -9223372036854775808≤n)(h1:n≤9223372036854775807)(w:World)(htab:Lib.TabIs prog w "internal/strconv.uint64pow10" .u64 Lib.pow10Tab) :
  Calls prog XD #[.int .i64 n] w fun e w'=>e = .returned (.string ⟨(Lib.itoa n).toArray⟩)∧∃k os,w'=Go.Sort.grow (w.drewN k) os:=Any.strconv_Itoa Tryz.gE0 n h0 h1 w htab
set_option maxRecDepth 100000 in
theorem mJ0(s:ByteArray)(hmax:s.size≤9223372036854775806)(v:Int)(h:Lib.atoiAll s.data.toList = .ok v)(w:World) :
  Calls prog QC #[.string s] w fun e w'=>e = .returned (.tuple #[.int .i64 v,.nilIface])∧(w'=w∨∃t,w'=Lib.bytesWorld w p_ t):=Any.strconv_Atoi_ok Tryz.Li0 s hmax v h w
set_option maxRecDepth 100000 in
theorem CF0(s:ByteArray)(hlim:s.size≤281474976710656)(h0:∀v,Lib.atoiAll s.data.toList ≠ .ok v)(h1:Lib.atoiAll s.data.toList ≠ .range)(ev:Value)(w:World)(hv:w.cell? ⟨WL,0,none⟩=some ev)(hev:ev = .nilIface∨∃te pe,ev = .iface te pe) :
  Calls prog QC #[.string s] w fun e w'=>∃n t p,e = .returned (.tuple #[.int .i64 n,.iface t p])∧Below w.heap.size w w':=by
 have h:=Any.strconv_Atoi_syntax Tryz.Li0 s hlim (by rcases e:Lib.atoiAll s.data.toList with v | _ | _<;>first | rfl | exact absurd e h1 | exact absurd e (h0 _)) ev w hv hev
 refine Calls.mono (f:=QC) h ?_
 rintro e w' ⟨N,rfl,_,_,hb⟩
 exact⟨_,_,_,rfl,hb⟩
set_option maxRecDepth 100000 in
theorem BF0(s:ByteArray)(hlim:s.size≤281474976710656)(h:Lib.atoiAll s.data.toList = .range)(ev:Value)(w:World)(hv:w.cell? ⟨jN,0,none⟩=some ev)(hev:ev = .nilIface∨∃te pe,ev = .iface te pe) :
  Calls prog QC #[.string s] w fun e w'=>∃n t p,e = .returned (.tuple #[.int .i64 n,.iface t p])∧Below w.heap.size w w':=by
 have h:=Any.strconv_Atoi_range Tryz.Li0 s hlim h ev w hv hev
 refine Calls.mono (f:=QC) h ?_
 rintro e w' ⟨N,rfl,_,_,hb⟩
 exact⟨_,_,_,rfl,hb⟩
set_option maxRecDepth 100000 in
theorem vM0(s:ByteArray)(c:Int)(w:World) :
  Calls prog SE #[.string s,.int .u8 c] w fun e w'=>e = .returned (.int .i64 (Lib.indexByte s.data.toList c.toNat.toUInt8))∧w'=w:=Any.strings_IndexByte Tryz.eA0 s c w
set_option maxRecDepth 100000 in
theorem tO0(s p:ByteArray)(w:World) :
  Calls prog QE #[.string s,.string p] w fun e w'=>e = .returned (.tuple #[.string ⟨(Lib.trimPrefix s.data.toList p.data.toList).toArray⟩,.bool (Lib.hasPrefix s.data.toList p.data.toList)])∧w'=w:=Any.strings_CutPrefix Tryz.mI0 s p w
section
variable {B:Base} {w w':World} {σ:List Dat}
theorem Rel.below(h:Rel B w σ)(hb:Below w.heap.size w w'):Rel B w' σ:=by
 obtain⟨c,h⟩:=h
 refine⟨jG c w.heap.size 0,hb.os.trans h.os,hb.tape.trans h.tape,hb.output.trans h.output,Nat.le_trans h.size hb.size,fun k hk hs=>?_,fun k hk hs=>?_,fun j d hj=>?_⟩
 ·have:=Nat.lt_of_lt_of_le hs h.size
  rw[jG,if_pos this];exact h.keepc k hk hs
 ·have:=Nat.lt_of_lt_of_le hs h.size
  rw[hb.block k this];exact h.same k hk hs
 ·refine d.mono (fun k hk hs=>?_) (h.own j d hj)
  have hk:c k=j+1:=hk
  have hs:k<w.heap.size:=hs
  exact⟨by show jG c w.heap.size 0 k=j+1;rw[jG,if_pos hs];exact hk,hb.block k hs⟩
theorem below_grow(w:World)(k:Nat)(os:Array Obj):Below w.heap.size w (Go.Sort.grow (w.drewN k) os):=by
 refine⟨rfl,rfl,rfl,?_,fun j hj=>?_⟩
 ·rw[Go.Sort.size_grow]
  exact Nat.le_add_right _ _
 ·exact Go.Sort.heap_grow_old _ _ hj
theorem Wo0.cell{g:Nat}{cs:List Value}{v:Value}(h:(Wo0 g cs).here w)(hv:cs[0]? = some v):w.cell? ⟨g,0,none⟩=some v:=by
 obtain⟨_,E,fz,h2⟩:=h
 have h2:w.heap[g]? = some (.cells cs.toArray E fz):=h2
 simp only[World.cell?,h2]
 simpa using hv
theorem kH.pow(h:kH.here w):Lib.TabIs prog w "internal/strconv.uint64pow10" .u64 Lib.pow10Tab:=by
 obtain⟨_,E,fz,h2⟩:=h
 have h2:w.heap[zD]? = some (.cells (Lib.pow10Tab.map (Value.int .u64)).toArray E fz):=h2
 unfold Lib.TabIs World.var?
 rw[TH0]
 simp only[Option.bind_some,h2]
theorem lC.syn(h:lC.here w):∃t p,w.cell? ⟨WL,0,none⟩=some (.iface t p):=by
 obtain⟨_,⟨e,h2⟩,_⟩:=h
 exact⟨e.1,e.2,Wo0.cell h2 rfl⟩
theorem lC.rng(h:lC.here w):∃t p,w.cell? ⟨jN,0,none⟩=some (.iface t p):=by
 obtain⟨_,_,⟨e,h2⟩⟩:=h
 exact⟨e.1,e.2,Wo0.cell h2 rfl⟩
instance lC.coe {B:Base}:Coe (lC B) (kH B):=⟨fun h=>h.1⟩
theorem Nn0(hB:kH B){n:Int}(hn:inI n):Gives prog B (Z0 XD #[.int .i64 n]) (.string (ofL (Lib.itoa n))):=by
 refine Gives.intro fun B' w K base h k=>?_
 have hw:=h.K6 (base hB)
 refine strconv_Itoa.up (Calls.mono (MN0 hn.1 hn.2 w (kH.pow hw)) ?_)
 rintro e w' ⟨rfl,m,os,rfl⟩
 exact k _ _ (h.below (below_grow w m os))
def RM0(s:Bs)(v:Value):Prop:=(∃n,Lib.atoiAll s = .ok n∧v = .tuple #[.int .i64 n,.nilIface])∨((∀n,Lib.atoiAll s ≠ .ok n)∧∃n t p,v = .tuple #[.int .i64 n,.iface t p])
theorem fL0{K:PtK}(hB:lC B)(h:Rel B w σ){s:ByteArray}(hs:s.size≤281474976710656)(k:∀v w',RM0 (bl s) v→Rel B w' σ→K v w'):upK prog (Z0 QC #[.string s]) w K:=by
 have hw:=h.K6 hB
 rcases ha:Lib.atoiAll s.data.toList with n | _ | _
 ·skip
  refine strconv_Atoi.up (Calls.mono (mJ0 s (by omega) n ha w) ?_)
  rintro e w' ⟨rfl,hw'⟩
  refine k _ _ (.inl ⟨n,ha,rfl⟩) ?_
  rcases hw' with rfl | ⟨t,rfl⟩
  ·exact h
  ·exact h.below (Lib.bytesWorld_below _ _ _)
 ·skip
  obtain⟨t,p,hc⟩:=lC.syn hw
  refine strconv_Atoi.up (Calls.mono (CF0 s hs (fun v hv=>by rw[ha] at hv;cases hv) (fun hv=>by rw[ha] at hv;cases hv) _ w hc (.inr ⟨t,p,rfl⟩)) ?_)
  rintro e w' ⟨n,t,p,rfl,hb⟩
  exact k _ _ (.inr ⟨fun n hn=>(by rw[show Lib.atoiAll (bl s)=_ from ha] at hn;cases hn),_,_,_,rfl⟩) (h.below hb)
 ·skip
  obtain⟨t,p,hc⟩:=lC.rng hw
  refine strconv_Atoi.up (Calls.mono (BF0 s hs ha _ w hc (.inr ⟨t,p,rfl⟩)) ?_)
  rintro e w' ⟨n,t,p,rfl,hb⟩
  exact k _ _ (.inr ⟨fun n hn=>(by rw[show Lib.atoiAll (bl s)=_ from ha] at hn;cases hn),_,_,_,rfl⟩) (h.below hb)
theorem fI0(s:ByteArray)(c:Int):Gives prog B (Z0 SE #[.string s,.int .u8 c]) (.int .i64 (Lib.indexByte (bl s) c.toNat.toUInt8)):=by
 refine Gives.intro fun B' w K base h k=>?_
 refine strings_IndexByte.up (Calls.mono (vM0 s c w) ?_)
 rintro e w' ⟨rfl,rfl⟩
 exact k _ _ h
theorem nN0(s p:ByteArray):Gives prog B (Z0 QE #[.string s,.string p]) (.tuple #[.string (ofL (Lib.trimPrefix (bl s) (bl p))),.bool (Lib.hasPrefix (bl s) (bl p))]):=by
 refine Gives.intro fun B' w K base h k=>?_
 refine strings_CutPrefix.up (Calls.mono (tO0 s p w) ?_)
 rintro e w' ⟨rfl,rfl⟩
 exact k _ _ h
theorem index_first{e:UInt8}:∀{a:Bs} (r:Bs),e ∉ a→Lib.indexByte (a++e :: r) e=a.length
 | [],r,_=>by simp [Lib.indexByte]
 | x :: a,r,h=>by
  have hx:¬x=e:=fun hh=>h (by rw[hh];exact List.mem_cons_self)
  have ih:=index_first (a:=a) r fun hh=>h (List.mem_cons_of_mem _ hh)
  rw[List.cons_append,Lib.indexByte,ih]
  simp only[beq_iff_eq,hx,if_false]
  rw[if_neg (by omega),List.length_cons]
  omega
theorem index_none{e:UInt8}:∀{a:Bs},e ∉ a→Lib.indexByte a e = -1
 | [],_=>rfl
 | x :: a,h=>by
  have hx:¬x=e:=fun hh=>h (by rw[hh];exact List.mem_cons_self)
  have ih:=index_none (a:=a) fun hh=>h (List.mem_cons_of_mem _ hh)
  rw[Lib.indexByte,ih]
  simp [hx]
theorem rf0{e:UInt8}:∀{l:Bs},e∈l→∃a r,l=a++e :: r∧e ∉ a
 | x :: l,h=>by
  by_cases hx:x=e
  ·subst hx;exact⟨[],l,rfl,by simp⟩
  ·rcases List.mem_cons.1 h with h | h
   ·exact absurd h.symm hx
   ·obtain⟨a,r,rfl,ha⟩:=rf0 h
    refine⟨x :: a,r,rfl,fun hh=>?_⟩
    rcases List.mem_cons.1 hh with hh | hh
    ·exact hx hh.symm
    ·exact ha hh
theorem Kk0{T u:TypeId}{x:Value}{xo yo:Operand}{Kp:Value→Prop}(hT:prog.underlying T=some (.interface (prog.methodsAt T))):M0 prog (Y3 .neq T xo yo (.iface u x) .nilIface) Kp=Kp (.bool true) :=
 V4 fun w=>ZR rfl (run_neq_held_nil w T u x hT)
theorem Yq0{T:TypeId}{xo:Operand}{v:Value}{Kp:Value→Prop}(hT:prog.underlying T=some (.interface (prog.methodsAt T))):M0 prog (Y3 .neq T xo (.const v) .nilIface .nilIface) Kp=Kp (.bool false) :=
 V4 fun w=>ZR (by unfold eqGuard;cases xo<;>rfl) (run_neq_nil_nil w T hT)
theorem LG0{P:Program}{T:TypeId}{v:Value}(h:(P.info? T).bind (·.zero)=some v)(w:World):(zeroValue T).run P w = .ok v w:=by
 cases hi:P.info? T with
 | none=>rw[hi] at h;cases h
 | some i =>
  rw[hi] at h
  have h:i.zero=some v:=h
  simp [zeroValue,typeInfo,hi,h]
theorem exS:Builder.Extra prog Tryz.xX where
 sizeBuilder:=by kernel_rfl
 liesBuilder:=by kernel_rfl
 t5:=(by kernel_rfl:prog.underlying p_=some (.int .u8))
 a5:=fun w=>Ci0 (by kernel_rfl:scB prog p_=true)
 z5:=fun w=>Rx0 (by kernel_rfl:scB prog p_=true)
 v5:=fun w=>LG0 (by kernel_rfl:(prog.info? p_).bind (·.zero)=some (.int .u8 0)) w
 infoByte:=by kernel_rfl
 cellsByte:=by kernel_rfl
 sizeByte:=by kernel_rfl
 neB5:=by decide
def qP(lo b:Nat)(l:Bs):Dat:=⟨fun B=>B.keep b∧lo≤b∧∃p v,(p = .pointer none∨p = .pointer (some ⟨b,0,none⟩))∧B.W.heap[b]? = some (.cells #[p,v] M5 (0,0)) ∧
  ((v = .slice none 0 0∧l=[])∨∃g cap cur fz,v = .slice (some ⟨g,0,none⟩) l.length cap∧lo≤g∧g≠b∧B.keep g∧B.W.heap[g]? = some (.cells cur p_ fz)∧fz.2≤l.length∧l.length≤cap∧cap≤maxLen∧cur.size=cap∧cur.toList.take l.length=Lib.byteCells l),
 fun {B B'} hl ⟨h1,h2,p,v,h3,h4,h5⟩=>by
  obtain⟨h6,h7⟩:=hl b h1 (Array.getElem?_eq_some_iff.1 h4).1
  refine⟨h6,h2,p,v,h3,h7.trans h4,?_⟩
  rcases h5 with h5 | ⟨g,cap,cur,fz,e1,e2,e3,e4,e5,e6⟩
  ·exact .inl h5
  ·obtain⟨h8,h9⟩:=hl g e4 (Array.getElem?_eq_some_iff.1 e5).1
   exact .inr ⟨g,cap,cur,fz,e1,e2,e3,h8,h9.trans e5,e6⟩⟩
theorem wU(l:Bs):(Lib.byteCells l).length=l.length:=Lib.byteCells_length l
theorem qP.is{lo b:Nat}{l:Bs}(h:(qP lo b l).here w):Lib.IsBuilderF M5 p_ lo b (Lib.byteCells l) w:=by
 obtain⟨_,h2,p,v,h3,h4,h5⟩:=h
 have h4:w.heap[b]? = some (.cells #[p,v] M5 (0,0)):=h4
 have key:Lib.BuilderAtF M5 p_ lo b p (Lib.byteCells l) w:=by
  refine⟨h2,v,h4,⟨by rw[Nat.mul_one],?_⟩,?_⟩
  ·rw[wU]
   rcases h5 with⟨e1,e2⟩ | ⟨g,cap,cur,fz,e1,e2,e3,e4,e5,e6,e7,e8,e9,e10⟩
   ·exact .inl ⟨e1,by rw[e2];rfl⟩
   ·exact .inr ⟨g,cap,cur,fz,e1,e2,e5,by rw[Nat.mul_one];exact e6,e7,e8,by rw[Nat.mul_one];exact e9,by rw[Nat.mul_one];exact e10⟩
  ·rcases h5 with⟨e1,e2⟩ | ⟨g,cap,cur,fz,e1,e2,e3,e4,e5,e6,e7,e8,e9,e10⟩
   ·rw[e1];simp [Value.ownBlock]
   ·rw[e1];simp [Value.ownBlock,e3]
 rcases h3 with rfl | rfl
 ·exact .inl key
 ·exact .inr key
theorem qP.of{lo b:Nat}{l:Bs}(h:Lib.IsBuilderF M5 p_ lo b (Lib.byteCells l) w)(hs:lo≤w.heap.size):(qP lo b l) ⟨w,fun k=>(if k<lo then 0 else 1)=1⟩:=by
 have key:∀p,(p = .pointer none∨p = .pointer (some ⟨b,0,none⟩))→Lib.BuilderAtF M5 p_ lo b p (Lib.byteCells l) w→(qP lo b l) ⟨w,fun k=>(if k<lo then 0 else 1)=1⟩:=by
  rintro p hp ⟨h1,v,h2,⟨_,h3⟩,h4⟩
  have kp:∀g,lo≤g→(if g<lo then(0:Nat) else 1)=1:=fun g hg=>if_neg (by omega)
  refine⟨kp b h1,h1,p,v,hp,h2,?_⟩
  rw[wU] at h3
  rcases h3 with⟨e1,e2⟩ | ⟨g,cap,cur,fz,e1,e2,e3,e4,e5,e6,e7,e8⟩
  ·exact .inl ⟨e1,List.eq_nil_of_length_eq_zero e2⟩
  ·refine .inr ⟨g,cap,cur,fz,e1,e2,fun hh=>h4 ?_,kp g e2,e3,by omega,e5,e6,by omega,by rw[Nat.mul_one] at e8;exact e8⟩
   rw[e1,hh];rfl
 rcases h with h | h
 ·exact key _ (.inl rfl) h
 ·exact key _ (.inr rfl) h
theorem Rel.iw0{lo b:Nat}{l l':Bs}(h:Rel B w [qP lo b l])(hlo:B.W.heap.size≤lo)(hs:lo≤w.heap.size)(hb:Below lo w w')(hn:Lib.IsBuilderF M5 p_ lo b (Lib.byteCells l') w'):Rel B w' [qP lo b l']:=by
 obtain⟨c,h⟩:=h
 refine⟨fun k=>if k<lo then 0 else 1,hb.os.trans h.os,hb.tape.trans h.tape,hb.output.trans h.output,Nat.le_trans h.size hb.size,fun k hk hs=>if_pos (by omega),fun k hk hs=>?_,fun j d hj=>?_⟩
 ·rw[hb.block k (by omega)];exact h.same k hk hs
 ·cases j with
  | zero =>
   cases hj
   exact qP.of hn (Nat.le_trans hs hb.size)
  | succ j=>simp at hj
theorem Cy0(s:ByteArray):Lib.strCells s=Lib.byteCells (bl s):=rfl
theorem Rel.kK0{lo b:Nat}{l:Bs}(h:Rel B w [qP lo b l]):lo≤w.heap.size:=by
 obtain⟨_,h2,p,v,_,h4,_⟩:=h.here (i:=0) rfl
 have h4:w.heap[b]? = some (.cells #[p,v] M5 (0,0)):=h4
 have:=(Array.getElem?_eq_some_iff.1 h4).1
 omega
theorem zU{T:TypeId}{xo yo:Operand}{Kp:Value→Prop}(hT:prog.underlying T=some (.pointer (prog.pointee T))):M0 prog (Y3 .eql T xo yo (.pointer none) (.pointer none)) Kp=Kp (.bool true) :=
 V4 fun w=>ZR rfl (run_eql_pointer_nil w T none hT)
theorem br0{v:Value}{K:PtK}(h:K v w):upK prog (Z0 bI #[v]) w K:=by
 refine JC (v:=v) (w':=w) ?_ h
 show (callFunc bI #[v]).run prog w=_
 rw[run_callFunc_extern (fn:=GU) (by kernel_rfl) (by kernel_rfl) (by kernel_rfl) (by kernel_rfl) (e:=Extern.AbiNoEscape.same) (by kernel_rfl)]
 rfl
theorem gn0:∃j,prog.info? M5=some j∧j.size=2:=by
 have:(prog.info? M5).map (·.size)=some 2:=by kernel_rfl
 obtain⟨j,h1,h2⟩:=Option.map_eq_some_iff.1 this
 exact⟨j,h1,h2⟩
theorem iL0{lo b:Nat}{bs:List Value}{K:PtK}(h:Lib.IsBuilderF M5 p_ lo b bs w)(k:∀w1,Lib.BuilderAtF M5 p_ lo b (.pointer (some ⟨b,0,none⟩)) bs w1→Below lo w w1→K (.tuple #[]) w1) :
  upK prog (Z0 bF #[.pointer (some ⟨b,0,none⟩)]) w K:=by
 obtain⟨j,hj,hjs⟩:=gn0
 have hpt:prog.underlying D9=some (.pointer M5):=by kernel_rfl
 have hup:prog.underlying nP=some .unsafePointer:=by kernel_rfl
 refine jD.up ?_
 unfold jD.pt
 rcases h with h | h
 ·simp -zeta only[y5,U0 rR,Nat.add_zero,Mi0 VK h.cell0,zU mR,VC]
  refine JC (V9 (Lib.run_to_unsafe (w:=w) ⟨b,0,none⟩ hpt hup hj (by rw[hjs];decide) h.shape (Nat.zero_lt_succ 1))) ?_
  refine br0 ?_
  refine JC (V9 (Lib.run_from_unsafe (w:=w) ⟨b,0,none⟩ hup hpt hj h.shape (by kernel_rfl))) ?_
  obtain⟨h1,v,h2,h3,h4⟩:=h
  refine Ux0 (c:=fun _=>0) (t:=0) VK (cs:=#[.pointer none,v]) ⟨rfl,h2⟩ (by show 0<2;omega) rfl fun _ _=>?_
  exact k _ (Lib.BuilderAtF.used ⟨h1,v,h2,h3,h4⟩ _) ((Below.refl lo w).setCell (p:=⟨b,0,none⟩) h1 _)
 ·have hne:∀{Kp:Value→Prop} {xo yo:Operand},M0 prog (Y3 .neq D9 xo yo (.pointer (some ⟨b,0,none⟩)) (.pointer (some ⟨b,0,none⟩))) Kp=Kp (.bool false):=fun {Kp xo yo}=>V4 fun w=>ZR rfl (Lib.run_neq_ptr_same w ⟨b,0,none⟩ hpt hj)
  simp -zeta only[y5,U0 rR,Nat.add_zero,Mi0 VK h.cell0,uB mR,t_,hne]
  exact k _ h (Below.refl lo w)
theorem jL0{lo b:Nat}{bs:List Value}{s:ByteArray}{K:PtK}(h:Lib.IsBuilderF M5 p_ lo b bs w)(hlen:bs.length+s.size≤140737488355328)(hlo:lo≤w.heap.size)
  (k:∀v w',Lib.BuilderAtF M5 p_ lo b (.pointer (some ⟨b,0,none⟩)) (bs++Lib.strCells s) w'→Below lo w w'→K v w'):upK prog (Z0 u7 #[.pointer (some ⟨b,0,none⟩),.string s]) w K:=by
 obtain⟨i0,hi,hz0,hz1,hz2⟩:=info_parts (show (prog.info? p_).map (fun i=>(i.zero,i.size,i.bytes))=some (some (.int .u8 0),1,1) by kernel_rfl)
 refine BC.up ?_
 unfold BC.pt
 refine iL0 h fun w1 h1 hb1=>?_
 obtain⟨hB,v,hbk,hown,hne⟩:=h1
 have c1:w1.cell? ⟨b,1,none⟩=some v:=by rw[Lib.cell_of_heap hbk];rfl
 simp -zeta only[y5,U0 KY,Nat.zero_add,Mi0 Bj0 c1]
 have hlt:b<w1.heap.size:=(Array.getElem?_eq_some_iff.1 hbk).1
 obtain⟨v',w2,hr,hown',hgrow,_⟩:=Lib.run_append_own_stringF (P:=prog) w1 lo OA U2 OA p_ i0 Zc0 C8 hi hz0 hz1 hz2 v bs.length bs hown s (by unfold maxLen;omega) (by omega) (by have:=hb1.size;omega)
 refine JC (V9 hr) ?_
 have hb2:w2.heap[b]? = some (.cells #[.pointer (some ⟨b,0,none⟩),v] M5 (0,0)):=by
  rw[hgrow.block b hlt (fun e=>hne e.symm)]
  exact hbk
 have h1c:v'.oneCell'=true:=by
  rcases hown'.2 with⟨hv,_⟩ | ⟨g,cap,cur,fz,hv,_⟩<;>rw[hv]<;>rfl
 refine Ux0 (c:=fun _=>0) (t:=0) Bj0 (cs:=#[.pointer (some ⟨b,0,none⟩),v]) ⟨rfl,hb2⟩ (by show 1<2;omega) h1c fun _ _=>?_
 simp -zeta only[WC C8]
 refine k _ _ (Lib.BuilderAtF.put (T:=M5) (e:=p_) hB hb2 (bs':=bs++Lib.strCells s) (by simpa [Lib.strCells_length] using hown') (by decide)) ?_
 exact(hb1.grown hgrow (by have:=hb1.size;omega) (fun k hk=>(hown.lt k hk).1)).setCell (p:=⟨b,1,none⟩) hB _
theorem Rel.mO{lo b:Nat}{l:Bs}{s:ByteArray}{K:PtK}(h:Rel B w [qP lo b l])(hlo:B.W.heap.size≤lo)(hlen:l.length+s.size≤140737488355328)
  (k:∀v w',Rel B w' [qP lo b (l++bl s)]→K v w'):upK prog (Z0 u7 #[.pointer (some ⟨b,0,none⟩),.string s]) w K:=by
 have hs:=h.kK0
 refine jL0 (qP.is (h.here (i:=0) rfl)) (by rw[wU];exact hlen) hs fun v w' h1 h2=>?_
 refine k _ _ (h.iw0 hlo hs h2 (.inr ?_))
 rw[Cy0] at h1
 have:Lib.byteCells (l++bl s)=Lib.byteCells l++Lib.byteCells (bl s):=by simp [Lib.byteCells]
 rw[this]
 exact h1
set_option maxRecDepth 100000 in
theorem nJ0{lo b:Nat}{l:Bs}{w:World}(h:Lib.IsBuilderF M5 p_ lo b (Lib.byteCells l) w)(hs:lo≤w.heap.size) :
  Calls prog H9 #[.pointer (some ⟨b,0,none⟩)] w fun e w'=>e = .returned (.string ⟨l.toArray⟩)∧(Lib.IsBuilderF M5 p_ lo b (Lib.byteCells l) w'∧Below lo w w'∧Lib.OthersKept p_ (some b) w w'):=Any.Builder_String_any_k Tryz.Bu0 exS lo b l w h hs
theorem Rel.WU{lo b:Nat}{l:Bs}{K:PtK}(h:Rel B w [qP lo b l])(hlo:B.W.heap.size≤lo)
  (k:∀w',Rel B w' [qP lo b l]→K (.string (ofL l)) w'):upK prog (Z0 H9 #[.pointer (some ⟨b,0,none⟩)]) w K:=by
 have hs:=h.kK0
 refine uW.up (Calls.mono (nJ0 (qP.is (h.here (i:=0) rfl)) hs) ?_)
 rintro e w' ⟨rfl,h1,h2,_⟩
 exact k _ (h.iw0 hlo hs h2 h1)
theorem Gives.zi0{s:Sem Next}{v:Value}(h:∀(B':Base) (w:World) (K:PtK),(∀{d:Dat},d B→d B')→Rel B' w []→(∀(w1:World) (b:Nat),Rel B' w1 [O1 b M5 #[.pointer none,.slice none 0 0]]→Rel B' w1 [qP B'.W.heap.size b []])→(∀w' τ,Rel B' w' τ→K v w')→upK prog s w K):Gives prog B s v:=by
 intro w σ K hr k
 obtain⟨B',h',back,_,base⟩:=hr.frz
 refine h ⟨w,fun _=>True⟩ w K (fun {d} hd=>by
  obtain⟨c,hc⟩:=hr
  exact d.mono (fun k hk hs=>⟨trivial,hc.same k hk hs⟩) hd) ⟨fun _=>0,rfl,rfl,rfl,Nat.le_refl _,fun _ _ _=>rfl,fun _ _ _=>rfl,fun i d hd=>by simp at hd⟩ (fun w1 b h1=>?_) fun w' τ h2=>?_
 ·obtain⟨c,h1⟩:=h1
  have hc:c b=1:=(h1.own 0 _ rfl).1
  have hb:w1.heap[b]? = some (.cells #[.pointer none,.slice none 0 0] M5 (0,0)):=(h1.own 0 _ rfl).2
  have hlo:w.heap.size≤b:=Nat.le_of_not_lt fun hlt=>by
   have:=h1.keepc b trivial hlt
   omega
  refine⟨c,h1.os,h1.tape,h1.output,h1.size,h1.keepc,h1.same,fun j d hj=>?_⟩
  cases j with
  | zero =>
   cases hj
   exact⟨hc,hlo,_,_,.inl rfl,hb,.inl ⟨rfl,rfl⟩⟩
  | succ j=>simp at hj
 ·have h2:Rel ⟨w,fun _=>True⟩ w' []:=h2.nil
  refine k w' ?_
  obtain⟨c,hr⟩:=hr
  obtain⟨c2,h2⟩:=h2
  refine⟨fun k=>if k<w.heap.size then c k else 0,h2.os.trans hr.os,h2.tape.trans hr.tape,h2.output.trans hr.output,Nat.le_trans hr.size h2.size,fun k hk hs=>?_,fun k hk hs=>?_,fun j d hj=>?_⟩
  ·rw[if_pos (Nat.lt_of_lt_of_le hs hr.size)];exact hr.keepc k hk hs
  ·exact(h2.same k trivial (Nat.lt_of_lt_of_le hs hr.size)).trans (hr.same k hk hs)
  ·refine d.mono (fun k hk hs=>?_) (hr.own j d hj)
   have hk:c k=j+1:=hk
   have hs:k<w.heap.size:=hs
   exact⟨by show (if k<w.heap.size then c k else 0)=j+1;rw[if_pos hs];exact hk,h2.same k trivial hs⟩
end
end Go.Proofs.YtngbebnhegcokaaGreatDoor
namespace Go.Proofs.YtngbebnhegcokaaGreatDoor
open Go.Proofs.Tryz (prog)
open Go.RowKit
abbrev Ent(κ ν:Type):=κ×ν×Nat
section
variable {κ ν:Type} [Enc κ] [Enc ν] [DecidableEq κ]
def TC(e:Ent κ ν):MapEntry:={ key:=Enc.val e.1,val:=Enc.val e.2.1,born:=e.2.2 }
def bE(x:κ):List (Ent κ ν)→Nat→Option (Nat×ν)
 | [],_=>none
 | e :: l,i=>if x=e.1 then some (i,e.2.1) else bE x l (i+1)
def jH(x:κ)(l:List (Ent κ ν)):Option ν:=(bE x l 0).map (·.2)
end
structure KeyTy (P:Program) (k:TypeId) (κ:Type) [Enc κ] [DecidableEq κ]:Prop where
 chk:∀(e:Bool) (x:κ) (w:World),(Instr.checkKey e 10000 k (Enc.val x)).run P w = .ok () w
 find:∀{ν:Type} [Enc ν] (x:κ) (l:List (Ent κ ν)) (w:World),(Instr.findKey k (Enc.val x) (l.map TC)).run P w = .ok ((bE x l 0).map fun p=>(p.1,Enc.val p.2)) w
 bits:∀x:κ,Instr.sameBits 10000 (Enc.val x) (Enc.val x)=true
theorem KeyTy.int{P:Program}{k:TypeId}(hk:P.underlying k=some (.int .i64)):KeyTy P k Int where
 chk e x w:=by
  show (Instr.checkKey e (9999+1) k (.int .i64 x)).run P w=_
  unfold Instr.checkKey
  rw[Sem.run_bind,run_underlying hk]
  rfl
 find {ν} _ x l w:=by
  have key:∀(l:List (Ent Int ν)) (i:Nat),Instr.findNow (.int .i64) (.int .i64 x) (l.map TC) i=some ((bE x l i).map fun p=>(p.1,Enc.val p.2)):=by
   intro l
   induction l with
   | nil=>intro i;rfl
   | cons e l ih =>
    intro i
    simp only[List.map_cons,Instr.findNow,bE]
    have:Instr.sameNow (.int .i64) (.int .i64 x) (TC e).key=some (x == e.1):=by simp [Instr.sameNow,TC,Enc.val]
    rw[this]
    by_cases h:x=e.1
    ·rw[if_pos h,beq_iff_eq.2 h];rfl
    ·rw[if_neg h,beq_eq_false_iff_ne.2 h];exact ih (i+1)
  unfold Instr.findKey
  rw[Sem.run_bind,run_underlying hk]
  simp only[Result.andThen_ok]
  rw[show (Enc.val x:Value) = .int .i64 x from rfl,key l 0]
  rfl
 bits x:=by
  show Instr.sameBits (9999+1) (.int .i64 x) (.int .i64 x)=true
  simp [Instr.sameBits]
def ckB(P:Program)(t:TypeId):Bool :=
 match P.underlying t with
 | some (.int _)=>true
 | some .bool=>true
 | some .string=>true
 | _=>false
theorem BC0{P:Program}{e:Bool}{n:Nat}{t:TypeId}{v:Value}{w:World}(h:ckB P t=true):(Instr.checkKey e (n+1) t v).run P w = .ok () w:=by
 unfold ckB at h
 unfold Instr.checkKey
 split at h
 ·rename_i hu;rw[Sem.run_bind,run_underlying hu];rfl
 ·rename_i hu;rw[Sem.run_bind,run_underlying hu];rfl
 ·rename_i hu;rw[Sem.run_bind,run_underlying hu];rfl
 ·cases h
theorem KeyTy.agg{P:Program}{k:TypeId}{κ:Type}[Enc κ][DecidableEq κ]{fs:Array Field}(hk:P.underlying k=some (.struct fs))(hv:∀x:κ,Enc.val x = .agg (Enc.cells x).toArray)
  (hf:(fs.toList.all fun f=>ckB P f.type&&scB P f.type&&Nat.blt f.offset (Enc.sz κ))=true)
  (heq:∀(x y:κ) (w:World),(Op.equal k (Enc.val x) (Enc.val y)).run P w = .ok (decide (x=y)) w) (hb:∀x:κ,Instr.sameBits 10000 (Enc.val x) (Enc.val x)=true):KeyTy P k κ where
 chk e x w:=by
  rw[hv x]
  show (Instr.checkKey e (9999+1) k (.agg _)).run P w=_
  unfold Instr.checkKey
  rw[Sem.run_bind,run_underlying hk]
  simp only[Result.andThen_ok]
  rw[←Array.forIn_toList]
  have hf:=List.all_eq_true.1 hf
  generalize fs.toList=L at hf ⊢
  induction L with
  | nil=>rfl
  | cons f L ih =>
   have h1:=hf f List.mem_cons_self
   simp only[Bool.and_eq_true] at h1
   have hlt:f.offset<Enc.sz κ:=by simpa using h1.2
   have hp:(part f.type (Enc.cells x).toArray f.offset).run P w = .ok ((Enc.cells x)[f.offset]'(by rw[Enc.len];exact hlt)) w:=RH h1.1.2 (by simp [Enc.len,hlt])
   have ih:=ih fun g hg=>hf g (List.mem_cons_of_mem _ hg)
   rw[List.forIn_cons]
   by_cases hn:f.name= "_"
   ·simp only[hn,ne_eq,not_true_eq_false,if_false,pure_bind]
    exact ih
   ·simp only[hn,ne_eq,not_false_eq_true,if_true,bind_assoc,pure_bind]
    rw[Sem.run_bind,hp]
    simp only[Result.andThen_ok]
    rw[Sem.run_bind,BC0 h1.1.1]
    simp only[Result.andThen_ok]
    exact ih
 find {ν} _ x l w:=by
  have ask:∀(l:List (Ent κ ν)) (i:Nat),(Instr.findAsking k (Enc.val x) (l.map TC) i).run P w = .ok ((bE x l i).map fun p=>(p.1,Enc.val p.2)) w:=by
   intro l
   induction l with
   | nil=>intro i;rfl
   | cons e l ih =>
    intro i
    simp only[List.map_cons,Instr.findAsking,bE]
    rw[Sem.run_bind,show (TC e).key=Enc.val e.1 from rfl,heq]
    simp only[Result.andThen_ok]
    by_cases h:x=e.1
    ·rw[if_pos h,decide_eq_true h];rfl
    ·rw[if_neg h,decide_eq_false h];exact ih (i+1)
  unfold Instr.findKey
  rw[Sem.run_bind,run_underlying hk]
  simp only[Result.andThen_ok]
  cases l with
  | nil=>rfl
  | cons e l =>
   have:Instr.findNow (.struct fs) (Enc.val x) ((e :: l).map TC) 0=none:=by
    simp only[List.map_cons,Instr.findNow]
    have:Instr.sameNow (.struct fs) (Enc.val x) (TC e).key=none:=by rw[hv x];rfl
    rw[this]
   rw[this]
   exact ask (e :: l) 0
 bits:=hb
section
variable {κ ν:Type} [DecidableEq κ]
def vO(x:κ)(z:ν)(l:List (Ent κ ν))(c:Nat):List (Ent κ ν)×Nat×Nat×ν :=
 match bE x l 0 with
 | some (i,v)=>(l,c,((l[i]?).map (·.2.2)).getD 0,v)
 | none=>(l++[(x,z,c)],c+1,c,z)
def VN(x:κ)(y:ν)(l:List (Ent κ ν))(c:Nat):List (Ent κ ν)×Nat :=
 match bE x l 0 with
 | some (i,_)=>(l.modify i fun e=>(e.1,y,e.2.2),c)
 | none=>(l++[(x,y,c)],c+1)
def KX(b:Nat)(y:ν)(l:List (Ent κ ν)):List (Ent κ ν) :=
 match l.findIdx? fun e=>e.2.2 == b with
 | some i=>l.modify i fun e=>(e.1,y,e.2.2)
 | none=>l
def Jt0(x:κ)(l:List (Ent κ ν)):List (Ent κ ν) :=
 match bE x l 0 with
 | some (i,_)=>l.eraseIdx i
 | none=>l
structure WfE (l:List (Ent κ ν)) (c:Nat):Prop where
 keys:(l.map (·.1)).Nodup
 stamps:(l.map (·.2.2)).Nodup
 below:∀e∈l,e.2.2<c
theorem zN(x:κ)(l:List (Ent κ ν)):∀i,bE x l i=(bE x l 0).map fun p=>(p.1+i,p.2):=by
 induction l with
 | nil=>intro i;rfl
 | cons e l ih =>
  intro i
  simp only[bE]
  by_cases h:x=e.1
  ·simp [h]
  ·rw[if_neg h,if_neg h,ih (i+1),ih (0+1),Option.map_map]
   congr 1
   funext p
   simp only[Function.comp_apply]
   congr 1
   omega
theorem ME{x:κ}{l:List (Ent κ ν)}{i:Nat}{v:ν}(h:bE x l 0=some (i,v)):∃hi:i<l.length,l[i].1=x∧l[i].2.1=v:=by
 induction l generalizing i with
 | nil=>cases h
 | cons e l ih =>
  simp only[bE] at h
  by_cases hx:x=e.1
  ·rw[if_pos hx] at h
   cases h
   exact⟨by simp,hx.symm,rfl⟩
  ·rw[if_neg hx,zN] at h
   rw[Option.map_eq_some_iff] at h
   obtain⟨⟨j,u⟩,h1,h2⟩:=h
   simp only[Prod.mk.injEq] at h2
   obtain⟨rfl,rfl⟩:=h2
   obtain⟨h3,h4⟩:=ih h1
   exact⟨by simp;omega,h4⟩
theorem nN{x:κ}{l:List (Ent κ ν)}(h:bE x l 0=none):∀e∈l,e.1≠x:=by
 induction l with
 | nil=>intro e he;cases he
 | cons e l ih =>
  simp only[bE] at h
  by_cases hx:x=e.1
  ·rw[if_pos hx] at h;cases h
  ·rw[if_neg hx,zN,Option.map_eq_none_iff] at h
   intro e' he
   rcases List.mem_cons.1 he with rfl | he
   ·exact fun e=>hx e.symm
   ·exact ih h e' he
theorem iV{x:κ}{l:List (Ent κ ν)}:jH x l=none↔∀e∈l,e.1≠x:=by
 unfold jH
 rw[Option.map_eq_none_iff]
 refine⟨nN,fun h=>?_⟩
 cases hf:bE x l 0 with
 | none=>rfl
 | some p =>
  obtain⟨h1,h2,_⟩:=ME (i:=p.1) (v:=p.2) hf
  exact absurd h2 (h _ (List.getElem_mem h1))
theorem Za0{l:List (Ent κ ν)}(hn:(l.map (·.1)).Nodup){e:Ent κ ν}(he:e∈l):jH e.1 l=some e.2.1:=by
 unfold jH
 cases hf:bE e.1 l 0 with
 | none=>exact absurd rfl (nN hf e he)
 | some p =>
  obtain⟨h1,h2,h3⟩:=ME (i:=p.1) (v:=p.2) hf
  obtain⟨j,hj,rfl⟩:=List.getElem_of_mem he
  have hij:p.1=j:=by
   have:=(List.nodup_iff_pairwise_ne.1 hn)
   rw[List.pairwise_iff_getElem] at this
   rcases Nat.lt_trichotomy p.1 j with h | h | h
   ·exact absurd (by rw[List.getElem_map,List.getElem_map];exact h2) (this p.1 j (by simpa using h1) (by simpa using hj) h)
   ·exact h
   ·exact absurd (by rw[List.getElem_map,List.getElem_map];exact h2.symm) (this j p.1 (by simpa using hj) (by simpa using h1) h)
  simp only[Option.map_some,Option.some.injEq]
  rw[←h3]
  congr 3
theorem wq0{x:κ}{l:List (Ent κ ν)}{k:κ}{v:ν}{b:Nat}:jH x (l++[(k,v,b)])=(jH x l).or (if x=k then some v else none):=by
 induction l with
 | nil =>
  simp only[jH,List.nil_append,bE]
  by_cases h:x=k<;>simp [h]
 | cons e l ih =>
  unfold jH at ih ⊢
  simp only[List.cons_append,bE]
  by_cases h:x=e.1
  ·simp [h]
  ·rw[if_neg h,if_neg h,zN x (l++_),zN x l,Option.map_map,Option.map_map]
   exact ih
theorem yq0{x k:κ}{l:List (Ent κ ν)}{i:Nat}{y:ν}(hn:(l.map (·.1)).Nodup)(hi:i<l.length)(hk:l[i].1=k):jH x (l.modify i fun e=>(e.1,y,e.2.2))=if x=k then some y else jH x l:=by
 have hn':((l.modify i fun e=>(e.1,y,e.2.2)).map (·.1)).Nodup:=by
  have:(l.modify i fun e=>(e.1,y,e.2.2)).map (·.1)=l.map (·.1):=by
   apply List.ext_getElem (by simp)
   intro j h1 h2
   simp only[List.getElem_map,List.getElem_modify]
   split<;>rfl
  rw[this];exact hn
 by_cases h:x=k
 ·rw[if_pos h]
  have hm:((l[i].1,y,l[i].2.2):Ent κ ν)∈l.modify i fun e=>(e.1,y,e.2.2):=by
   rw[List.mem_iff_getElem]
   exact⟨i,by simpa using hi,by simp⟩
  have:=Za0 hn' hm
  rw[h,←hk]
  exact this
 ·rw[if_neg h]
  cases hg:jH x l with
  | none =>
   rw[iV] at hg ⊢
   intro e he
   obtain⟨j,hj,rfl⟩:=List.getElem_of_mem he
   rw[List.getElem_modify]
   have hj':j<l.length:=by simpa using hj
   have:=hg l[j] (List.getElem_mem hj')
   split<;>exact this
  | some v =>
   have hx:∃e∈l,e.1=x∧e.2.1=v:=by
    unfold jH at hg
    rw[Option.map_eq_some_iff] at hg
    obtain⟨⟨j,u⟩,h1,h2⟩:=hg
    obtain⟨h3,h4,h5⟩:=ME h1
    exact⟨_,List.getElem_mem h3,h4,h5.trans h2⟩
   obtain⟨e,he,rfl,rfl⟩:=hx
   obtain⟨j,hj,rfl⟩:=List.getElem_of_mem he
   have hij:i≠j:=by
    rintro rfl
    exact h hk
   have hm:l[j]∈l.modify i fun e=>(e.1,y,e.2.2):=by
    rw[List.mem_iff_getElem]
    exact⟨j,by simpa using hj,by rw[List.getElem_modify,if_neg hij]⟩
   exact Za0 hn' hm
theorem tV{x k:κ}{y:ν}{l:List (Ent κ ν)}{c:Nat}(hn:(l.map (·.1)).Nodup):jH x (VN k y l c).1=if x=k then some y else jH x l:=by
 unfold VN
 cases hf:bE k l 0 with
 | none =>
  show jH x (l++[(k,y,c)])=_
  rw[wq0]
  have:=nN hf
  by_cases h:x=k
  ·subst h
   rw[if_pos rfl,if_pos rfl,iV.2 this];rfl
  ·rw[if_neg h,if_neg h];simp
 | some p =>
  obtain⟨h1,h2,_⟩:=ME (i:=p.1) (v:=p.2) hf
  exact yq0 hn h1 h2
omit [DecidableEq κ] in
theorem modify_keys{l:List (Ent κ ν)}{i:Nat}{y:ν}:(l.modify i fun e=>(e.1,y,e.2.2)).map (·.1)=l.map (·.1):=by
 apply List.ext_getElem (by simp)
 intro j h1 h2
 simp only[List.getElem_map,List.getElem_modify]
 split<;>rfl
omit [DecidableEq κ] in
theorem IU{l:List (Ent κ ν)}{i:Nat}{y:ν}:(l.modify i fun e=>(e.1,y,e.2.2)).map (·.2.2)=l.map (·.2.2):=by
 apply List.ext_getElem (by simp)
 intro j h1 h2
 simp only[List.getElem_map,List.getElem_modify]
 split<;>rfl
omit [DecidableEq κ] in
theorem WfE.nil:WfE ([]:List (Ent κ ν)) 0:=⟨List.nodup_nil,List.nodup_nil,fun e he=>by cases he⟩
omit [DecidableEq κ] in
theorem WfE.modify{l:List (Ent κ ν)}{c:Nat}(h:WfE l c){i:Nat}{y:ν}:WfE (l.modify i fun e=>(e.1,y,e.2.2)) c:=by
 refine⟨by rw[modify_keys];exact h.keys,by rw[IU];exact h.stamps,fun e he=>?_⟩
 have hm:e.2.2∈(l.modify i fun e=>(e.1,y,e.2.2)).map (·.2.2):=List.mem_map_of_mem he
 rw[IU] at hm
 obtain⟨e',he',h1⟩:=List.mem_map.1 hm
 rw[←h1]
 exact h.below e' he'
omit [DecidableEq κ] in
theorem WfE.push{l:List (Ent κ ν)}{c:Nat}(h:WfE l c){x:κ}{y:ν}(hx:∀e∈l,e.1≠x):WfE (l++[(x,y,c)]) (c+1):=by
 refine⟨?_,?_,fun e he=>?_⟩
 ·rw[List.map_append,List.nodup_append]
  refine⟨h.keys,by simp,fun a ha b hb=>?_⟩
  obtain⟨e,he,rfl⟩:=List.mem_map.1 ha
  simp at hb
  subst hb
  exact hx e he
 ·rw[List.map_append,List.nodup_append]
  refine⟨h.stamps,by simp,fun a ha b hb=>?_⟩
  obtain⟨e,he,rfl⟩:=List.mem_map.1 ha
  simp at hb
  subst hb
  exact Nat.ne_of_lt (h.below e he)
 ·rcases List.mem_append.1 he with he | he
  ·exact Nat.lt_succ_of_lt (h.below e he)
  ·simp at he
   subst he
   exact Nat.lt_succ_self c
theorem WfE.set{l:List (Ent κ ν)}{c:Nat}(h:WfE l c)(x:κ)(y:ν):WfE (VN x y l c).1 (VN x y l c).2:=by
 unfold VN
 cases hf:bE x l 0 with
 | none=>exact h.push (nN hf)
 | some p=>exact h.modify
theorem mv0{x:κ}{y:ν}{l:List (Ent κ ν)}{c:Nat}(h:∃e∈l,e.1=x):(VN x y l c).2=c∧(VN x y l c).1.map (·.1)=l.map (·.1)∧(VN x y l c).1.map (·.2.2)=l.map (·.2.2):=by
 unfold VN
 cases hf:bE x l 0 with
 | none =>
  obtain⟨e,he,h1⟩:=h
  exact absurd h1 (nN hf e he)
 | some p=>exact⟨rfl,modify_keys,IU⟩
theorem zw0{x:κ}{l:List (Ent κ ν)}(hn:(l.map (·.1)).Nodup):Jt0 x l=l.filter fun e=>decide (e.1≠x):=by
 unfold Jt0
 cases hf:bE x l 0 with
 | none =>
  refine(List.filter_eq_self.2 fun e he=>?_).symm
  exact decide_eq_true (p:=e.1≠x) (nN hf e he)
 | some p =>
  obtain⟨h1,h2,h3⟩:=ME (i:=p.1) (v:=p.2) hf
  clear h3
  show l.eraseIdx p.1=_
  generalize p.1=i at h1 h2
  clear hf
  induction l generalizing i with
  | nil=>simp at h1
  | cons e l ih =>
   rw[List.map_cons,List.nodup_cons] at hn
   cases i with
   | zero =>
    have h2:e.1=x:=h2
    rw[List.eraseIdx_cons_zero,List.filter_cons,if_neg (by simp [h2])]
    refine(List.filter_eq_self.2 fun e' he'=>decide_eq_true (p:=e'.1≠x) fun h3=>?_).symm
    exact hn.1 (h2 ▸ h3 ▸ List.mem_map_of_mem he')
   | succ i =>
    have h1':i<l.length:=by simpa using h1
    have h2:l[i].1=x:=by simpa using h2
    rw[List.eraseIdx_cons_succ,List.filter_cons,if_pos (decide_eq_true (p:=e.1≠x) fun h3=>hn.1 (by rw[h3,←h2];exact List.mem_map_of_mem (List.getElem_mem h1'))),ih hn.2 i h1' h2]
omit [DecidableEq κ] in
theorem WfE.filter{l:List (Ent κ ν)}{c:Nat}(h:WfE l c)(p:Ent κ ν→Bool):WfE (l.filter p) c :=
 ⟨h.keys.sublist (List.filter_sublist.map _),h.stamps.sublist (List.filter_sublist.map _),fun e he=>h.below e (List.mem_filter.1 he).1⟩
theorem WfE.ui0{l:List (Ent κ ν)}{c:Nat}(h:WfE l c){x:κ}{v:ν}:jH x l=some v↔∃b,(x,v,b)∈l:=by
 constructor
 ·intro hg
  unfold jH at hg
  rw[Option.map_eq_some_iff] at hg
  obtain⟨⟨j,u⟩,h1,h2⟩:=hg
  obtain⟨h3,h4,h5⟩:=ME h1
  have h2:u=v:=h2
  subst h2
  subst h4
  subst h5
  exact⟨_,List.getElem_mem h3⟩
 ·rintro⟨b,hb⟩
  exact Za0 h.keys hb
theorem li0{l:List (Ent κ ν)}{c:Nat}(h:WfE l c)(p:κ→Bool)(x:κ):jH x (l.filter fun e=>p e.1)=if p x=true then jH x l else none:=by
 by_cases hp:p x=true
 ·rw[if_pos hp]
  cases hg:jH x l with
  | none =>
   rw[iV] at hg ⊢
   exact fun e he=>hg e (List.mem_filter.1 he).1
  | some v =>
   rw[(h.filter _).ui0]
   obtain⟨b,hb⟩:=h.ui0.1 hg
   exact⟨b,List.mem_filter.2 ⟨hb,hp⟩⟩
 ·rw[if_neg hp,iV]
  rintro e he rfl
  exact hp (List.mem_filter.1 he).2
theorem gq0{x:κ}{y z:ν}{l:List (Ent κ ν)}{c:Nat}(h:WfE l c):KX (vO x z l c).2.2.1 y (vO x z l c).1=(VN x y l c).1∧(vO x z l c).2.1=(VN x y l c).2:=by
 unfold vO VN
 cases hf:bE x l 0 with
 | none =>
  refine⟨?_,rfl⟩
  show KX c y (l++[(x,z,c)])=l++[(x,y,c)]
  unfold KX
  have:(l++[(x,z,c)]).findIdx? (fun e=>e.2.2 == c)=some l.length:=by
   rw[List.findIdx?_eq_some_iff_getElem]
   refine⟨by simp,by simp,fun j hj=>?_⟩
   rw[List.getElem_append_left hj]
   have:=h.below _ (List.getElem_mem hj)
   simp
   omega
  rw[this]
  apply List.ext_getElem (by simp)
  intro j h1 h2
  rw[List.getElem_modify]
  by_cases hj:l.length=j
  ·subst hj;simp
  ·rw[if_neg hj,List.getElem_append_left (by simp at h2;omega),List.getElem_append_left (by simp at h2;omega)]
 | some p =>
  refine⟨?_,rfl⟩
  obtain⟨h1,h2,h3⟩:=ME (i:=p.1) (v:=p.2) hf
  show KX ((l[p.1]?.map (·.2.2)).getD 0) y l=l.modify p.1 _
  rw[List.getElem?_eq_getElem h1]
  unfold KX
  have:l.findIdx? (fun e=>e.2.2 == ((some l[p.1]).map (·.2.2)).getD 0)=some p.1:=by
   rw[List.findIdx?_eq_some_iff_getElem]
   refine⟨h1,by simp,fun j hj=>?_⟩
   have:=List.nodup_iff_pairwise_ne.1 h.stamps
   rw[List.pairwise_iff_getElem] at this
   have:=this j p.1 (by simp;omega) (by simpa using h1) hj
   simpa using this
  rw[this]
end
section
variable {κ ν:Type} [DecidableEq κ]
theorem GF0{l:List (Ent κ ν)}{c:Nat}(h:WfE l c){e:Ent κ ν}(he:e∈l)(y:ν):(VN e.1 y l c).1=l.map (fun e'=>if e'.2.2=e.2.2 then(e'.1,y,e'.2.2) else e')∧(VN e.1 y l c).2=c:=by
 refine⟨?_,(mv0 ⟨e,he,rfl⟩).1⟩
 obtain⟨j,hj,rfl⟩:=List.getElem_of_mem he
 unfold VN
 cases hf:bE l[j].1 l 0 with
 | none=>exact absurd rfl (nN hf _ he)
 | some p =>
  obtain⟨h1,h2,_⟩:=ME (i:=p.1) (v:=p.2) hf
  have hn:=List.nodup_iff_pairwise_ne.1 h.keys
  have hs:=List.nodup_iff_pairwise_ne.1 h.stamps
  rw[List.pairwise_map,List.pairwise_iff_getElem] at hn hs
  have hij:p.1=j:=by
   rcases Nat.lt_trichotomy p.1 j with h | h | h
   ·exact absurd h2 (hn p.1 j h1 hj h)
   ·exact h
   ·exact absurd h2.symm (hn j p.1 hj h1 h)
  show l.modify p.1 _=_
  rw[hij]
  apply List.ext_getElem (by simp)
  intro q q1 q2
  have hq:q<l.length:=by simpa using q1
  rw[List.getElem_modify,List.getElem_map]
  by_cases e:j=q
  ·subst e;rw[if_pos rfl,if_pos rfl]
  ·rw[if_neg e,if_neg]
   intro hh
   rcases Nat.lt_trichotomy q j with h | h | h
   ·exact hs q j hq hj h hh
   ·exact e h.symm
   ·exact hs j q hj hq h hh.symm
end
theorem contains_push{seen:Array Nat}{b x:Nat}:(seen.push b).contains x=(seen.contains x||decide (x=b)):=by
 rw[Bool.eq_iff_iff];simp
theorem Jl0{α β:Type}(f:α→β):∀(l:List α) (i:Nat),(l.map f).eraseIdx i=(l.eraseIdx i).map f
 | [],_=>by simp
 | a :: l,0=>by simp
 | a :: l,i+1=>by simp [Jl0 f l i]
theorem WfE.kl0{κ ν:Type}{l:List (Ent κ ν)}{c:Nat}(h:WfE l c){x e:Ent κ ν}(hx:x∈l)(he:e∈l)(hk:x.1=e.1):x=e:=by
 obtain⟨i,hi,rfl⟩:=List.getElem_of_mem hx
 obtain⟨j,hj,rfl⟩:=List.getElem_of_mem he
 have hn:=List.nodup_iff_pairwise_ne.1 h.keys
 rw[List.pairwise_map,List.pairwise_iff_getElem] at hn
 rcases Nat.lt_trichotomy i j with h | h | h
 ·exact absurd hk (hn i j hi hj h)
 ·subst h;rfl
 ·exact absurd hk.symm (hn j i hj hi h)
theorem WfE.bX{κ ν:Type}{l:List (Ent κ ν)}{c:Nat}(h:WfE l c){x e:Ent κ ν}(hx:x∈l)(he:e∈l)(hk:x.2.2=e.2.2):x=e:=by
 obtain⟨i,hi,rfl⟩:=List.getElem_of_mem hx
 obtain⟨j,hj,rfl⟩:=List.getElem_of_mem he
 have hn:=List.nodup_iff_pairwise_ne.1 h.stamps
 rw[List.pairwise_map,List.pairwise_iff_getElem] at hn
 rcases Nat.lt_trichotomy i j with h | h | h
 ·exact absurd hk (hn i j hi hj h)
 ·subst h;rfl
 ·exact absurd hk.symm (hn j i hj hi h)
def tJ{κ ν:Type}(l:List (Ent κ ν))(seen:Array Nat):Nat:=(l.filter fun e=>!seen.contains e.2.2).length
theorem yd0{α:Type}{p q:α→Bool}{l:List α}(hpq:∀x∈l,p x=true→q x=true){e:α}(he:e∈l)(h1:p e=false)(h2:q e=true):(l.filter p).length<(l.filter q).length:=by
 induction l with
 | nil=>cases he
 | cons a l ih =>
  have hle:∀l:List α,(∀x∈l,p x=true→q x=true)→(l.filter p).length≤(l.filter q).length:=by
   intro l
   induction l with
   | nil=>intro _;exact Nat.le_refl _
   | cons a l ih =>
    intro h
    have:=ih fun x hx=>h x (List.mem_cons_of_mem _ hx)
    have ha:=h a List.mem_cons_self
    rw[List.filter_cons,List.filter_cons]
    by_cases hp:p a=true
    ·rw[if_pos hp,if_pos (ha hp)];simp only[List.length_cons];omega
    ·rw[if_neg hp]
     split
     ·simp only[List.length_cons];omega
     ·exact this
  have hr:=hle l fun x hx=>hpq x (List.mem_cons_of_mem _ hx)
  rw[List.filter_cons,List.filter_cons]
  rcases List.mem_cons.1 he with rfl | he
  ·rw[if_neg (by rw[h1];decide),if_pos h2]
   simp only[List.length_cons];omega
  ·have:=ih (fun x hx=>hpq x (List.mem_cons_of_mem _ hx)) he
   have ha:=hpq a List.mem_cons_self
   by_cases hp:p a=true
   ·rw[if_pos hp,if_pos (ha hp)];simp only[List.length_cons];omega
   ·rw[if_neg hp]
    split
    ·simp only[List.length_cons];omega
    ·exact this
theorem KQ{κ ν:Type}{l:List (Ent κ ν)}{seen:Array Nat}{e:Ent κ ν}(he:e∈l)(hs:seen.contains e.2.2=false):tJ l (seen.push e.2.2)<tJ l seen:=by
 refine yd0 (fun x _ hx=>?_) he (by simp [contains_push]) (by rw[hs];rfl)
 rw[contains_push] at hx
 cases hc:seen.contains x.2.2
 ·rfl
 ·rw[hc] at hx;simp at hx
def sN(w:World)(it:Nat):Array Nat:=match w.heap[it]? with
 | some (.mapIter _ _ s _)=>s
 | _=>#[]
section
variable {κ ν:Type} [Enc κ] [Enc ν]
def B_(m:Nat)(l:List (Ent κ ν))(c:Nat):Dat:=⟨fun B=>B.keep m∧B.W.heap[m]? = some (.map (l.map TC).toArray c),fun {B B'} hl ⟨h1,h2⟩=>by
 obtain⟨h3,h4⟩:=hl m h1 (Array.getElem?_eq_some_iff.1 h2).1
 exact⟨h3,h4.trans h2⟩⟩
def vX(it m since:Nat)(seen:Array Nat)(last:Nat):Dat:=⟨fun B=>B.keep it∧B.W.heap[it]? = some (.mapIter (some m) since seen last),fun {B B'} hl ⟨h1,h2⟩=>by
 obtain⟨h3,h4⟩:=hl it h1 (Array.getElem?_eq_some_iff.1 h2).1
 exact⟨h3,h4.trans h2⟩⟩
end
theorem NN{B:Base}{w:World}{σ:List Dat}{j it m since last:Nat}{seen:Array Nat}(h:Rel B w σ)(hj:σ[j]? = some (vX it m since seen last)):sN w it=seen:=by
 have:w.heap[it]? = some (.mapIter (some m) since seen last):=(h.here hj).2
 unfold sN
 rw[this]
abbrev vP(m:Nat):Value := .map (some m)
section
variable {P:Program} {K:PtK} {Kp:Value→Prop} {B:Base} {w:World} {σ:List Dat} {T k E:TypeId} {m c:Nat} {κ ν:Type} [Enc κ] [Enc ν] [DecidableEq κ] {l:List (Ent κ ν)}
theorem Rel.setObj(h:Rel B w σ)(i:Nat){d e:Dat}{r:Nat}{o:Obj}(hi:σ[i]? = some e)(he:∀B:Base,e B→B.keep r∧r<B.W.heap.size)(hd:∀B:Base,B.keep r→B.W.heap[r]? = some o→d B):Rel B { w with heap:=w.heap.setIfInBounds r o } (σ.set i d):=by
 obtain⟨cc,h⟩:=h
 obtain⟨hk,hs⟩:=he _ (h.own i e hi)
 have hk:cc r=i+1:=hk
 have hs:r<w.heap.size:=hs
 refine⟨cc,h.step hi ⟨rfl,rfl,rfl,by simp,fun _ _=>rfl,fun j hj hT=>?_⟩ (hd _ hk (by simp [hs]))⟩
 have hjr:r≠j:=by rintro rfl;exact hT hk
 exact Array.getElem?_setIfInBounds_ne hjr
omit [DecidableEq κ] in
theorem B_.lt{B:Base}(h:B_ m l c B):B.keep m∧m<B.W.heap.size:=⟨h.1,(Array.getElem?_eq_some_iff.1 h.2).1⟩
theorem vX.lt{B:Base}{it m since last:Nat}{seen:Array Nat}(h:vX it m since seen last B):B.keep it∧it<B.W.heap.size:=⟨h.1,(Array.getElem?_eq_some_iff.1 h.2).1⟩
theorem FP{r:Nat}{o:Obj}(h:w.heap[r]? = some o)(hn:∀a b f,o ≠ .cells a b f):(getObj r).run P w = .ok o w:=by
 unfold getObj
 simp only[Sem.run,h]
theorem qN{r:Nat}{o o':Obj}(h:w.heap[r]? = some o)(hn:∀a b f,o ≠ .cells a b f):(setObj r o').run P w = .ok () { w with heap:=w.heap.setIfInBounds r o' }:=by
 unfold Go.setObj
 simp only[Sem.run,h]
theorem Rel.mkMap(h:Rel B w σ)(κ ν:Type)[Enc κ][Enc ν](k:∀m w',Rel B w' (σ++[B_ m ([]:List (Ent κ ν)) 0])→K (vP m) w'):upK P (Aj0 T none) w K:=by
 obtain⟨cc,h⟩:=h
 refine JC (v := .map (some w.heap.size)) (w':=w.alloc (.map #[] 0)) (V9 ?_) (k _ _ ⟨jG cc w.heap.size (σ.length+1),h.push (Step.alloc nobody cc w _ _) ⟨by simp [jG],heap_alloc_new w _⟩⟩)
 rfl
theorem Wq0(hb:w.heap[m]? = some (.map (l.map TC).toArray c))(hT:P.underlying T=some (.map k E))(hk:KeyTy P k κ)(z:ν)(hz:(P.info? E).bind (·.zero)=some (Enc.val z))(x:κ)(ok:Bool) :
  (Instr.lookup T (.map (some m)) (Enc.val x) ok).run P w = .ok (if ok then .tuple #[Enc.val ((jH x l).getD z),.bool (jH x l).isSome] else Enc.val ((jH x l).getD z)) w:=by
 have hzr:(zeroValue E).run P w = .ok (Enc.val z) w:=by
  cases hi:P.info? E with
  | none=>rw[hi] at hz;cases hz
  | some i =>
   rw[hi] at hz
   simp only[Option.bind_some] at hz
   simp [zeroValue,typeInfo,hi,hz]
 unfold Instr.lookup
 rw[Sem.run_bind,run_underlying hT]
 simp only[Result.andThen_ok]
 rw[Sem.run_bind]
 simp only[bind_assoc,pure_bind]
 rw[FP hb (by intro a b f h;cases h)]
 simp only[Result.andThen_ok]
 rw[Sem.run_bind,hk.chk]
 simp only[Result.andThen_ok]
 rw[Sem.run_bind,hk.find]
 simp only[Result.andThen_ok]
 unfold jH
 cases hf:bE x l 0 with
 | none=>simp [hzr]
 | some p=>simp
theorem B_.look{w:World}(h:(B_ m l c).here w)(hT:P.underlying T=some (.map k E))(hk:KeyTy P k κ)(z:ν)(hz:(P.info? E).bind (·.zero)=some (Enc.val z))(x:κ){xv yv:Value}(hx:xv=Enc.val x:=by rfl)(hy:yv=Enc.val ((jH x l).getD z):=by rfl) :
  Y0 P (lK T (.map (some m)) xv false) w Kp=Kp yv:=by
 subst hx hy
 exact FQ (V9 (Wq0 h.2 hT hk z hz x false))
theorem Rel.lookup(h:Rel B w σ)(i:Nat)(hi:σ[i]? = some (B_ m l c))(hT:P.underlying T=some (.map k E))(hk:KeyTy P k κ)(z:ν)(hz:(P.info? E).bind (·.zero)=some (Enc.val z))(x:κ){xv yv:Value}(hx:xv=Enc.val x:=by rfl)(hy:yv=Enc.val ((jH x l).getD z):=by rfl) :
  Y0 P (lK T (.map (some m)) xv false) w Kp=Kp yv:=by
 subst hx hy
 exact FQ (V9 (Wq0 (h.here hi).2 hT hk z hz x false))
theorem Rel.Si0(h:Rel B w σ)(i:Nat)(hi:σ[i]? = some (B_ m l c))(hT:P.underlying T=some (.map k E))(hk:KeyTy P k κ)(x:κ)(y:ν){xv yv:Value}(kk:∀w',Rel B w' (σ.set i (B_ m (VN x y l c).1 (VN x y l c).2))→K undef w')(hx:xv=Enc.val x:=by rfl)(hy:yv=Enc.val y:=by rfl) :
  upK P (tY T (.map (some m)) xv yv) w K:=by
 subst hx hy
 have hb:=(h.here hi).2
 have hb:w.heap[m]? = some (.map (l.map TC).toArray c):=hb
 refine Dc0 (w':={ w with heap:=w.heap.setIfInBounds m (.map ((VN x y l c).1.map TC).toArray (VN x y l c).2) }) (So0 ?_) (kk _ (h.setObj i hi (fun B hb=>B_.lt hb) fun B h1 h2=>⟨h1,h2⟩))
 unfold Instr.mapUpdate
 rw[Sem.run_bind,run_underlying hT]
 simp only[Result.andThen_ok]
 rw[Sem.run_bind,FP hb (by intro a b f h;cases h)]
 simp only[Result.andThen_ok]
 rw[Sem.run_bind,hk.chk]
 simp only[Result.andThen_ok]
 rw[Sem.run_bind,hk.find]
 simp only[Result.andThen_ok]
 unfold VN
 cases hf:bE x l 0 with
 | none =>
  simp only[Option.map_none]
  rw[qN hb (by intro a b f h;cases h)]
  congr 4
  simp [TC]
 | some p =>
  obtain⟨h1,h2,_⟩:=ME (i:=p.1) (v:=p.2) hf
  simp only[Option.map_some]
  have e1:(((l.map TC).toArray[p.1]?).map (·.key)).getD (Enc.val x)=Enc.val x:=by simp [h1,TC,h2]
  have e2:(Instr.keyThatStays (Enc.val x) (Enc.val x)).run P w = .ok (Enc.val x) w:=by
   unfold Instr.keyThatStays
   rw[if_pos (hk.bits x)]
   rfl
  rw[e1,Sem.run_bind,e2]
  simp only[Result.andThen_ok]
  rw[qN hb (by intro a b f h;cases h)]
  congr 4
  apply Array.ext'
  rw[Array.toList_modify]
  apply List.ext_getElem (by simp)
  intro j hj1 hj2
  simp only[List.getElem_modify,List.getElem_map,List.getElem_toArray]
  split
  ·rename_i e;subst e;simp [TC,h2]
  ·rfl
theorem Rel.mapEntry(h:Rel B w σ)(i:Nat)(hi:σ[i]? = some (B_ m l c))(hT:P.underlying T=some (.map k E))(hk:KeyTy P k κ)(z:ν)(hz:(P.info? E).bind (·.zero)=some (Enc.val z))(x:κ){xv:Value}
  (kk:∀w',Rel B w' (σ.set i (B_ m (vO x z l c).1 (vO x z l c).2.1))→K (.tuple #[Enc.val (vO x z l c).2.2.2,.int .i64 (vO x z l c).2.2.1]) w') (hx:xv=Enc.val x:=by rfl) :
  upK P (km0 T (.map (some m)) xv) w K:=by
 subst hx
 have hb:=(h.here hi).2
 have hb:w.heap[m]? = some (.map (l.map TC).toArray c):=hb
 have hzr:(zeroValue E).run P w = .ok (Enc.val z) w:=by
  cases hi:P.info? E with
  | none=>rw[hi] at hz;cases hz
  | some i =>
   rw[hi] at hz
   simp only[Option.bind_some] at hz
   simp [zeroValue,typeInfo,hi,hz]
 refine JC (w':={ w with heap:=w.heap.setIfInBounds m (.map ((vO x z l c).1.map TC).toArray (vO x z l c).2.1) }) (V9 ?_) (kk _ (h.setObj i hi (fun B hb=>B_.lt hb) fun B h1 h2=>⟨h1,h2⟩))
 unfold Instr.mapEntry
 rw[Sem.run_bind,run_underlying hT]
 simp only[Result.andThen_ok]
 rw[Sem.run_bind,FP hb (by intro a b f h;cases h)]
 simp only[Result.andThen_ok]
 rw[Sem.run_bind,hk.chk]
 simp only[Result.andThen_ok]
 rw[Sem.run_bind,hk.find]
 simp only[Result.andThen_ok]
 unfold vO
 cases hf:bE x l 0 with
 | none =>
  simp only[Option.map_none]
  rw[Sem.run_bind,hzr]
  simp only[Result.andThen_ok]
  rw[Sem.run_bind,qN hb (by intro a b f h;cases h)]
  simp [TC,goInt]
 | some p =>
  obtain⟨h1,h2,_⟩:=ME (i:=p.1) (v:=p.2) hf
  simp only[Option.map_some]
  have e1:(((l.map TC).toArray[p.1]?).map (·.key)).getD (Enc.val x)=Enc.val x:=by simp [h1,TC,h2]
  have e2:(Instr.keyThatStays (Enc.val x) (Enc.val x)).run P w = .ok (Enc.val x) w:=by
   unfold Instr.keyThatStays
   rw[if_pos (hk.bits x)]
   rfl
  rw[e1,Sem.run_bind,e2]
  simp only[Result.andThen_ok]
  rw[Sem.run_bind,qN hb (by intro a b f h;cases h)]
  have e3:((l.map TC).toArray.modify p.1 fun e=>{ e with key:=Enc.val x })=(l.map TC).toArray:=by
   apply Array.ext'
   rw[Array.toList_modify]
   apply List.ext_getElem (by simp)
   intro j hj1 hj2
   simp only[List.getElem_modify,List.getElem_map,List.getElem_toArray]
   split
   ·rename_i e;subst e;simp [TC,h2]
   ·rfl
  simp only[Result.andThen_ok,e3]
  simp [goInt,h1,TC]
omit [DecidableEq κ] in
theorem Rel.entryStore(h:Rel B w σ)(i:Nat)(hi:σ[i]? = some (B_ m l c)){b:Nat}(hin:∃e∈l,e.2.2=b)(y:ν){yv:Value}(kk:∀w',Rel B w' (σ.set i (B_ m (KX b y l) c))→K undef w')(hy:yv=Enc.val y:=by rfl) :
  upK P (Kf0 T (.map (some m)) (.int .i64 b) yv) w K:=by
 subst hy
 have hb:=(h.here hi).2
 have hb:w.heap[m]? = some (.map (l.map TC).toArray c):=hb
 refine Dc0 (w':={ w with heap:=w.heap.setIfInBounds m (.map ((KX b y l).map TC).toArray c) }) (So0 ?_) (kk _ (h.setObj i hi (fun B hb=>B_.lt hb) fun B h1 h2=>⟨h1,h2⟩))
 unfold Instr.entryStore
 rw[Sem.run_bind,FP hb (by intro a b f h;cases h)]
 simp only[Result.andThen_ok]
 have hA:(asInt (.int .i64 b)).run P w = .ok (b:Int) w:=by simp [asInt,asIntOf]
 rw[Sem.run_bind,hA]
 simp only[Result.andThen_ok]
 have hf:(l.map TC).toArray.findIdx? (fun e=>(e.born:Int) == (b:Int))=l.findIdx? fun e=>e.2.2 == b:=by
  simp only[List.findIdx?_toArray,List.findIdx?_map]
  congr 1
  funext e
  simp only[Function.comp_apply,TC]
  rw[Bool.eq_iff_iff]
  simp
  omega
 rw[hf]
 unfold KX
 cases hfi:l.findIdx? fun e=>e.2.2 == b with
 | none =>
  obtain⟨e,he,h1⟩:=hin
  have:=List.findIdx?_eq_none_iff.1 hfi e he
  simp [h1] at this
 | some j =>
  simp only[]
  rw[qN hb (by intro a b f h;cases h)]
  congr 4
  apply Array.ext'
  rw[Array.toList_modify]
  apply List.ext_getElem (by simp)
  intro q hj1 hj2
  simp only[List.getElem_modify,List.getElem_map,List.getElem_toArray]
  split<;>rfl
theorem Rel.delete(h:Rel B w σ)(i:Nat)(hi:σ[i]? = some (B_ m l c))(hT:P.underlying T=some (.map k E))(hk:KeyTy P k κ)(x:κ){xv:Value}{U:TypeId}{bs:Array Bool}(kk:∀w',Rel B w' (σ.set i (B_ m (Jt0 x l) c))→K (.tuple #[]) w')(hx:xv=Enc.val x:=by rfl) :
  upK P (J5 .delete #[T,k] U bs #[.map (some m),xv]) w K:=by
 subst hx
 have hb:=(h.here hi).2
 have hb:w.heap[m]? = some (.map (l.map TC).toArray c):=hb
 refine JC (v := .tuple #[]) (w':={ w with heap:=w.heap.setIfInBounds m (.map ((Jt0 x l).map TC).toArray c) }) (V9 ?_) (kk _ (h.setObj i hi (fun B hb=>B_.lt hb) fun B h1 h2=>⟨h1,h2⟩))
 unfold Builtin.delete_
 simp only[List.getElem?_toArray,List.getElem?_cons_zero,List.getElem?_cons_succ]
 rw[Sem.run_bind,run_underlying hT]
 simp only[Result.andThen_ok]
 rw[Sem.run_bind]
 rw[FP hb (by intro a b f h;cases h)]
 simp only[Result.andThen_ok]
 rw[Sem.run_bind,hk.chk]
 simp only[Result.andThen_ok]
 rw[Sem.run_bind,hk.find]
 simp only[Result.andThen_ok]
 unfold Jt0
 cases hf:bE x l 0 with
 | none =>
  simp only[Option.map_none]
  rw[Sem.run_bind,qN hb (by intro a b f h;cases h)]
  rfl
 | some p =>
  obtain⟨h1,h2,_⟩:=ME (i:=p.1) (v:=p.2) hf
  simp only[Option.map_some]
  have:((l.map TC).toArray.eraseIdxIfInBounds p.1)=((l.eraseIdx p.1).map TC).toArray:=by
   apply Array.ext'
   simp [Array.eraseIdxIfInBounds,h1,Jl0]
  rw[Sem.run_bind,qN hb (by intro a b f h;cases h),this]
  rfl
omit [DecidableEq κ] in
theorem nI0(h:Rel B w σ)(i:Nat)(hi:σ[i]? = some (B_ m l c))(hT:P.underlying T=some (.map k E)){U:TypeId}{bs:Array Bool}:Y0 P (J5 .len #[T] U bs #[.map (some m)]) w Kp=Kp (.int .i64 l.length):=FQ (V9 (by
 have hb:w.heap[m]? = some (.map (l.map TC).toArray c):=(h.here hi).2
 have hg:=FP (P:=P) hb (by intro a b f h;cases h)
 simp [Builtin.len_,run_underlying hT,hg,goInt]))
omit [DecidableEq κ] in
theorem Rel.range(h:Rel B w σ)(i:Nat)(hi:σ[i]? = some (B_ m l c))(hT:P.underlying T=some (.map k E))(kk:∀it w',Rel B w' (σ++[vX it m c #[] c])→K (.pointer (some ⟨it,0,none⟩)) w'):upK P (vo0 T (.map (some m))) w K:=by
 have hb:w.heap[m]? = some (.map (l.map TC).toArray c):=(h.here hi).2
 have hrun:=run_range_map (P:=P) w T k E m _ c hT hb
 obtain⟨cc,h⟩:=h
 refine JC (V9 hrun) (kk _ _ ⟨jG cc w.heap.size (σ.length+1),h.push (Step.alloc nobody cc w _ _) ⟨by simp [jG],heap_alloc_new w _⟩⟩)
omit [DecidableEq κ] in
theorem Rel.next(h:Rel B w σ)(i j it:Nat){seen:Array Nat}(hi:σ[i]? = some (B_ m l c))(hj:σ[j]? = some (vX it m c seen c))(hb:∀e∈l,e.2.2<c)
  (k0:∀w',(∀e∈l,seen.contains e.2.2=true)→Rel B w' σ→K (.tuple #[.bool false]) w')
  (k1:∀e w',e∈l→seen.contains e.2.2=false→Rel B w' (σ.set j (vX it m c (seen.push e.2.2) c))→K (.tuple #[.bool true,Enc.val e.1,Enc.val e.2.1]) w'):upK P (Gx0 (.pointer (some ⟨it,0,none⟩)) false T) w K:=by
 have hm:w.heap[m]? = some (.map (l.map TC).toArray c):=(h.here hi).2
 have hit:w.heap[it]? = some (.mapIter (some m) c seen c):=(h.here hj).2
 have hold:∀x∈(l.map TC).toArray.toList,x.born<c:=by
  intro x hx
  have hx:x∈l.map TC:=by simpa only[List.toList_toArray] using hx
  obtain⟨e,he,rfl⟩:=List.mem_map.1 hx
  exact hb e he
 rcases run_next_at (P:=P) w T it m c c seen _ c hit hm hold (Nat.le_refl _) with⟨h0,hr⟩ | ⟨x,hx,w1,hw,hr⟩
 ·refine JC (V9 hr) (k0 w (fun e he=>?_) h)
  have he0:leftOf (l.map TC).toArray seen=#[]:=Array.eq_empty_of_size_eq_zero h0
  cases hc:seen.contains e.2.2 with
  | true=>rfl
  | false =>
   have:TC e∈(leftOf (l.map TC).toArray seen):=by
    unfold leftOf
    rw[Array.mem_filter]
    refine⟨by simp;exact⟨e.1,e.2.1,e.2.2,he,rfl⟩,?_⟩
    show (!seen.contains e.2.2)=true
    rw[hc];rfl
   rw[he0] at this
   simp at this
 ·have hx':x∈leftOf (l.map TC).toArray seen:=by simpa using hx
  unfold leftOf at hx'
  rw[Array.mem_filter] at hx'
  obtain⟨hx1,hx2⟩:=hx'
  obtain⟨e,he,rfl⟩:=List.mem_map.1 (List.mem_toArray.1 hx1)
  have hns:seen.contains e.2.2=false:=by
   have:(!seen.contains e.2.2)=true:=hx2
   simpa using this
  have h1:Rel B w1 σ:=by
   rcases hw with rfl | rfl
   ·exact h
   ·exact h.tick
  exact JC (V9 hr) (k1 e _ he hns (h1.setObj j hj (fun B hb=>vX.lt hb) fun B h1 h2=>⟨h1,h2⟩))
omit [DecidableEq κ] in
theorem Rel.entry(h:Rel B w σ)(i j it:Nat){seen:Array Nat}(hi:σ[i]? = some (B_ m l c)){e:Ent κ ν}(hj:σ[j]? = some (vX it m c (seen.push e.2.2) c))(he:e∈l)(hn:(l.map (·.2.2)).Nodup)
  (kk:∀w',Rel B w' σ→K (.tuple #[Enc.val e.1,Enc.val e.2.1]) w'):upK P (uo0 (.pointer (some ⟨it,0,none⟩))) w K:=by
 have hm:w.heap[m]? = some (.map (l.map TC).toArray c):=(h.here hi).2
 have hit:w.heap[it]? = some (.mapIter (some m) c (seen.push e.2.2) c):=(h.here hj).2
 have:=run_entry_at (P:=P) w it m c seen (l.map TC).toArray c (TC e) hit hm (by simp;exact⟨e.1,e.2.1,e.2.2,he,rfl⟩) (by simpa [Function.comp_def,TC] using hn)
 exact JC (V9 this) (kk w h)
omit [Enc κ] [Enc ν] [DecidableEq κ] in
omit [Enc κ] [Enc ν] [DecidableEq κ] in
end
end Go.Proofs.YtngbebnhegcokaaGreatDoor
namespace Go.Proofs.YtngbebnhegcokaaGreatDoor
open Go.Proofs.Tryz (prog)
open Go.RowKit
set_option maxRecDepth 100000
abbrev JA:=wN
abbrev Sec:=F9
def Mb0(s:List UInt8)(at_ n:Nat):List UInt8:=s++List.replicate (max s.length (at_+n)-s.length) 0
theorem BX(s:List UInt8)(at_ n:Nat):(Mb0 s at_ n).length=max s.length (at_+n):=by
 unfold Mb0
 rw[List.length_append,List.length_replicate]
 omega
def av0(s:List UInt8)(at_:Nat)(t:List UInt8):List UInt8:=(Mb0 s at_ t.length).take at_++t++(Mb0 s at_ t.length).drop (at_+t.length)
theorem rr0(s:List UInt8)(at_:Nat)(t:List UInt8):(av0 s at_ t).length=max s.length (at_+t.length):=by
 unfold av0
 rw[List.length_append,List.length_append,List.length_take,List.length_drop,BX]
 omega
theorem kj0(s:List UInt8)(at_:Nat)(t:List UInt8)(i:Nat):(av0 s at_ t).getD i 0=if at_≤i∧i<at_+t.length then t.getD (i-at_) 0 else s.getD i 0:=by
 have hp:∀j,(Mb0 s at_ t.length).getD j 0=s.getD j 0:=by
  intro j
  unfold Mb0
  simp only[List.getD_eq_getElem?_getD]
  rcases Nat.lt_or_ge j s.length with h | h
  ·rw[List.getElem?_append_left h]
  ·rw[List.getElem?_append_right h,List.getElem?_replicate,List.getElem?_eq_none h]
   split<;>rfl
 unfold av0
 simp only[List.getD_eq_getElem?_getD]
 have hl:=BX s at_ t.length
 by_cases h1:at_≤i
 ·by_cases h2:i<at_+t.length
  ·rw[if_pos ⟨h1,h2⟩,List.append_assoc,List.getElem?_append_right (by rw[List.length_take];omega),List.length_take,Nat.min_eq_left (by omega),List.getElem?_append_left (by omega)]
  ·rw[if_neg (by omega),List.getElem?_append_right (by rw[List.length_append,List.length_take];omega),List.length_append,List.length_take,Nat.min_eq_left (by omega),List.getElem?_drop]
   have:=hp i
   simp only[List.getD_eq_getElem?_getD] at this
   rw[←this]
   congr 2
   omega
 ·rw[if_neg (by omega),List.append_assoc,List.getElem?_append_left (by rw[List.length_take];omega),List.getElem?_take,if_pos (by omega)]
  have:=hp i
  simp only[List.getD_eq_getElem?_getD] at this
  exact this
def zF(s:ByteArray)(at_:Nat)(t:ByteArray):ByteArray:=if t=⟨#[]⟩ then s else ofL (av0 (bl s) at_ (bl t))
theorem ZC0{t:ByteArray}:t=⟨#[]⟩↔bl t=[]:=by
 constructor
 ·rintro rfl;rfl
 ·intro h;rw[←bW t,h]
section
variable {B:Base}
theorem yK0{s t:ByteArray}{at_:Nat}(hs:s.size≤1073741824)(ht:t.size≤1073741824)(ha:at_≤1073741824):Gives prog B (Z0 xV #[.string s,.int .i64 at_,.string t]) (.string (zF s at_ t)):=by
 refine Gives.intro fun B' w K base h k=>?_
 refine Ca0.up ?_
 unfold Ca0.pt
 rw[WT,K3]
 refine⟨fun e=>?_,fun e=>?_⟩
 ·unfold zF at k
  rw[if_pos e] at k
  exact k _ _ h
 ·unfold zF at k
  rw[if_neg e] at k
  have hs':=y8 s
  have ht':=y8 t
  have hw:IntKind.i64.wrap ((at_:Int)+((bl t).length:Int))=((at_+(bl t).length:Nat):Int):=by rw[D5 (by omega) (by omega)];omega
  have hm:max ((bl s).length:Int) ((at_+(bl t).length:Nat):Int)=((max (bl s).length (at_+(bl t).length):Nat):Int):=by omega
  simp -zeta only[oK C8,V5,hw,kL,hm]
  generalize hn:max (bl s).length (at_+(bl t).length)=n
  refine h.mkSlice (n:=n) (0:UInt8) tN (by kernel_rfl) (by omega) (by omega) fun v w1 h nv=>?_
  obtain⟨g,cap,rfl⟩:=h.ox0 (i:=0) rfl nv
  have hlen:(List.replicate n (0:UInt8)).length=n:=List.length_replicate
  refine h.vw0 0 (g:=g) (n:=(List.replicate n (0:UInt8)).length) (cap:=cap) (lo:=0) (a:=some ⟨g,0,none⟩) (dc:=cap) rfl tN (Nat.zero_le _) (.inl rfl) fun w2 h=>?_
  have e1:(List.replicate n (0:UInt8)).take 0++(bl s).take ((List.replicate n (0:UInt8)).length-0)++(List.replicate n (0:UInt8)).drop (0+((bl s).take ((List.replicate n (0:UInt8)).length-0)).length)=Mb0 (bl s) at_ (bl t).length:=by
   unfold Mb0
   rw[hlen,Nat.sub_zero,List.take_of_length_le (show (bl s).length≤n by omega),Nat.zero_add,List.drop_replicate,hn]
   rfl
  rw[e1] at h
  have hpl:=BX (bl s) at_ (bl t).length
  have h:Rel B' w2 [V3 p_ (.slice (some ⟨g,0,none⟩) (List.replicate n (0:UInt8)).length cap) (Mb0 (bl s) at_ (bl t).length)]:=h
  have hcap:n≤cap:=by
   obtain⟨_,_,he,hc,_⟩:=V3.read (h.here (i:=0) rfl)
   injection he with _ e2 e3
   omega
  obtain⟨a,ha2,hcut⟩:=iH0 (α:=UInt8) (P:=prog) (g:=g) (n:=(List.replicate n (0:UInt8)).length) (cap:=cap) (lo:=at_) tN (by omega) (by omega)
  simp -zeta only[hcut]
  refine h.vw0 0 (g:=g) (n:=(List.replicate n (0:UInt8)).length) (cap:=cap) (lo:=at_) (a:=a) rfl tN (by omega) (ha2.imp id fun hh=>⟨by omega,hh.2⟩) fun w3 h=>?_
  have e2:(Mb0 (bl s) at_ (bl t).length).take at_++(bl t).take ((Mb0 (bl s) at_ (bl t).length).length-at_)++(Mb0 (bl s) at_ (bl t).length).drop (at_+((bl t).take ((Mb0 (bl s) at_ (bl t).length).length-at_)).length)=av0 (bl s) at_ (bl t):=by
   unfold av0
   rw[List.take_of_length_le (show (bl t).length≤(Mb0 (bl s) at_ (bl t).length).length-at_ by omega)]
  rw[e2] at h
  exact h.toStr (Rd.at (E:=p_) 0 rfl) Zc0 UX C8 (k _ _ h)
end
end Go.Proofs.YtngbebnhegcokaaGreatDoor
namespace Go.Proofs.YtngbebnhegcokaaGreatDoor
open Go.Proofs.Tryz (prog)
open Go.RowKit
structure DS where
 fs:Int→JA
 queue:List Sec
 lost:Int
 down:Bool
 armed:Int
 keep:List Int
def F0:JA:=⟨⟨#[]⟩,⟨#[]⟩⟩
def upd(fs:Int→JA)(f:Int)(x:JA):Int→JA:=fun g=>if g=f then x else fs g
theorem upd_same{fs:Int→JA}{f:Int}{x:JA}:upd fs f x f=x:=if_pos rfl
theorem upd_ne{fs:Int→JA}{f g:Int}{x:JA}(h:g≠f):upd fs f x g=fs g:=if_neg h
def wB:DS:=⟨fun _=>F0,[],0,false,0,[]⟩
def wP(s:DS)(f:Int):Int:=if s.down=true then 9 else if f<0 then 1 else if 16≤f then 1 else 0
theorem BL{s:DS}{f:Int}:wP s f=0↔s.down=false∧0≤f∧f<16:=by
 unfold wP
 cases s.down
 ·simp
  split
  ·simp;omega
  ·split
   ·simp;omega
   ·simp;omega
 ·simp
def Uk0(f:Int)(q:List Sec)(n:Nat):List Sec:=if(⟨f,n⟩:Sec)∈q then q else q++[⟨f,n⟩]
def HV(f:Int)(q:List Sec)(ns:List Nat):List Sec:=ns.foldl (Uk0 f) q
def secs(at_ n:Nat):List Nat:=(List.range ((at_+n-1) / 64+1-at_ / 64)).map fun i=>at_ / 64+i
def vC(s:DS)(f:Int)(at_:Nat)(t:ByteArray):DS :=
 if t=⟨#[]⟩ then s else { s with fs:=upd s.fs f ⟨zF (s.fs f).now at_ t,(s.fs f).last⟩,queue:=HV f s.queue (secs at_ t.size) }
def vJ(s:DS)(f at_:Int)(t:ByteArray):Int:=if wP s f≠0 then wP s f else if at_<0 then 1 else if 16777216<at_ then 6 else if 16777216-at_<t.size then 6 else 0
def ZB(s:DS)(f at_:Int)(t:ByteArray):DS:=if vJ s f at_ t=0 then vC s f at_.toNat t else s
def tT(now:ByteArray)(n:Nat):ByteArray:=ofL (((bl now).take (min (n+64) now.size)).drop n)
def kU(keep:List Int)(i:Nat)(q:Sec)(fs:Int→JA):Int→JA :=
 if keep=[] then fs else if keep.getD (i % keep.length) 0 % 2=0 then fs else if(fs q.file).now.size≤64 * q.number.toNat then fs else upd fs q.file ⟨(fs q.file).now,zF (fs q.file).last (64 * q.number.toNat) (tT (fs q.file).now (64 * q.number.toNat))⟩
def ZC(keep:List Int)(qs:List Sec)(fs:Int→JA):Nat→Int→JA
 | 0=>fs
 | i+1=>kU keep i (qs.getD i ⟨0,0⟩) (ZC keep qs fs i)
def rA(s:DS)(keep:List Int):DS :=
 if s.down=true then s else { s with fs:=fun f=>⟨(ZC keep s.queue s.fs s.queue.length f).last,(ZC keep s.queue s.fs s.queue.length f).last⟩,queue:=[],down:=true,armed:=0 }
def bP(s:DS):Bool:=!s.down&&(!decide (s.armed=0)&&decide (s.armed-1=0))
def d_(s:DS):DS:=if s.down=true∨s.armed=0 then s else { s with armed:=s.armed-1 }
def F8(s:DS)(f at_:Int)(t:ByteArray):DS×Int:=if bP s=true then(rA (ZB (d_ s) f at_ t) (ZB (d_ s) f at_ t).keep,9) else(ZB (d_ s) f at_ t,vJ (d_ s) f at_ t)
def FB(s:DS):DS:=if bP s=true then rA (d_ s) (d_ s).keep else d_ s
def UH(s:DS)(f:Int)(x:ByteArray):DS:={ s with fs:=upd s.fs f ⟨x,x⟩,queue:=s.queue.filter fun q=>!decide (q.file=f) }
def y7(s:DS)(f:Int):DS×Int :=
 if wP (FB s) f≠0 then(FB s,wP (FB s) f) else if 0<(FB s).lost then({ FB s with lost:=(FB s).lost-1 },10) else(UH (FB s) f ((FB s).fs f).now,0)
def GD(s:DS)(f at_ size:Int):ByteArray×Int :=
 if wP s f≠0 then(⟨#[]⟩,wP s f) else if at_<0 then(⟨#[]⟩,1) else if size<0 then(⟨#[]⟩,1) else(ofL (((bl (s.fs f).now).drop at_.toNat).take size.toNat),0)
structure DOk (s:DS):Prop where
 now:∀f,(s.fs f).now.size≤16777216
 last:∀f,(s.fs f).last.size≤16777216
 q:∀q∈s.queue,(0≤q.file∧q.file<16)∧0≤q.number∧q.number<262144
 nd:s.queue.Nodup
 lost:0≤s.lost∧s.lost≤9223372036854775807
 armed:0≤s.armed∧s.armed≤9223372036854775807
theorem dr0:∀(n:Nat) (l:List Nat),l.Nodup→(∀x∈l,x<n)→l.length≤n
 | 0,l,_,h=>by
  cases l with
  | nil=>exact Nat.le_refl _
  | cons a l=>exact absurd (h a List.mem_cons_self) (Nat.not_lt_zero a)
 | n+1,l,hn,h=>by
  have h1:=dr0 n (l.filter fun x=>decide (x≠n)) (hn.filter _) fun x hx=>by
   obtain⟨h2,h3⟩:=List.mem_filter.1 hx
   have:=h x h2
   have:=of_decide_eq_true h3
   omega
  have h2:∀l:List Nat,l.Nodup→l.length≤(l.filter fun x=>decide (x≠n)).length+1:=by
   intro l
   induction l with
   | nil=>intro _;simp
   | cons a l ih =>
    intro hn
    rw[List.nodup_cons] at hn
    rw[List.filter_cons]
    by_cases e:a=n
    ·subst e
     rw[if_neg (by simp)]
     rw[List.filter_eq_self.2 fun x hx=>decide_eq_true (p:=x≠a) fun e=>hn.1 (e ▸ hx)]
     simp
    ·rw[if_pos (by simp [e])]
     have:=ih hn.2
     simp only[List.length_cons]
     omega
  have:=h2 l hn
  omega
theorem DOk.rM0{s:DS}(h:DOk s):s.queue.length≤4194304:=by
 have:(s.queue.map fun q:Sec=>q.file.toNat * 262144+q.number.toNat).length≤4194304:=by
  refine dr0 _ _ ?_ fun x hx=>?_
  ·rw[List.nodup_iff_pairwise_ne,List.pairwise_map,List.pairwise_iff_getElem]
   intro i j hi hj hij e
   have h1:=h.q _ (List.getElem_mem hi)
   have h2:=h.q _ (List.getElem_mem hj)
   have h3:=List.nodup_iff_pairwise_ne.1 h.nd
   rw[List.pairwise_iff_getElem] at h3
   refine h3 i j hi hj hij ?_
   have e1:s.queue[i].file=s.queue[j].file:=by omega
   have e2:s.queue[i].number=s.queue[j].number:=by omega
   generalize s.queue[i]=a at e1 e2
   generalize s.queue[j]=b at e1 e2
   obtain⟨a1,a2⟩:=a
   obtain⟨b1,b2⟩:=b
   simp only at e1 e2
   rw[e1,e2]
  ·obtain⟨q,hq,rfl⟩:=List.mem_map.1 hx
   have:=h.q q hq
   omega
 simpa using this
theorem dx0:DOk wB:=⟨fun _=>Nat.zero_le _,fun _=>Nat.zero_le _,fun q hq=>(by cases hq),List.nodup_nil,by decide,by decide⟩
theorem MN{s t:ByteArray}{at_:Nat}:(zF s at_ t).size=if t=⟨#[]⟩ then s.size else max s.size (at_+t.size):=by
 unfold zF
 split
 ·rfl
 ·rw[J_,rr0,y8,y8]
theorem zJ{f:Int}{ns:List Nat}:∀{q:List Sec} {x:Sec},x∈HV f q ns↔x∈q∨∃n∈ns,x=⟨f,n⟩:=by
 induction ns with
 | nil=>intro q x;simp [HV]
 | cons n ns ih =>
  intro q x
  unfold HV at ih ⊢
  rw[List.foldl_cons,ih]
  unfold Uk0
  constructor
  ·rintro(h | ⟨m,hm,rfl⟩)
   ·split at h
    ·exact .inl h
    ·rcases List.mem_append.1 h with h | h
     ·exact .inl h
     ·simp at h;exact .inr ⟨n,List.mem_cons_self,h⟩
   ·exact .inr ⟨m,List.mem_cons_of_mem _ hm,rfl⟩
  ·rintro(h | ⟨m,hm,rfl⟩)
   ·left
    split
    ·exact h
    ·exact List.mem_append_left _ h
   ·rcases List.mem_cons.1 hm with rfl | hm
    ·left
     split
     ·assumption
     ·exact List.mem_append_right _ (by simp)
    ·exact .inr ⟨m,hm,rfl⟩
theorem it0{f:Int}{ns:List Nat}:∀{q:List Sec},q.Nodup→(HV f q ns).Nodup:=by
 induction ns with
 | nil=>intro q h;exact h
 | cons n ns ih =>
  intro q h
  unfold HV at ih ⊢
  rw[List.foldl_cons]
  refine ih ?_
  unfold Uk0
  split
  ·exact h
  ·rename_i hn
   rw[List.nodup_append]
   refine⟨h,by simp,fun a ha b hb=>?_⟩
   simp at hb
   subst hb
   rintro rfl
   exact hn ha
theorem ic0{at_ n m:Nat}(hn:0<n):m∈secs at_ n↔at_ / 64≤m∧m≤(at_+n-1) / 64:=by
 unfold secs
 rw[List.mem_map]
 constructor
 ·rintro⟨i,hi,rfl⟩
  have:=List.mem_range.1 hi
  omega
 ·intro h
  exact⟨m-at_ / 64,List.mem_range.2 (by omega),by omega⟩
theorem size_pos{t:ByteArray}(h:¬t=⟨#[]⟩):0<t.size:=by
 rw[←y8]
 exact List.length_pos_iff.2 fun e=>h (ZC0.2 e)
theorem DOk.add{s:DS}(h:DOk s){f:Int}(hf:0≤f∧f<16){at_:Nat}{t:ByteArray}(hfit:at_+t.size≤16777216):DOk (vC s f at_ t):=by
 unfold vC
 split
 ·exact h
 ·rename_i ht
  have hpos:=size_pos ht
  refine⟨fun g=>?_,fun g=>?_,fun q hq=>?_,it0 h.nd,h.lost,h.armed⟩
  ·show (upd s.fs f _ g).now.size≤_
   unfold upd
   split
   ·show (zF _ _ _).size≤_
    rw[MN,if_neg ht]
    have:=h.now f
    omega
   ·exact h.now g
  ·show (upd s.fs f _ g).last.size≤_
   unfold upd
   split
   ·exact h.last f
   ·exact h.last g
  ·rcases zJ.1 hq with hq | ⟨n,hn,rfl⟩
   ·exact h.q q hq
   ·have:=(ic0 hpos).1 hn
    exact⟨hf,by show 0≤(n:Int)∧(n:Int)<262144;omega⟩
theorem Qf0{s:DS}{f at_:Int}{t:ByteArray}:vJ s f at_ t=0↔wP s f=0∧0≤at_∧at_+t.size≤16777216:=by
 unfold vJ
 by_cases h:wP s f=0
 ·rw[if_neg (by simpa using h)]
  constructor
  ·intro h2
   split at h2
   ·cases h2
   ·split at h2
    ·cases h2
    ·split at h2
     ·cases h2
     ·exact⟨h,by omega,by omega⟩
  ·rintro⟨_,h1,h2⟩
   rw[if_neg (by omega),if_neg (by omega),if_neg (by omega)]
 ·rw[if_pos h]
  exact⟨fun e=>absurd e h,fun e=>absurd e.1 h⟩
theorem DOk.write{s:DS}(h:DOk s)(f at_:Int)(t:ByteArray):DOk (ZB s f at_ t):=by
 unfold ZB
 split
 ·rename_i he
  obtain⟨h1,h2,h3⟩:=Qf0.1 he
  exact h.add (BL.1 h1).2 (by omega)
 ·exact h
theorem gW{now:ByteArray}{n:Nat}:(tT now n).size=min (n+64) now.size-n:=by
 unfold tT
 rw[J_,List.length_drop,List.length_take,y8]
 omega
theorem YZ{keep:List Int}{qs:List Sec}{fs:Int→JA}(h1:∀f,(fs f).now.size≤16777216)(h2:∀f,(fs f).last.size≤16777216)(n:Nat) :
  (∀f,(ZC keep qs fs n f).now=(fs f).now)∧∀f,(ZC keep qs fs n f).last.size≤16777216:=by
 induction n with
 | zero=>exact⟨fun _=>rfl,h2⟩
 | succ n ih =>
  unfold ZC kU
  split
  ·exact ih
  ·split
   ·exact ih
   ·split
    ·exact ih
    ·rename_i hlt
     refine⟨fun f=>?_,fun f=>?_⟩
     ·unfold upd
      split
      ·rename_i e;rw[e];exact ih.1 _
      ·exact ih.1 f
     ·unfold upd
      split
      ·show (zF _ _ _).size≤_
       rw[MN]
       split
       ·exact ih.2 _
       ·have:=ih.2 (qs.getD n ⟨0,0⟩).file
        have e:=ih.1 (qs.getD n ⟨0,0⟩).file
        have:=h1 (qs.getD n ⟨0,0⟩).file
        rw[e] at hlt
        rw[gW,e]
        omega
      ·exact ih.2 f
theorem DOk.IK{s:DS}(h:DOk s)(keep:List Int):DOk (rA s keep):=by
 unfold rA
 split
 ·exact h
 ·have:=(YZ (keep:=keep) (qs:=s.queue) h.now h.last s.queue.length).2
  exact⟨this,this,fun q hq=>(by cases hq),List.nodup_nil,h.lost,(by show (0:Int)≤0∧(0:Int)≤9223372036854775807;decide)⟩
theorem DOk.ends{s:DS}(h:DOk s):DOk (d_ s):=by
 unfold d_
 split
 ·exact h
 ·rename_i hn
  have:s.armed≠0:=fun e=>hn (.inr e)
  have:=h.armed
  exact⟨h.now,h.last,h.q,h.nd,h.lost,by show 0≤s.armed-1∧s.armed-1≤_;omega⟩
theorem DOk.come{s:DS}(h:DOk s):DOk (FB s):=by
 unfold FB
 split
 ·exact h.ends.IK _
 ·exact h.ends
theorem DOk.settle{s:DS}(h:DOk s)(f:Int){x:ByteArray}(hx:x.size≤16777216):DOk (UH s f x):=by
 refine⟨fun g=>?_,fun g=>?_,fun q hq=>h.q q (List.mem_filter.1 hq).1,h.nd.filter _,h.lost,h.armed⟩
 ·show (upd s.fs f _ g).now.size≤_
  unfold upd
  split
  ·exact hx
  ·exact h.now g
 ·show (upd s.fs f _ g).last.size≤_
  unfold upd
  split
  ·exact hx
  ·exact h.last g
theorem DOk.F8{s:DS}(h:DOk s)(f at_:Int)(t:ByteArray):DOk (F8 s f at_ t).1:=by
 unfold Go.Proofs.YtngbebnhegcokaaGreatDoor.F8
 split
 ·exact(h.ends.write f at_ t).IK _
 ·exact h.ends.write f at_ t
theorem DOk.y7{s:DS}(h:DOk s)(f:Int):DOk (y7 s f).1:=by
 unfold Go.Proofs.YtngbebnhegcokaaGreatDoor.y7
 have hc:=h.come
 split
 ·exact hc
 ·split
  ·rename_i hl
   have:=hc.lost
   exact⟨hc.now,hc.last,hc.q,hc.nd,by show 0≤(FB s).lost-1∧(FB s).lost-1≤_;omega,hc.armed⟩
  ·exact hc.settle f (hc.now f)
end Go.Proofs.YtngbebnhegcokaaGreatDoor
namespace Go.Proofs.YtngbebnhegcokaaGreatDoor
open Go.Proofs.Tryz (prog)
open Go.RowKit
set_option maxRecDepth 100000
theorem wQ{B:Base}{v:Value}{l:List ByteArray}(r:Q4 v l B)(hl:l.length * 16≤140737488355328)(hl2:l.length≤140737488355328):Makes prog B (Z0 xD #[v]) fun v' τ=>τ=[V3 U2 v' l]:=by
 refine Makes.intro fun B' w K base h k=>?_
 replace r:=base r
 refine iC.up ?_
 unfold iC.pt
 obtain⟨a,cap,rfl,_⟩:=Q4.form r
 simp -zeta only[EG Zs0]
 rw[Q5]
 refine⟨fun e=>?_,fun e=>?_⟩
 ·have:a=none:=by cases a<;>simp_all
  subst this
  obtain⟨_,_,he,_,h0⟩:=r
  have hl0:l=[]:=by
   rcases h0 with h0 | ⟨g,o,h0,_⟩
   ·exact h0
   ·cases he;cases h0
  subst hl0
  exact k _ _ _ rfl (h.oG ByteArray U2)
 ·refine h.vZ (α:=ByteArray) U6 fun v1 w1 h nv=>?_
  refine h.append 0 rfl U6 (Rd.base r) (by simpa using hl) (by simpa using hl2) fun v2 w2 h=>?_
  exact k _ _ _ rfl h
theorem rM{B:Base}{v:Value}{l:List R9}(r:Q4 v l B)(hl:l.length * 32≤140737488355328)(hl2:l.length≤140737488355328):Makes prog B (Z0 IB #[v]) fun v' τ=>τ=[V3 R3 v' l]:=by
 refine Makes.intro fun B' w K base h k=>?_
 replace r:=base r
 refine IA.up ?_
 unfold IA.pt
 obtain⟨a,cap,rfl,_⟩:=Q4.form r
 simp -zeta only[EG jk0]
 rw[Q5]
 refine⟨fun e=>?_,fun e=>?_⟩
 ·have:a=none:=by cases a<;>simp_all
  subst this
  obtain⟨_,_,he,_,h0⟩:=r
  have hl0:l=[]:=by
   rcases h0 with h0 | ⟨g,o,h0,_⟩
   ·exact h0
   ·cases he;cases h0
  subst hl0
  exact k _ _ _ rfl (h.oG R9 R3)
 ·refine h.vZ (α:=R9) M_ fun v1 w1 h nv=>?_
  refine h.append 0 rfl M_ (Rd.base r) (by simpa using hl) (by simpa using hl2) fun v2 w2 h=>?_
  exact k _ _ _ rfl h
theorem aP{B:Base}{v:Value}{l:List ZK}(r:Q4 v l B)(hl:l.length * 40≤140737488355328)(hl2:l.length≤140737488355328):Makes prog B (Z0 OC #[v]) fun v' τ=>τ=[V3 cB v' l]:=by
 refine Makes.intro fun B' w K base h k=>?_
 replace r:=base r
 refine BB.up ?_
 unfold BB.pt
 obtain⟨a,cap,rfl,_⟩:=Q4.form r
 simp -zeta only[EG kp0]
 rw[Q5]
 refine⟨fun e=>?_,fun e=>?_⟩
 ·have:a=none:=by cases a<;>simp_all
  subst this
  obtain⟨_,_,he,_,h0⟩:=r
  have hl0:l=[]:=by
   rcases h0 with h0 | ⟨g,o,h0,_⟩
   ·exact h0
   ·cases he;cases h0
  subst hl0
  exact k _ _ _ rfl (h.oG ZK cB)
 ·refine h.vZ (α:=ZK) QO fun v1 w1 h nv=>?_
  refine h.append 0 rfl QO (Rd.base r) (by simpa using hl) (by simpa using hl2) fun v2 w2 h=>?_
  exact k _ _ _ rfl h
theorem S_{B:Base}{v:Value}{l:List WH}(r:Q4 v l B)(hl:l.length * 24≤140737488355328)(hl2:l.length≤140737488355328):Makes prog B (Z0 N8 #[v]) fun v' τ=>τ=[V3 U3 v' l]:=by
 refine Makes.intro fun B' w K base h k=>?_
 replace r:=base r
 refine CB.up ?_
 unfold CB.pt
 obtain⟨a,cap,rfl,_⟩:=Q4.form r
 simp -zeta only[EG np0]
 rw[Q5]
 refine⟨fun e=>?_,fun e=>?_⟩
 ·have:a=none:=by cases a<;>simp_all
  subst this
  obtain⟨_,_,he,_,h0⟩:=r
  have hl0:l=[]:=by
   rcases h0 with h0 | ⟨g,o,h0,_⟩
   ·exact h0
   ·cases he;cases h0
  subst hl0
  exact k _ _ _ rfl (h.oG WH U3)
 ·refine h.vZ (α:=WH) U5 fun v1 w1 h nv=>?_
  refine h.append 0 rfl U5 (Rd.base r) (by simpa using hl) (by simpa using hl2) fun v2 w2 h=>?_
  exact k _ _ _ rfl h
theorem sI{B:Base}{v:Value}{l:List Int}(r:Q4 v l B)(hl:l.length * 8≤140737488355328)(hl2:l.length≤140737488355328):Makes prog B (Z0 VB #[v]) fun v' τ=>τ=[V3 Q0 v' l]:=by
 refine Makes.intro fun B' w K base h k=>?_
 replace r:=base r
 refine oF.up ?_
 unfold oF.pt
 obtain⟨a,cap,rfl,_⟩:=Q4.form r
 simp -zeta only[EG TG0]
 rw[Q5]
 refine⟨fun e=>?_,fun e=>?_⟩
 ·have:a=none:=by cases a<;>simp_all
  subst this
  obtain⟨_,_,he,_,h0⟩:=r
  have hl0:l=[]:=by
   rcases h0 with h0 | ⟨g,o,h0,_⟩
   ·exact h0
   ·cases he;cases h0
  subst hl0
  exact k _ _ _ rfl (h.oG Int Q0)
 ·refine h.vZ (α:=Int) C9 fun v1 w1 h nv=>?_
  refine h.append 0 rfl C9 (Rd.base r) (by simpa using hl) (by simpa using hl2) fun v2 w2 h=>?_
  exact k _ _ _ rfl h
theorem jC{B:Base}{v f:Value}{l:List QD}(r:Q4 v l B)(hl:l.length≤4611686018427387904)(p:QD→Bool)
  (hf:∀B':Base,(∀{d:Dat},d B→d B')→∀x∈l,Gives prog B' (aA f #[Enc.val x]) (.bool (p x))):Gives prog B (Z0 Q_ #[v,f]) (.int .i64 (kV p l)):=by
 refine Gives.intro fun B' w K base h k=>?_
 replace r:=base r
 refine N9.up ?_
 unfold N9.pt
 simp -zeta only[Q4.len r L6]
 refine M6 (fun x w'=>∃i:Nat,i≤l.length∧x=(.int .i64 i,())∧(∀x∈l.take i,p x=false)∧Rel B' w' []) (fun x _=>l.length-(match x.1 with | .int _ n=>n.toNat | _=>0)) ⟨0,Nat.zero_le _,rfl,(fun x hx=>by simp at hx),h⟩ ?_
 clear h
 rintro x w1 ⟨i,hi,rfl,hno,h⟩ next hnext
 simp -zeta only[D6,K3]
 refine⟨fun hlt=>?_,fun hge=>?_⟩
 ·have hil:i<l.length:=by omega
  obtain⟨g,o,hx,hc⟩:=Q4.idx r L6 hil
  simp -zeta only[hx,F6.Q9 (h.K6 hc) E8 rfl]
  refine h.ask (fun B2 own base2=>hf B2 (fun hd=>base2 (base hd)) l[i] (List.getElem_mem hil)) fun w2 h=>?_
  rw[Q5]
  refine⟨fun e=>?_,fun e=>?_⟩
  ·rw[mV hil hno e] at k
   exact k _ _ h
  ·rw[V5,D5 (by omega) (by omega)]
   refine hnext _ _ ⟨i+1,by omega,rfl,?_,h⟩ (by simp only;omega)
   intro x hx
   rw[List.take_succ_eq_append_getElem hil] at hx
   rcases List.mem_append.1 hx with hx | hx
   ·exact hno x hx
   ·simp only[List.mem_cons,List.not_mem_nil,or_false] at hx
    subst hx;exact e
 ·have:i=l.length:=by omega
  subst this
  rw[List.take_length] at hno
  rw[lV hno] at k
  exact k _ _ h
theorem qK{B:Base}{v f:Value}{l:List FI}(r:Q4 v l B)(hl:l.length≤4611686018427387904)(p:FI→Bool)
  (hf:∀B':Base,(∀{d:Dat},d B→d B')→∀x∈l,Gives prog B' (aA f #[Enc.val x]) (.bool (p x))):Gives prog B (Z0 UA #[v,f]) (.int .i64 (kV p l)):=by
 refine Gives.intro fun B' w K base h k=>?_
 replace r:=base r
 refine N_.up ?_
 unfold N_.pt
 simp -zeta only[Q4.len r jE]
 refine M6 (fun x w'=>∃i:Nat,i≤l.length∧x=(.int .i64 i,())∧(∀x∈l.take i,p x=false)∧Rel B' w' []) (fun x _=>l.length-(match x.1 with | .int _ n=>n.toNat | _=>0)) ⟨0,Nat.zero_le _,rfl,(fun x hx=>by simp at hx),h⟩ ?_
 clear h
 rintro x w1 ⟨i,hi,rfl,hno,h⟩ next hnext
 simp -zeta only[D6,K3]
 refine⟨fun hlt=>?_,fun hge=>?_⟩
 ·have hil:i<l.length:=by omega
  obtain⟨g,o,hx,hc⟩:=Q4.idx r jE hil
  simp -zeta only[hx,F6.Q9 (h.K6 hc) yR rfl]
  refine h.ask (fun B2 own base2=>hf B2 (fun hd=>base2 (base hd)) l[i] (List.getElem_mem hil)) fun w2 h=>?_
  rw[Q5]
  refine⟨fun e=>?_,fun e=>?_⟩
  ·rw[mV hil hno e] at k
   exact k _ _ h
  ·rw[V5,D5 (by omega) (by omega)]
   refine hnext _ _ ⟨i+1,by omega,rfl,?_,h⟩ (by simp only;omega)
   intro x hx
   rw[List.take_succ_eq_append_getElem hil] at hx
   rcases List.mem_append.1 hx with hx | hx
   ·exact hno x hx
   ·simp only[List.mem_cons,List.not_mem_nil,or_false] at hx
    subst hx;exact e
 ·have:i=l.length:=by omega
  subst this
  rw[List.take_length] at hno
  rw[lV hno] at k
  exact k _ _ h
theorem DI{B:Base}{v f:Value}{l:List F9}(r:Q4 v l B)(hl:l.length≤4611686018427387904)(p:F9→Bool)
  (hf:∀B':Base,(∀{d:Dat},d B→d B')→∀x∈l,Gives prog B' (aA f #[Enc.val x]) (.bool (p x))):Gives prog B (Z0 X_ #[v,f]) (.int .i64 (kV p l)):=by
 refine Gives.intro fun B' w K base h k=>?_
 replace r:=base r
 refine a_.up ?_
 unfold a_.pt
 simp -zeta only[Q4.len r dA]
 refine M6 (fun x w'=>∃i:Nat,i≤l.length∧x=(.int .i64 i,())∧(∀x∈l.take i,p x=false)∧Rel B' w' []) (fun x _=>l.length-(match x.1 with | .int _ n=>n.toNat | _=>0)) ⟨0,Nat.zero_le _,rfl,(fun x hx=>by simp at hx),h⟩ ?_
 clear h
 rintro x w1 ⟨i,hi,rfl,hno,h⟩ next hnext
 simp -zeta only[D6,K3]
 refine⟨fun hlt=>?_,fun hge=>?_⟩
 ·have hil:i<l.length:=by omega
  obtain⟨g,o,hx,hc⟩:=Q4.idx r dA hil
  simp -zeta only[hx,F6.Q9 (h.K6 hc) I9 rfl]
  refine h.ask (fun B2 own base2=>hf B2 (fun hd=>base2 (base hd)) l[i] (List.getElem_mem hil)) fun w2 h=>?_
  rw[Q5]
  refine⟨fun e=>?_,fun e=>?_⟩
  ·rw[mV hil hno e] at k
   exact k _ _ h
  ·rw[V5,D5 (by omega) (by omega)]
   refine hnext _ _ ⟨i+1,by omega,rfl,?_,h⟩ (by simp only;omega)
   intro x hx
   rw[List.take_succ_eq_append_getElem hil] at hx
   rcases List.mem_append.1 hx with hx | hx
   ·exact hno x hx
   ·simp only[List.mem_cons,List.not_mem_nil,or_false] at hx
    subst hx;exact e
 ·have:i=l.length:=by omega
  subst this
  rw[List.take_length] at hno
  rw[lV hno] at k
  exact k _ _ h
theorem DR{B:Base}{v f:Value}{l:List Int}(r:Q4 v l B)(hl:l.length≤4611686018427387904)(p:Int→Bool)
  (hf:∀B':Base,(∀{d:Dat},d B→d B')→∀x∈l,Gives prog B' (aA f #[Enc.val x]) (.bool (p x))):Gives prog B (Z0 IE #[v,f]) (.int .i64 (kV p l)):=by
 refine Gives.intro fun B' w K base h k=>?_
 replace r:=base r
 refine YC.up ?_
 unfold YC.pt
 simp -zeta only[Q4.len r C9]
 refine M6 (fun x w'=>∃i:Nat,i≤l.length∧x=(.int .i64 i,())∧(∀x∈l.take i,p x=false)∧Rel B' w' []) (fun x _=>l.length-(match x.1 with | .int _ n=>n.toNat | _=>0)) ⟨0,Nat.zero_le _,rfl,(fun x hx=>by simp at hx),h⟩ ?_
 clear h
 rintro x w1 ⟨i,hi,rfl,hno,h⟩ next hnext
 simp -zeta only[D6,K3]
 refine⟨fun hlt=>?_,fun hge=>?_⟩
 ·have hil:i<l.length:=by omega
  obtain⟨g,o,hx,hc⟩:=Q4.idx r C9 hil
  simp -zeta only[hx,F6.ld0 (h.K6 hc) F3 rfl]
  refine h.ask (fun B2 own base2=>hf B2 (fun hd=>base2 (base hd)) l[i] (List.getElem_mem hil)) fun w2 h=>?_
  rw[Q5]
  refine⟨fun e=>?_,fun e=>?_⟩
  ·rw[mV hil hno e] at k
   exact k _ _ h
  ·rw[V5,D5 (by omega) (by omega)]
   refine hnext _ _ ⟨i+1,by omega,rfl,?_,h⟩ (by simp only;omega)
   intro x hx
   rw[List.take_succ_eq_append_getElem hil] at hx
   rcases List.mem_append.1 hx with hx | hx
   ·exact hno x hx
   ·simp only[List.mem_cons,List.not_mem_nil,or_false] at hx
    subst hx;exact e
 ·have:i=l.length:=by omega
  subst this
  rw[List.take_length] at hno
  rw[lV hno] at k
  exact k _ _ h
theorem sK{B:Base}{v f:Value}{l:List R9}(r:Q4 v l B)(hl:l.length≤4611686018427387904)(p:R9→Bool)
  (hf:∀B':Base,(∀{d:Dat},d B→d B')→∀x∈l,Gives prog B' (aA f #[Enc.val x]) (.bool (p x))):Gives prog B (Z0 VA #[v,f]) (.int .i64 (kV p l)):=by
 refine Gives.intro fun B' w K base h k=>?_
 replace r:=base r
 refine O_.up ?_
 unfold O_.pt
 simp -zeta only[Q4.len r M_]
 refine M6 (fun x w'=>∃i:Nat,i≤l.length∧x=(.int .i64 i,())∧(∀x∈l.take i,p x=false)∧Rel B' w' []) (fun x _=>l.length-(match x.1 with | .int _ n=>n.toNat | _=>0)) ⟨0,Nat.zero_le _,rfl,(fun x hx=>by simp at hx),h⟩ ?_
 clear h
 rintro x w1 ⟨i,hi,rfl,hno,h⟩ next hnext
 simp -zeta only[D6,K3]
 refine⟨fun hlt=>?_,fun hge=>?_⟩
 ·have hil:i<l.length:=by omega
  obtain⟨g,o,hx,hc⟩:=Q4.idx r M_ hil
  simp -zeta only[hx,F6.Q9 (h.K6 hc) Z7 rfl]
  refine h.ask (fun B2 own base2=>hf B2 (fun hd=>base2 (base hd)) l[i] (List.getElem_mem hil)) fun w2 h=>?_
  rw[Q5]
  refine⟨fun e=>?_,fun e=>?_⟩
  ·rw[mV hil hno e] at k
   exact k _ _ h
  ·rw[V5,D5 (by omega) (by omega)]
   refine hnext _ _ ⟨i+1,by omega,rfl,?_,h⟩ (by simp only;omega)
   intro x hx
   rw[List.take_succ_eq_append_getElem hil] at hx
   rcases List.mem_append.1 hx with hx | hx
   ·exact hno x hx
   ·simp only[List.mem_cons,List.not_mem_nil,or_false] at hx
    subst hx;exact e
 ·have:i=l.length:=by omega
  subst this
  rw[List.take_length] at hno
  rw[lV hno] at k
  exact k _ _ h
theorem kJ{B:Base}{v f:Value}{l:List R9}(r:Q4 v l B)(hl:l.length≤4611686018427387904)(p:R9→Bool)
  (hf:∀B':Base,(∀{d:Dat},d B→d B')→∀x∈l,Gives prog B' (aA f #[Enc.val x]) (.bool (p x))):Gives prog B (Z0 nA #[v,f]) (.bool (l.any p)):=by
 refine Gives.intro fun B' w K base h k=>?_
 replace r:=base r
 refine l_.up ?_
 unfold l_.pt
 refine h.ask (fun B2 own base2=>sK (base2 r) hl p fun B3 base3 x hx=>hf B3 (fun hd=>base3 (base2 (base hd))) x hx) fun w1 h=>?_
 have e:decide (0≤kV p l)=l.any p:=by
  rw[Bool.eq_iff_iff,decide_eq_true_eq,List.any_eq_true]
  constructor
  ·intro h0
   have:=(Qg0 (p:=p) (l:=l)).1
   refine Classical.byContradiction fun hno=>?_
   have:=this.2 fun x hx=>by
    cases hp:p x with
    | false=>rfl
    | true=>exact absurd ⟨x,hx,hp⟩ hno
   omega
  ·rintro⟨x,hx,hp⟩
   have:=(Qg0 (p:=p) (l:=l)).1
   refine Int.not_lt.1 fun hlt=>?_
   rw[this.1 hlt x hx] at hp
   cases hp
 simp -zeta only[LD,e]
 exact k _ _ h
theorem lI{B:Base}{v f:Value}{l:List F9}(hl:l.length≤4611686018427387904)(p:F9→Bool)
  (hf:∀B':Base,(∀{d:Dat},d B→d B')→∀x∈l,Gives prog B' (aA f #[Enc.val x]) (.bool (p x))):Does prog B (V3 O4 v l) (Z0 V_ #[v,f]) fun u e' τ=>e'=V3 O4 u (l.filter fun x=>!p x)∧τ=[]:=by
 refine Does.intro fun B' w K base h k=>?_
 refine T9.up ?_
 unfold T9.pt
 refine h.ask (fun B2 own base2=>DI (V3.read (own (i:=0) rfl)) hl p fun B3 base3 x hx=>hf B3 (fun hd=>base3 (base2 (base hd))) x hx) fun w1 h=>?_
 simp -zeta only[O6,K3]
 refine⟨fun e=>?_,fun e=>?_⟩
 ·have hno:=(Qg0 (p:=p) (l:=l)).1.1 (by omega)
  have hfl:(l.filter fun x=>!p x)=l:=List.filter_eq_self.2 fun x hx=>by simp [hno x hx]
  rw[hfl] at k
  exact k _ _ _ _ ⟨rfl,rfl⟩ h
 ·obtain⟨m,hm,hml,hmp,hmno⟩:∃m:Nat,kV p l=m∧∃hm:m<l.length,p l[m]=true∧∀x∈l.take m,p x=false:=by
   unfold kV at e ⊢
   split at e
   ·rename_i i hi
    obtain⟨h1,h2,h3⟩:=List.findIdx?_eq_some_iff_getElem.1 hi
    refine⟨i,rfl,h1,h2,fun x hx=>?_⟩
    obtain⟨j,hj,rfl⟩:=List.getElem_of_mem hx
    have:=h3 j (by simp at hj;omega)
    simp at this ⊢
    exact this
   ·exact absurd rfl e
  rw[hm]
  obtain⟨g,cap,rfl⟩:=h.open_ (i:=0) rfl (by omega)
  simp -zeta only[V5]
  rw[D5 (by omega) (by omega)]
  refine M6 (fun x w'=>∃(i j:Nat) (l':List F9),j≤l.length∧i<j∧x=(.int .i64 i,.int .i64 j,())∧l'.length=l.length∧l'.take i=(l.take j).filter (fun x=>!p x)∧l'.drop j=l.drop j∧Rel B' w' [V3 O4 (.slice (some ⟨g,0,none⟩) l.length cap) l'])
   (fun x _=>l.length-(match x.2.1 with | .int _ n=>n.toNat | _=>0)) ⟨m,m+1,l,by omega,by omega,by simp,rfl,?_,rfl,h⟩ ?_
  ·rw[List.take_succ_eq_append_getElem hml,List.filter_append,List.filter_eq_self.2 fun x hx=>by simp [hmno x hx]]
   simp [hmp]
  clear h
  rintro x w2 ⟨i,j,l',hj,hij,rfl,hl',ht,hd,h⟩ next hnext
  have hrd:=V3.read (h.here (i:=0) rfl)
  simp -zeta only[Q4.len hrd dA,hl',D6,K3]
  refine⟨fun hlt=>?_,fun hge=>?_⟩
  ·have hjl:j<l.length:=by omega
   have hjl':j<l'.length:=by omega
   have hel:l'[j]=l[j]:=by
    have h1:(l'.drop j)[0]? = (l.drop j)[0]? := by rw[hd]
    simpa [hjl,hjl'] using h1
   have hd1:l'.drop (j+1)=l.drop (j+1):=by
    have:=congrArg (List.drop 1) hd
    simpa using this
   have hs:(l.take (j+1)).filter (fun x=>!p x)=(l.take j).filter (fun x=>!p x)++(if p l[j]=true then [] else [l[j]]):=by
    rw[List.take_succ_eq_append_getElem hjl,List.filter_append]
    congr 1
    cases hp:p l[j]<;>simp [hp]
   refine Q6 fun J hJ=>?_
   replace hJ:∀w' (i:Nat) (l':List F9),i<j+1→l'.length=l.length→l'.take i=(l.take (j+1)).filter (fun x=>!p x)→l'.drop (j+1)=l.drop (j+1)→Rel B' w' [V3 O4 (.slice (some ⟨g,0,none⟩) l.length cap) l']→J (.int .i64 i,()) w':=by
    intro w' i l' h1 h2 h3 h4 h5
    refine hJ _ _ ?_
    show M0 _ _ _
    rw[V5,D5 (by omega) (by omega)]
    exact hnext _ _ ⟨i,j+1,l',by omega,h1,rfl,h2,h3,h4,h5⟩ (by simp only;omega)
   clear hnext
   have hc:=h.elem (α:=F9) (i:=0) (j:=j) rfl hjl'
   rw[hel] at hc
   simp -zeta only[eY (α:=F9) dA hjl,F6.Q9 hc I9 rfl]
   refine h.r9 (ds:=(l[j]:F9).cs.toArray) qQ rfl I9 rfl (fun v hv=>Enc.one l[j] v hv) fun b w3 h=>?_
   simp -zeta only[h.Q9 1 rfl I9 rfl]
   refine h.ask (fun B2 own base2=>hf B2 (fun hd=>base2 (base hd)) l[j] (List.getElem_mem hjl)) fun w4 h=>?_
   simp -zeta only[V8,K5]
   rw[Q5]
   refine⟨fun hp=>?_,fun hp=>?_⟩
   ·refine hJ w4 i l' (by omega) hl' ?_ hd1 (h.take 1)
    rw[hs,if_pos hp,ht,List.append_nil]
   ·simp -zeta only[h.Q9 1 rfl I9 rfl,eY (α:=F9) dA (show i<l.length by omega)]
    refine h.Eo0 (α:=F9) 0 rfl l[j] (j:=i) (by omega) I9 rfl rfl fun w5 h=>?_
    simp -zeta only[V5]
    rw[D5 (by omega) (by omega)]
    refine hJ w5 (i+1) (l'.set i l[j]) (by omega) (by simp [hl']) ?_ ?_ (h.take 1)
    ·rw[hs,if_neg (by rw[hp];decide),←ht,List.take_succ_eq_append_getElem (by simp;omega),List.take_set_of_le (Nat.le_refl _)]
     simp
    ·rw[List.drop_set_of_lt (by omega),hd1]
  ·have:j=l.length:=by omega
   subst this
   rw[List.take_length] at ht
   rw[Q4.Sh0 hrd dA (lo:=i) (hi:=l'.length) Bnd.some Bnd.none (by omega) (Nat.le_refl _),hl']
   refine h.Nh0 0 rfl dA (by omega) fun w3 h=>?_
   rw[ht] at h
   exact k _ _ _ _ ⟨rfl,rfl⟩ h
theorem Oz0:KeyTy prog Q0 Int:=KeyTy.int TW
theorem yo0(n:Nat)(k:IntKind)(a:Int):Instr.sameBits n (.int k a) (.int k a)=true:=by cases n<;>simp [Instr.sameBits]
theorem kv0(n:Nat)(a b:Int):Instr.sameBits (n+1) (.agg #[.int .i64 a,.int .i64 b]) (.agg #[.int .i64 a,.int .i64 b])=true:=by simp [Instr.sameBits,yo0]
theorem YL0:KeyTy prog O4 Sec:=KeyTy.agg (fs:=prog.fieldsOf O4) (by kernel_rfl) (fun _=>rfl) (by kernel_rfl) (fun x y w=>QZ x y w) (fun x=>kv0 9999 x.file x.number)
structure DF (s:DS) (lf:List (Ent Int JA)) (cf:Nat) (ls:List (Ent Sec Bool)) (cs:Nat):Prop where
 wf:WfE lf cf
 files:∀f,s.fs f=(jH f lf).getD F0
 ws:WfE ls cs
 set_:∀q,(jH q ls).getD false=decide (q∈s.queue)
 ok:DOk s
abbrev DX:=((Nat×List (Ent Int JA)×Nat)×(Nat×List (Ent Sec Bool)×Nat))×Value
abbrev dcs(m:Nat)(qv:Value)(m2:Nat)(s:DS)(kv:Value):Array Value:=#[vP m,qv,vP m2,.int .i64 s.lost,.bool s.down,.int .i64 s.armed,kv]
abbrev parts(p:Nat)(s:DS)(kv:Value)(x:DX):List Dat:=[O1 p F5 (dcs x.1.1.1 x.2 x.1.2.1 s kv),B_ x.1.1.1 x.1.1.2.1 x.1.1.2.2,V3 O4 x.2 s.queue,B_ x.1.2.1 x.1.2.2.1 x.1.2.2.2]
def Y5(p:Nat)(s:DS)(kv:Value):Dat:=Dat.ex fun x:DX=>(Dat.pure (DF s x.1.1.2.1 x.1.1.2.2 x.1.2.2.1 x.1.2.2.2∧kv.oneCell'=true)).and (yT (parts p s kv x))
section
variable {B:Base} {w:World} {p:Nat} {s:DS} {kv:Value}
theorem Y5.open_(h:Rel B w [Y5 p s kv]):∃m lf cf m2 ls cs qv,DF s lf cf ls cs∧kv.oneCell'=true∧Rel B w [O1 p F5 (dcs m qv m2 s kv),B_ m lf cf,V3 O4 qv s.queue,B_ m2 ls cs]:=by
 obtain⟨x,h⟩:=h.ex (i:=0) rfl
 obtain⟨⟨h1,h2⟩,h⟩:=h.iW (i:=0) rfl
 have h:=Rel.dS (σ:=[]) (L:=parts p s kv x) h
 exact⟨_,_,_,_,_,_,_,h1,h2,h⟩
theorem Y5.close{m cf m2 cs:Nat}{lf:List (Ent Int JA)}{ls:List (Ent Sec Bool)}{qv:Value}(hf:DF s lf cf ls cs)(hk:kv.oneCell'=true)(h:Rel B w [O1 p F5 (dcs m qv m2 s kv),B_ m lf cf,V3 O4 qv s.queue,B_ m2 ls cs]):Rel B w [Y5 p s kv]:=by
 have h:=Rel.VM (σ:=[]) h
 exact h.imp (i:=0) (e:=Y5 p s kv) rfl fun B hB=>⟨(((m,lf,cf),(m2,ls,cs)),qv),⟨hf,hk⟩,hB⟩
theorem Y5.FO(h:Y5 p s kv B):∃m lf cf m2 ls cs qv,DF s lf cf ls cs∧O1 p F5 (dcs m qv m2 s kv) B∧B_ m lf cf B∧V3 O4 qv s.queue B∧B_ m2 ls cs B:=by
 obtain⟨x,⟨h1,h2⟩,h3⟩:=h
 exact⟨_,_,_,_,_,_,_,h1,Dat.star.left h3,Dat.star.left (Dat.star.right h3),Dat.star.left (Dat.star.right (Dat.star.right h3)),Dat.star.left (Dat.star.right (Dat.star.right (Dat.star.right h3)))⟩
theorem Y5.ok(h:Y5 p s kv B):DOk s∧kv.oneCell'=true:=by
 obtain⟨x,⟨h1,h2⟩,h3⟩:=h
 exact⟨h1.ok,h2⟩
theorem uE0{m m2:Nat}{qv:Value}(hc:O1 p F5 (dcs m qv m2 s kv) B)(f:Int):Gives prog B (Z0 xJ #[ptr p,.int .i64 f]) (.int .i64 (wP s f)):=by
 refine Gives.intro fun B' w K base h k=>?_
 replace hc:=base hc
 refine VP.up ?_
 unfold VP.pt
 unfold wP at k
 simp -zeta only[y5,U0 bQ,Nat.zero_add,O1.ld (h.K6 hc) RB (o:=4) rfl]
 rw[Q5]
 refine⟨fun e=>?_,fun e=>?_⟩
 ·rw[if_pos e] at k;exact k _ _ h
 ·rw[if_neg (by rw[e];decide)] at k
  simp -zeta only[D6,LD,K3]
  refine⟨fun h1=>?_,fun h1=>⟨fun h2=>?_,fun h2=>?_⟩⟩
  ·rw[if_pos h1] at k;exact k _ _ h
  ·rw[if_neg h1,if_pos h2] at k;exact k _ _ h
  ·rw[if_neg h1,if_neg h2] at k;exact k _ _ h
theorem wd0{lf:List (Ent Int JA)}{cf:Nat}{ls:List (Ent Sec Bool)}{cs m:Nat}(hF:DF s lf cf ls cs)(h:(B_ m lf cf).here w)(f:Int){Kp:Value→Prop}:Y0 prog (lK u6 (vP m) (.int .i64 f) false) w Kp=Kp (.agg #[.string (s.fs f).now,.string (s.fs f).last]) :=
 B_.look (x:=f) h JB Oz0 F0 NQ rfl (by rw[←hF.files];rfl)
theorem Ws0(hd:Y5 p s kv B)(f at_ size:Int):Gives prog B (Z0 XH #[ptr p,.int .i64 f,.int .i64 at_,.int .i64 size]) (.tuple #[.string (GD s f at_ size).1,.int .i64 (GD s f at_ size).2]):=by
 refine Gives.intro fun B' w K base h k=>?_
 obtain⟨m,lf,cf,m2,ls,cs,qv,hF,hc,hm,hq,hs⟩:=Y5.FO (base hd)
 refine pO.up ?_
 unfold pO.pt
 unfold GD at k
 refine h.ask (fun B2 own base2=>uE0 (base2 hc) f) fun w1 h=>?_
 simp -zeta only[X7,K5,K3]
 refine⟨fun e0=>?_,fun e0=>?_⟩
 rotate_left
 ·rw[if_pos e0] at k;exact k _ _ h
 rw[if_neg (by simpa using e0)] at k
 simp -zeta only[D6,K3]
 refine⟨fun e1=>?_,fun e1=>⟨fun e2=>?_,fun e2=>?_⟩⟩
 ·rw[if_pos e1] at k;exact k _ _ h
 ·rw[if_neg e1,if_pos e2] at k;exact k _ _ h
 rw[if_neg e1,if_neg e2] at k
 have hsz:=hF.ok.now f
 have hb:=y8 (s.fs f).now
 simp -zeta only[y5,U0 iH,Nat.add_zero,O1.ld (h.K6 hc) f_ (o:=0) rfl,wd0 hF (h.K6 hm),nq0 (cs:=#[.string (s.fs f).now,.string (s.fs f).last]) (v := .string (s.fs f).now) gZ rfl,oK C8,PP]
 have e3:min at_ ((bl (s.fs f).now).length:Int)=((min at_.toNat (bl (s.fs f).now).length:Nat):Int):=by omega
 rw[e3,bS C8 (lo:=min at_.toNat (bl (s.fs f).now).length) (hi:=(s.fs f).now.size) Bnd.some Bnd.none (by omega) (Nat.le_refl _)]
 have e4:(bl (s.fs f).now).take (s.fs f).now.size=bl (s.fs f).now:=by rw[←hb,List.take_length]
 rw[e4]
 have e5:(bl (s.fs f).now).drop (min at_.toNat (bl (s.fs f).now).length)=(bl (s.fs f).now).drop at_.toNat:=by
  rcases Nat.le_total at_.toNat (bl (s.fs f).now).length with h | h
  ·rw[Nat.min_eq_left h]
  ·rw[Nat.min_eq_right h,List.drop_length,List.drop_of_length_le h]
 rw[e5]
 generalize hr:(bl (s.fs f).now).drop at_.toNat=r at k ⊢
 simp -zeta only[oK C8,PP]
 have e6:min size ((bl (ofL r)).length:Int)=((min size.toNat r.length:Nat):Int):=by
  show min size (r.length:Int)=_
  omega
 rw[e6,bS C8 (lo:=0) (hi:=min size.toNat r.length) Bnd.none Bnd.some (Nat.zero_le _) (by show _≤r.length;omega)]
 have e7:ofL (((bl (ofL r)).take (min size.toNat r.length)).drop 0)=ofL (r.take size.toNat):=by
  show ofL ((r.take (min size.toNat r.length)).drop 0)=_
  rw[List.drop_zero]
  have:r.take (min size.toNat r.length)=r.take size.toNat:=by
   rcases Nat.le_total size.toNat r.length with h | h
   ·rw[Nat.min_eq_left h]
   ·rw[Nat.min_eq_right h,List.take_length,List.take_of_length_le h]
  rw[this]
 rw[e7]
 exact k _ _ h
theorem iD0:Does prog B (Y5 p s kv) (Z0 YH #[ptr p]) fun v e' τ=>v = .bool (bP s)∧e'=Y5 p (d_ s) kv∧τ=[]:=by
 refine Does.intro fun B' w K base h k=>?_
 obtain⟨m,lf,cf,m2,ls,cs,qv,hF,hk,h⟩:=Y5.open_ h
 refine rO.up ?_
 unfold rO.pt
 have hok:=hF.ok.armed
 simp -zeta only[y5,U0 bQ,U0 FU,Nat.zero_add,h.ld 0 rfl RB (o:=4) rfl,h.ld 0 rfl F3 (o:=5) rfl]
 rw[Q5]
 have same:bP s=false→d_ s=s→K (.bool false) w:=fun e1 e2=>by
  refine k _ _ [] _ ⟨by rw[e1],rfl,rfl⟩ ?_
  rw[e2]
  exact Y5.close hF hk h
 refine⟨fun e=>same (by unfold bP;rw[e];rfl) (by unfold d_;rw[if_pos (.inl e)]),fun e=>?_⟩
 simp -zeta only[O6,K3]
 refine⟨fun e1=>same (by unfold bP;rw[decide_eq_true e1];simp) (by unfold d_;rw[if_pos (.inr e1)]),fun e1=>?_⟩
 clear same
 rw[eF,D5 (by omega) (by omega)]
 refine h.st 0 rfl F3 (show 5<7 by omega) rfl fun w1 h=>?_
 simp -zeta only[h.ld 0 rfl F3 (o:=5) rfl,O6]
 have e2:d_ s={ s with armed:=s.armed-1 }:=by unfold d_;rw[if_neg (by rw[e];simpa using e1)]
 have e3:bP s=decide (s.armed-1=0):=by unfold bP;rw[e,decide_eq_false e1];rfl
 have hF':DF (d_ s) lf cf ls cs:=⟨hF.wf,by rw[e2];exact hF.files,hF.ws,by rw[e2];exact hF.set_,hF.ok.ends⟩
 refine k _ _ [] _ ⟨by rw[e3],rfl,rfl⟩ ?_
 have h:Rel B' w1 [O1 p F5 (dcs m qv m2 (d_ s) kv),B_ m lf cf,V3 O4 qv (d_ s).queue,B_ m2 ls cs]:=by rw[e2];exact h
 exact Y5.close hF' hk h
theorem KK0{n:Int}(hn:n≤9223372036854775807):Does prog B (Y5 p s kv) (Z0 gP #[ptr p,.int .i64 n]) fun v e' τ=>v = .tuple #[]∧e'=Y5 p { s with lost:=max n 0 } kv∧τ=[]:=by
 refine Does.intro fun B' w K base h k=>?_
 obtain⟨m,lf,cf,m2,ls,cs,qv,hF,hk,h⟩:=Y5.open_ h
 refine oO.up ?_
 unfold oO.pt
 simp -zeta only[y5,U0 aZ,Nat.zero_add,kL]
 refine h.st 0 rfl F3 (show 3<7 by omega) rfl fun w1 h=>?_
 have hF':DF { s with lost:=max n 0 } lf cf ls cs:=⟨hF.wf,hF.files,hF.ws,hF.set_,⟨hF.ok.now,hF.ok.last,hF.ok.q,hF.ok.nd,by show 0≤max n 0∧max n 0≤_;omega,hF.ok.armed⟩⟩
 exact k _ _ [] _ ⟨rfl,rfl,rfl⟩ (Y5.close hF' hk h)
theorem SG0:Does prog B (Y5 p s kv) (Z0 WN #[ptr p]) fun v e' τ=>v = .tuple #[]∧e'=Y5 p { s with down:=false } kv∧τ=[]:=by
 refine Does.intro fun B' w K base h k=>?_
 obtain⟨m,lf,cf,m2,ls,cs,qv,hF,hk,h⟩:=Y5.open_ h
 refine KM.up ?_
 unfold KM.pt
 simp -zeta only[y5,U0 bQ,Nat.zero_add]
 refine h.st 0 rfl RB (show 4<7 by omega) rfl fun w1 h=>?_
 have hF':DF { s with down:=false } lf cf ls cs:=⟨hF.wf,hF.files,hF.ws,hF.set_,⟨hF.ok.now,hF.ok.last,hF.ok.q,hF.ok.nd,hF.ok.lost,hF.ok.armed⟩⟩
 exact k _ _ [] _ ⟨rfl,rfl,rfl⟩ (Y5.close hF' hk h)
theorem QM0{n:Int}{v:Value}{keep:List Int}(r:Q4 v keep B)(hl:keep.length≤1000000)(hn:n≤9223372036854775807):Does prog B (Y5 p s kv) (Z0 OQ #[ptr p,.int .i64 n,v])
  fun u e' τ=>u = .tuple #[]∧∃kv',e'=Y5 p { s with armed:=max n 0,keep:=keep } kv'∧τ=[V3 Q0 kv' keep]:=by
 refine Does.intro fun B' w K base h k=>?_
 replace r:=base r
 obtain⟨m,lf,cf,m2,ls,cs,qv,hF,hk,h⟩:=Y5.open_ h
 refine TP.up ?_
 unfold TP.pt
 rw[kL]
 refine h.make (fun B2 own base2=>sI (base2 r) (by omega) (by omega)) fun kv' τ w1 hp h=>?_
 subst hp
 have h1:kv'.oneCell'=true:=h.oneCell (i:=4) rfl
 simp -zeta only[y5,U0 FU,U0 bZ,Nat.zero_add]
 refine h.st 0 rfl F3 (show 5<7 by omega) rfl fun w2 h=>?_
 refine h.st 0 rfl XC (show 6<7 by omega) h1 fun w3 h=>?_
 have hF':DF { s with armed:=max n 0,keep:=keep } lf cf ls cs:=⟨hF.wf,hF.files,hF.ws,hF.set_,⟨hF.ok.now,hF.ok.last,hF.ok.q,hF.ok.nd,hF.ok.lost,by show 0≤max n 0∧max n 0≤_;omega⟩⟩
 have h:=h.pick [4,0,1,2,3] (by decide)
 have h:Rel B' w3 ([V3 Q0 kv' keep]++parts p { s with armed:=max n 0,keep:=keep } kv' (((m,lf,cf),(m2,ls,cs)),qv)):=h
 have h:=h.VM
 have h:=h.imp (i:=1) (e:=Y5 p { s with armed:=max n 0,keep:=keep } kv') rfl fun B hB=>⟨_,⟨hF',h1⟩,hB⟩
 have h:=h.pick [1,0] (by decide)
 exact k _ _ _ _ ⟨rfl,kv',rfl,rfl⟩ h
theorem Qy0{m c:Nat}{l:List (Ent Sec Bool)}(hw:WfE l c){fv:Value}(p:Sec→Bool)(hf:∀B':Base,(∀{d:Dat},d B→d B')→∀e∈l,Gives prog B' (aA fv #[Enc.val e.1,Enc.val e.2.1]) (.bool (p e.1))) :
  Does prog B (B_ m l c) (Z0 K9 #[vP m,fv]) fun v e' τ=>v = .tuple #[]∧e'=B_ m (l.filter fun e=>!p e.1) c∧τ=[]:=by
 refine Does.intro fun B' w K base h k=>?_
 refine J8.up ?_
 unfold J8.pt
 refine h.range 0 rfl dF fun it w1 h=>?_
 have e0:(l.filter fun e=>!((#[]:Array Nat).contains e.2.2&&p e.1))=l:=List.filter_eq_self.2 fun e _=>by simp
 refine M6 (fun _ w'=>∃seen:Array Nat,Rel B' w' [B_ m (l.filter fun e=>!(seen.contains e.2.2&&p e.1)) c,vX it m c seen c]) (fun _ w'=>tJ l (sN w' it)) ⟨#[],by rw[e0];exact h⟩ ?_
 clear h
 rintro x w2 ⟨seen,h⟩ next hnext
 have hms:=NN h (j:=1) rfl
 have hwf:=hw.filter fun e=>!(seen.contains e.2.2&&p e.1)
 refine h.next 0 1 it rfl rfl hwf.below (fun w3 hall h=>?_) (fun e w3 he hns h=>?_)
 ·rw[show (R5 (.tuple #[.bool false]) 0)=(R5 (.tuple #[.bool false]) 0) from rfl,V4 (v := .bool false) (fun w=>rfl),t_]
  have e1:(l.filter fun e=>!(seen.contains e.2.2&&p e.1))=l.filter fun e=>!p e.1:=by
   refine List.filter_congr fun e he=>?_
   cases hb:!(seen.contains e.2.2&&p e.1) with
   | true =>
    have:=hall e (List.mem_filter.2 ⟨he,hb⟩)
    rw[this] at hb
    simpa using hb.symm
   | false =>
    simp at hb
    rw[hb.2];rfl
  rw[e1] at h
  exact k _ _ [] _ ⟨rfl,rfl,rfl⟩ (h.take 1)
 ·have hel:e∈l:=(List.mem_filter.1 he).1
  rw[PV,VC]
  refine h.entry 0 1 it rfl rfl he hwf.stamps fun w4 h=>?_
  rw[h_,Y9]
  refine h.r9 (ds:=e.1.cs.toArray) qQ rfl I9 rfl (fun v hv=>Enc.one e.1 v hv) fun b w5 h=>?_
  simp -zeta only[h.Q9 2 rfl I9 rfl]
  refine h.ask (fun B2 own base2=>hf B2 (fun hd=>base2 (base hd)) e hel) fun w6 h=>?_
  have step:∀x∈l,x≠e→(seen.push e.2.2).contains x.2.2=seen.contains x.2.2:=fun x hx hne=>by
   rw[contains_push,decide_eq_false fun hh=>hne (hw.bX hx hel hh),Bool.or_false]
  have hself:(seen.push e.2.2).contains e.2.2=true:=by simp [contains_push]
  rw[Q5]
  refine⟨fun hp=>?_,fun hp=>?_⟩
  ·simp -zeta only[h.Q9 2 rfl I9 rfl]
   refine h.delete 0 rfl dF YL0 e.1 fun w7 h=>?_
   have e2:Jt0 e.1 (l.filter fun e=>!(seen.contains e.2.2&&p e.1))=l.filter fun x=>!((seen.push e.2.2).contains x.2.2&&p x.1):=by
    rw[zw0 hwf.keys,List.filter_filter]
    refine List.filter_congr fun x hx=>?_
    by_cases hxe:x=e
    ·subst hxe;rw[hself,hp];simp
    ·rw[step x hx hxe,decide_eq_true (p:=x.1≠e.1) (fun hh=>hxe (hw.kl0 hx hel hh)),Bool.true_and]
   rw[e2] at h
   have h:=h.take 2
   refine hnext _ _ ⟨_,h⟩ ?_
   show tJ l (sN w7 it)<tJ l (sN w2 it)
   rw[hms,NN h (j:=1) rfl]
   exact KQ hel hns
  ·have e2:(l.filter fun e=>!(seen.contains e.2.2&&p e.1))=l.filter fun x=>!((seen.push e.2.2).contains x.2.2&&p x.1):=by
    refine List.filter_congr fun x hx=>?_
    by_cases hxe:x=e
    ·subst hxe;rw[hself,hp];simp
    ·rw[step x hx hxe]
   have h:=h.take 2
   rw[e2] at h
   refine hnext _ _ ⟨_,h⟩ ?_
   show tJ l (sN w6 it)<tJ l (sN w2 it)
   rw[hms,NN h (j:=1) rfl]
   exact KQ hel hns
end
section
variable {B:Base} {w:World} {p:Nat} {s:DS} {kv:Value}
theorem dB0{b:Nat}{f:Int}(hc:O1 b Q0 #[.int .i64 f] B)(x:Sec):Gives prog B (aA (.func (.func RD) #[] #[ptr b]) #[Enc.val x]) (.bool (decide (x.file=f))):=by
 refine Gives.intro fun B' w K base h k=>?_
 replace hc:=base hc
 refine dH ?_
 refine BA.up (p0:=x.v) (t1:=ptr b) (BA.call ?_)
 unfold BA.pt
 refine h.box fun b2 w1 h=>?_
 have h:Rel B' w1 [O1 b2 O4 x.cs.toArray]:=h
 simp -zeta only[U0 ZQ,Nat.add_zero,h.ld 0 rfl F3 (o:=0) rfl,O1.ld (h.K6 hc) F3 (o:=0) rfl,O6]
 exact k _ _ h
theorem eB0{b:Nat}{f:Int}(hc:O1 b Q0 #[.int .i64 f] B)(x:Sec)(y:Bool):Gives prog B (aA (.func (.func TD) #[] #[ptr b]) #[Enc.val x,Enc.val y]) (.bool (decide (x.file=f))):=by
 refine Gives.intro fun B' w K base h k=>?_
 replace hc:=base hc
 refine dH ?_
 refine EA.up (p0:=x.v) (t1 := .bool y) (t2:=ptr b) (EA.call ?_)
 unfold EA.pt
 refine h.box fun b2 w1 h=>?_
 have h:Rel B' w1 [O1 b2 O4 x.cs.toArray]:=h
 simp -zeta only[U0 ZQ,Nat.add_zero,h.ld 0 rfl F3 (o:=0) rfl,O1.ld (h.K6 hc) F3 (o:=0) rfl,O6]
 exact k _ _ h
theorem IF0(f:Int){x:ByteArray}(hx:x.size≤16777216):Does prog B (Y5 p s kv) (Z0 YM #[ptr p,.int .i64 f,.string x]) fun v e' τ=>v = .tuple #[]∧e'=Y5 p (UH s f x) kv∧τ=[]:=by
 refine Does.intro fun B' w K base h k=>?_
 obtain⟨m,lf,cf,m2,ls,cs,qv,hF,hk,h⟩:=Y5.open_ h
 have hql:=hF.ok.rM0
 refine lL.up ?_
 unfold lL.pt
 refine h.box fun b w1 h=>?_
 have h:Rel B' w1 [O1 p F5 (dcs m qv m2 s kv),B_ m lf cf,V3 O4 qv s.queue,B_ m2 ls cs,O1 b Q0 #[.int .i64 f]]:=h
 have h:=h.tick
 simp -zeta only[y5,U0 iH,Nat.add_zero,h.ld 0 rfl f_ (o:=0) rfl,h.ld 4 rfl F3 (o:=0) rfl,VU]
 refine h.Si0 1 rfl JB Oz0 f (⟨x,x⟩:JA) fun w2 h=>?_
 simp -zeta only[U0 aQ,U0 EU,Nat.zero_add,h.ld 0 rfl ED (o:=1) rfl,OG]
 refine h.act 2 rfl (fun B2 own base2=>lI (by omega) (fun q=>decide (q.file=f)) fun B3 base3 q hq=>dB0 (base3 (own (j:=4) (by decide) rfl)) q) fun qv' e' τ w3 hp h=>?_
 obtain⟨rfl,rfl⟩:=hp
 have h1:qv'.oneCell'=true:=h.oneCell (i:=2) rfl
 refine h.st 0 rfl ED (show 1<7 by omega) h1 fun w4 h=>?_
 simp -zeta only[h.ld 0 rfl fB (o:=2) rfl]
 refine h.act 3 rfl (fun B2 own base2=>Qy0 hF.ws (fun q=>decide (q.file=f)) fun B3 base3 e he=>eB0 (base3 (own (j:=4) (by decide) rfl)) e.1 e.2.1) fun v e' τ w5 hp h=>?_
 obtain⟨rfl,rfl,rfl⟩:=hp
 have h:=h.take 4
 have hF':DF (UH s f x) (VN f (⟨x,x⟩:JA) lf cf).1 (VN f (⟨x,x⟩:JA) lf cf).2 (ls.filter fun e=>!decide (e.1.file=f)) cs:=by
  refine⟨hF.wf.set _ _,fun g=>?_,hF.ws.filter _,fun q=>?_,hF.ok.settle f hx⟩
  ·rw[tV hF.wf.keys]
   show upd s.fs f _ g=_
   unfold upd
   split
   ·rfl
   ·exact hF.files g
  ·rw[li0 hF.ws (fun q:Sec=>!decide (q.file=f))]
   show _=decide (q∈s.queue.filter fun q=>!decide (q.file=f))
   by_cases e:q.file=f
   ·rw[if_neg (by simp [e])]
    simp [List.mem_filter,e]
   ·rw[if_pos (by simp [e]),hF.set_ q]
    simp [List.mem_filter,e]
 exact k _ _ [] _ ⟨rfl,rfl,rfl⟩ (Y5.close hF' hk h)
theorem sn0{x:Sec}{z:Bool}{l:List (Ent Sec Bool)}{c:Nat}:∃e∈(vO x z l c).1,e.2.2=(vO x z l c).2.2.1:=by
 unfold vO
 cases hf:bE x l 0 with
 | none=>exact⟨(x,z,c),List.mem_append_right _ (by simp),rfl⟩
 | some q =>
  obtain⟨h1,_,_⟩:=ME (i:=q.1) (v:=q.2) hf
  refine⟨l[q.1],List.getElem_mem h1,?_⟩
  show _=((l[q.1]?).map (·.2.2)).getD 0
  rw[List.getElem?_eq_getElem h1]
  rfl
theorem sy0{f:Int}{q:List Sec}{ns:List Nat}{j:Nat}(hj:j<ns.length):HV f q (ns.take (j+1))=Uk0 f (HV f q (ns.take j)) ns[j]:=by
 unfold HV
 rw[List.take_succ_eq_append_getElem hj,List.foldl_append]
 rfl
theorem DF0{at_ n j:Nat}(hj:j<(secs at_ n).length):(secs at_ n)[j]=at_ / 64+j:=by simp [secs]
theorem FF0(at_ n:Nat):(secs at_ n).length=(at_+n-1) / 64+1-at_ / 64:=by simp [secs]
theorem ZJ0(f at_:Int){t:ByteArray}(ht:t.size≤9223372036854775807):Does prog B (Y5 p s kv) (Z0 XN #[ptr p,.int .i64 f,.int .i64 at_,.string t]) fun v e' τ=>v = .int .i64 (vJ s f at_ t)∧e'=Y5 p (ZB s f at_ t) kv∧τ=[]:=by
 refine Does.intro fun B' w K base h k=>?_
 obtain⟨m,lf,cf,m2,ls,cs,qv,hF,hk,h⟩:=Y5.open_ h
 refine MM.up ?_
 unfold MM.pt
 have no:∀e w' ,vJ s f at_ t=e→e≠0→Rel B' w' [O1 p F5 (dcs m qv m2 s kv),B_ m lf cf,V3 O4 qv s.queue,B_ m2 ls cs]→K (.int .i64 e) w':=by
  intro e w' he hne h
  refine k _ _ [] _ ⟨by rw[he],rfl,rfl⟩ ?_
  have:ZB s f at_ t=s:=by unfold ZB;rw[if_neg (by rw[he];exact hne)]
  rw[this]
  exact Y5.close hF hk h
 refine h.ask (fun B2 own base2=>uE0 (own (i:=0) rfl) f) fun w1 h=>?_
 simp -zeta only[X7,K5,K3]
 refine⟨fun e0=>?_,fun e0=>no _ _ (by unfold vJ;rw[if_pos e0]) e0 h⟩
 have e0':¬wP s f≠0:=by simpa using e0
 simp -zeta only[D6,A_,K3]
 refine⟨fun e1=>no _ _ (by unfold vJ;rw[if_neg e0',if_pos e1]) (by decide) h,fun e1=>⟨fun e2=>no _ _ (by unfold vJ;rw[if_neg e0',if_neg e1,if_pos e2]) (by decide) h,fun e2=>?_⟩⟩
 have hbt:=y8 t
 have hw:IntKind.i64.wrap (16777216-at_)=16777216-at_:=D5 (by omega) (by omega)
 simp -zeta only[oK C8,eF,hw,A_,K3]
 refine⟨fun e3=>no _ _ (by unfold vJ;rw[if_neg e0',if_neg e1,if_neg e2,if_pos (by omega)]) (by decide) h,fun e3=>?_⟩
 have hE:vJ s f at_ t=0:=Qf0.2 ⟨by simpa using e0,by omega,by omega⟩
 have hW:ZB s f at_ t=vC s f at_.toNat t:=by unfold ZB;rw[if_pos hE]
 rw[hE,hW] at k
 obtain⟨a,rfl⟩:∃a:Nat,at_=a:=⟨at_.toNat,by omega⟩
 have hat:(a:Int).toNat=a:=by omega
 rw[hat] at k
 clear no
 rw[WT,K3]
 refine⟨fun e4=>k _ _ [] _ ⟨rfl,rfl,rfl⟩ (by unfold vC;rw[if_pos e4];exact Y5.close hF hk h),fun e4=>?_⟩
 have hpos:=size_pos e4
 have hnow:=hF.ok.now f
 simp -zeta only[y5,U0 iH,Nat.add_zero,h.ld 0 rfl f_ (o:=0) rfl,wd0 hF (h.here (i:=1) rfl)]
 refine h.r9 (ds:=(s.fs f).cs.toArray) NQ rfl iO rfl (fun v hv=>Enc.one (s.fs f) v hv) fun x w2 h=>?_
 simp -zeta only[U0 cZ,Nat.add_zero,h.ld 4 rfl V6 (o:=0) rfl]
 refine h.ask (fun B2 own base2=>yK0 (s:=(s.fs f).now) (t:=t) (at_:=a) (by omega) (by omega) (by omega)) fun w3 h=>?_
 refine h.st 4 rfl V6 (show 0<2 by omega) rfl fun w4 h=>?_
 have h:=h.tick
 simp -zeta only[h.ld 0 rfl f_ (o:=0) rfl,h.Q9 4 rfl iO rfl]
 refine h.Si0 1 rfl JB Oz0 f (⟨zF (s.fs f).now a t,(s.fs f).last⟩:JA) fun w5 h=>?_
 have hq1:IntKind.i64.wrap ((a:Int).tdiv 64)=((a / 64:Nat):Int):=by
  rw[Int.tdiv_eq_ediv_of_nonneg (by omega),D5 (by omega) (by omega)];omega
 simp -zeta only[ew0 (show (64:Int)≠0 by decide),hq1]
 have h:=h.take 4
 have hadd:=hF.ok.add (f:=f) (BL.1 e0).2 (at_:=a) (t:=t) (by omega)
 have hA:vC s f a t={ s with fs:=upd s.fs f ⟨zF (s.fs f).now a t,(s.fs f).last⟩,queue:=HV f s.queue (secs a t.size) }:=by unfold vC;rw[if_neg e4]
 generalize hlf:VN f (⟨zF (s.fs f).now a t,(s.fs f).last⟩:JA) lf cf=lfc at h
 obtain⟨lf',cf'⟩:=lfc
 have hwf':WfE lf' cf':=by have:=hF.wf.set f (⟨zF (s.fs f).now a t,(s.fs f).last⟩:JA);rw[hlf] at this;exact this
 have hfiles:∀g,(vC s f a t).fs g=(jH g lf').getD F0:=by
  intro g
  have e:lf'=(VN f (⟨zF (s.fs f).now a t,(s.fs f).last⟩:JA) lf cf).1:=by rw[hlf]
  rw[hA,e,tV hF.wf.keys]
  show upd s.fs f _ g=_
  unfold upd
  split
  ·rfl
  ·exact hF.files g
 have hsl:=FF0 a t.size
 have hqn:∀j,(HV f s.queue ((secs a t.size).take j)).length≤s.queue.length+j:=by
  intro j
  have:∀(ns:List Nat) (q:List Sec),(HV f q ns).length≤q.length+ns.length:=by
   intro ns
   induction ns with
   | nil=>intro q;exact Nat.le_refl _
   | cons n ns ih =>
    intro q
    unfold HV at ih ⊢
    rw[List.foldl_cons]
    refine Nat.le_trans (ih _) ?_
    unfold Uk0
    split
    ·simp only[List.length_cons];omega
    ·simp only[List.length_append,List.length_cons,List.length_nil];omega
  refine Nat.le_trans (this _ _) ?_
  rw[List.length_take]
  omega
 have hql:=hF.ok.rM0
 refine M6 (fun x w'=>∃(j:Nat) (qv:Value) (ls:List (Ent Sec Bool)) (cs:Nat),j≤(secs a t.size).length∧x=(.int .i64 ((a / 64+j:Nat):Int),())∧WfE ls cs∧(∀q,(jH q ls).getD false=decide (q∈HV f s.queue ((secs a t.size).take j))) ∧
   Rel B' w' [O1 p F5 (dcs m qv m2 s kv),B_ m lf' cf',V3 O4 qv (HV f s.queue ((secs a t.size).take j)),B_ m2 ls cs]) (fun x _=>a / 64+(secs a t.size).length-(match x.1 with | .int _ n=>n.toNat | _=>0))
  ⟨0,qv,ls,cs,Nat.zero_le _,rfl,hF.ws,hF.set_,h⟩ ?_
 clear h
 rintro x2 w6 ⟨j,qv,ls,cs,hj,rfl,hws,hset,h⟩ next hnext
 have hqj:=hqn j
 have hw1:IntKind.i64.wrap ((a:Int)+((bl t).length:Int))=((a+(bl t).length:Nat):Int):=by rw[D5 (by omega) (by omega)];omega
 have hw2:IntKind.i64.wrap (((a+(bl t).length:Nat):Int)-1)=((a+(bl t).length-1:Nat):Int):=by rw[D5 (by omega) (by omega)];omega
 have hw3:IntKind.i64.wrap (((a+(bl t).length-1:Nat):Int).tdiv 64)=(((a+(bl t).length-1) / 64:Nat):Int):=by
  rw[Int.tdiv_eq_ediv_of_nonneg (by omega),D5 (by omega) (by omega)];omega
 simp -zeta only[V5,hw1,eF,hw2,ew0 (show (64:Int)≠0 by decide),hw3,gD,K3]
 refine⟨fun hle=>?_,fun hgt=>?_⟩
 ·have hjl:j<(secs a t.size).length:=by omega
  have hsg:=DF0 hjl
  refine Q6 fun J hJ=>?_
  replace hJ:∀(qv:Value) (ls:List (Ent Sec Bool)) (cs:Nat) w',WfE ls cs→(∀q,(jH q ls).getD false=decide (q∈HV f s.queue ((secs a t.size).take (j+1)))) →
    Rel B' w' [O1 p F5 (dcs m qv m2 s kv),B_ m lf' cf',V3 O4 qv (HV f s.queue ((secs a t.size).take (j+1))),B_ m2 ls cs]→J () w':=by
   intro qv ls cs w' h1 h2 h
   refine hJ _ _ ?_
   rw[D5 (by omega) (by omega)]
   exact hnext _ _ ⟨j+1,qv,ls,cs,hjl,by rw[show ((a / 64+j:Nat):Int)+1=((a / 64+(j+1):Nat):Int) by omega],h1,h2,h⟩ (by simp only;omega)
  clear hnext
  rw[uZ]
  refine h.r9 (ds:=(⟨f,((a / 64+j:Nat):Int)⟩:Sec).cs.toArray) qQ rfl I9 rfl (fun v hv=>Enc.one (⟨f,((a / 64+j:Nat):Int)⟩:Sec) v hv) fun b w7 h=>?_
  have h:=h.tick
  simp -zeta only[y5,U0 EU,Nat.zero_add,h.ld 0 rfl fB (o:=2) rfl,h.Q9 4 rfl I9 rfl,
   h.lookup 3 rfl dF YL0 false KG0 (⟨f,((a / 64+j:Nat):Int)⟩:Sec) (xv := .agg (⟨f,((a / 64+j:Nat):Int)⟩:Sec).cs.toArray) (yv := .bool ((jH (⟨f,((a / 64+j:Nat):Int)⟩:Sec) ls).getD false)),hset,V8,K5,K3]
  have hs1:=sy0 (f:=f) (q:=s.queue) hjl
  rw[hsg] at hs1
  unfold Uk0 at hs1
  refine⟨fun hin=>?_,fun hin=>?_⟩
  ·rw[if_pos hin] at hs1
   rw[hs1] at hJ
   exact hJ qv ls cs _ hws hset (h.take 4)
  ·rw[if_neg hin] at hs1
   have h:=h.tick
   simp -zeta only[U0 aQ,Nat.zero_add,h.ld 0 rfl fB (o:=2) rfl,h.Q9 4 rfl I9 rfl,h.ld 0 rfl ED (o:=1) rfl]
   refine h.bH (⟨f,((a / 64+j:Nat):Int)⟩:Sec) dA (by decide) fun tv w8 h=>?_
   refine⟨h.is 0 rfl ED (o:=1) rfl,h.uX 4 rfl I9 rfl,h.is 0 rfl fB (o:=2) rfl,?_⟩
   refine h.append 2 rfl dA (l2:=[(⟨f,((a / 64+j:Nat):Int)⟩:Sec)]) (Rd.at 5 (E:=O4) rfl) (by simp;omega) (by simp;omega) fun qv' w9 h=>?_
   refine⟨h.uX 4 rfl I9 rfl,h.is 0 rfl fB (o:=2) rfl,?_⟩
   have h1:qv'.oneCell'=true:=h.oneCell (i:=2) rfl
   refine h.st 0 rfl ED (show 1<7 by omega) h1 fun w10 h=>?_
   refine⟨h.uX 4 rfl I9 rfl,?_⟩
   refine h.mapEntry 3 rfl dF YL0 false KG0 (⟨f,((a / 64+j:Nat):Int)⟩:Sec) fun w11 h=>?_
   rw[Y9]
   refine h.entryStore 3 rfl sn0 true fun w12 h=>?_
   obtain⟨es1,es2⟩:=gq0 (x:=(⟨f,((a / 64+j:Nat):Int)⟩:Sec)) (y:=true) (z:=false) hws
   rw[es1,es2] at h
   have h:=h.take 4
   rw[hs1] at hJ
   refine hJ qv' _ _ _ (hws.set _ _) (fun q=>?_) h
   rw[tV hws.keys]
   by_cases e:q=⟨f,((a / 64+j:Nat):Int)⟩
   ·rw[if_pos e]
    subst e
    simp
   ·rw[if_neg e,hset q]
    exact decide_eq_decide.2 ⟨fun h=>List.mem_append_left _ h,fun h=>(List.mem_append.1 h).elim id fun h=>absurd (List.mem_singleton.1 h) e⟩
 ·have hjl:j=(secs a t.size).length:=by omega
  subst hjl
  rw[List.take_length] at h hset
  refine k _ _ [] _ ⟨rfl,rfl,rfl⟩ ?_
  have hF':DF (vC s f a t) lf' cf' ls cs:=⟨hwf',hfiles,hws,by rw[hA];exact hset,hadd⟩
  refine Y5.close (m:=m) (m2:=m2) (qv:=qv) hF' hk ?_
  rw[hA]
  exact h
def nR(l:List (Ent Int JA))(seen:Array Nat):List (Ent Int JA):=l.map fun e=>if seen.contains e.2.2=true then(e.1,(⟨e.2.1.last,e.2.1.last⟩:JA),e.2.2) else e
theorem Qt0(l:List (Ent Int JA))(seen:Array Nat):(nR l seen).map (·.1)=l.map (·.1):=by
 unfold nR
 rw[List.map_map]
 refine List.map_congr_left fun e _=>?_
 simp only[Function.comp_apply]
 split<;>rfl
theorem NV(l:List (Ent Int JA))(seen:Array Nat):(nR l seen).map (·.2.2)=l.map (·.2.2):=by
 unfold nR
 rw[List.map_map]
 refine List.map_congr_left fun e _=>?_
 simp only[Function.comp_apply]
 split<;>rfl
theorem WC0{l:List (Ent Int JA)}{c:Nat}(h:WfE l c)(seen:Array Nat):WfE (nR l seen) c:=by
 refine⟨by rw[Qt0];exact h.keys,by rw[NV];exact h.stamps,fun e he=>?_⟩
 have hm:e.2.2∈(nR l seen).map (·.2.2):=List.mem_map_of_mem he
 rw[NV] at hm
 obtain⟨e',he',h1⟩:=List.mem_map.1 hm
 rw[←h1]
 exact h.below e' he'
theorem Zy0(l:List (Ent Int JA)):nR l #[]=l:=by
 unfold nR
 have:(fun e:Ent Int JA=>if(#[]:Array Nat).contains e.2.2=true then(e.1,(⟨e.2.1.last,e.2.1.last⟩:JA),e.2.2) else e)=id:=by
  funext e
  simp
 rw[this,List.map_id]
theorem rz0{l:List (Ent Int JA)}(g:JA→JA)(x:Int):jH x (l.map fun e=>(e.1,g e.2.1,e.2.2))=(jH x l).map g:=by
 induction l with
 | nil=>rfl
 | cons e l ih =>
  unfold jH at ih ⊢
  simp only[List.map_cons,bE]
  by_cases h:x=e.1
  ·rw[if_pos h,if_pos h];rfl
  ·rw[if_neg h,if_neg h,zN x (List.map _ l),zN x l,Option.map_map,Option.map_map,Option.map_map]
   have:=ih
   rw[Option.map_map] at this
   exact this
theorem WG0(a:Int):IntKind.wrap .i64 (BitVec.ofInt IntKind.i64.bits a &&& BitVec.ofInt IntKind.i64.bits 1).toNat=a % 2:=aL0 1 (by omega) a 1 rfl
theorem mn0{v:Value}{keep:List Int}(r:Q4 v keep B)(hkl:keep.length≤9223372036854775807):Does prog B (Y5 p s kv) (Z0 kE #[ptr p,v]) fun u e' τ=>u = .tuple #[]∧e'=Y5 p (rA s keep) kv∧τ=[]:=by
 refine Does.intro fun B' w K base h k=>?_
 replace r:=base r
 obtain⟨m,lf,cf,m2,ls,cs,qv,hF,hk,h⟩:=Y5.open_ h
 have hql:=hF.ok.rM0
 refine JM.up ?_
 unfold JM.pt
 simp -zeta only[y5,U0 bQ,Nat.zero_add,h.ld 0 rfl RB (o:=4) rfl]
 rw[Q5]
 refine⟨fun e=>k _ _ [] _ ⟨rfl,rfl,rfl⟩ (by unfold rA;rw[if_pos e];exact Y5.close hF hk h),fun e=>?_⟩
 refine h.st 0 rfl RB (show 4<7 by omega) rfl fun w1 h=>?_
 simp -zeta only[U0 FU,U0 aQ,Nat.zero_add]
 refine h.st 0 rfl F3 (show 5<7 by omega) rfl fun w2 h=>?_
 have hqr:=V3.read (h.here (i:=2) rfl)
 simp -zeta only[h.ld 0 rfl ED (o:=1) rfl,Q4.len hqr dA]
 clear hqr
 have h:Rel B' w2 [O1 p F5 #[vP m,qv,vP m2,.int .i64 s.lost,.bool true,.int .i64 0,kv],B_ m lf cf,V3 O4 qv s.queue,B_ m2 ls cs]:=h
 refine M6 (fun x w'=>∃(i:Nat) (lf:List (Ent Int JA)) (cf:Nat),i≤s.queue.length∧x=(.int .i64 i,())∧WfE lf cf∧(∀f,ZC keep s.queue s.fs i f=(jH f lf).getD F0) ∧
   Rel B' w' [O1 p F5 #[vP m,qv,vP m2,.int .i64 s.lost,.bool true,.int .i64 0,kv],B_ m lf cf,V3 O4 qv s.queue,B_ m2 ls cs]) (fun x _=>s.queue.length-(match x.1 with | .int _ n=>n.toNat | _=>0))
  ⟨0,lf,cf,Nat.zero_le _,rfl,hF.wf,hF.files,h⟩ ?_
 clear h
 rintro x w3 ⟨i,lf,cf,hi,rfl,hwf,hfs,h⟩ next hnext
 obtain⟨hsn,hsl⟩:=YZ (keep:=keep) (qs:=s.queue) hF.ok.now hF.ok.last i
 simp -zeta only[D6,K3]
 refine⟨fun hlt=>?_,fun hge=>?_⟩
 ·have hil:i<s.queue.length:=by omega
  have hgd:s.queue.getD i ⟨0,0⟩=s.queue[i]:=by rw[List.getD_eq_getElem?_getD,List.getElem?_eq_getElem hil];rfl
  have hqi:=hF.ok.q _ (List.getElem_mem hil)
  generalize hq:s.queue[i]=q at hqi hgd
  have hstep:ZC keep s.queue s.fs (i+1)=kU keep i q (ZC keep s.queue s.fs i):=by
   show kU keep i (s.queue.getD i ⟨0,0⟩) _=_
   rw[hgd]
  refine Q6 fun J hJ=>?_
  replace hJ:∀(lf:List (Ent Int JA)) (cf:Nat) w',WfE lf cf→(∀f,ZC keep s.queue s.fs (i+1) f=(jH f lf).getD F0) →
    Rel B' w' [O1 p F5 #[vP m,qv,vP m2,.int .i64 s.lost,.bool true,.int .i64 0,kv],B_ m lf cf,V3 O4 qv s.queue,B_ m2 ls cs]→J () w':=by
   intro lf cf w' h1 h2 h
   refine hJ _ _ ?_
   rw[V5,D5 (by omega) (by omega)]
   exact hnext _ _ ⟨i+1,lf,cf,hil,rfl,h1,h2,h⟩ (by simp only;omega)
  clear hnext
  have same:(kU keep i q (ZC keep s.queue s.fs i)=ZC keep s.queue s.fs i)→∀w' σ,Rel B' w' ([O1 p F5 #[vP m,qv,vP m2,.int .i64 s.lost,.bool true,.int .i64 0,kv],B_ m lf cf,V3 O4 qv s.queue,B_ m2 ls cs]++σ)→J () w':=by
   intro e w' σ h
   exact hJ lf cf w' hwf (by rw[hstep,e];exact hfs) h.drop
  obtain⟨g,o,hx,hc⟩:=Q4.idx (P:=prog) (V3.read (h.here (i:=2) rfl)) dA hil
  rw[hq] at hc
  simp -zeta only[hx,F6.Q9 hc I9 rfl]
  refine h.r9 (ds:=q.cs.toArray) qQ rfl I9 rfl (fun v hv=>Enc.one q v hv) fun b w4 h=>?_
  have h:=h.tick
  have hlook:∀{w:World} (hm:(B_ m lf cf).here w) {Kp:Value→Prop},Y0 prog (lK u6 (vP m) (.int .i64 q.file) false) w Kp=Kp (.agg #[.string (ZC keep s.queue s.fs i q.file).now,.string (ZC keep s.queue s.fs i q.file).last]) :=
   fun {w} hm {Kp}=>B_.look (x:=q.file) hm JB Oz0 F0 NQ rfl (by rw[←hfs];rfl)
  have hw1:IntKind.i64.wrap (q.number * 64)=q.number * 64:=D5 (by omega) (by omega)
  simp -zeta only[y5,U0 iH,U0 ZQ,U0 dg0,Nat.add_zero,Nat.zero_add,h.ld 0 rfl f_ (o:=0) rfl,h.ld 4 rfl F3 (o:=0) rfl,h.ld 4 rfl F3 (o:=1) rfl,hlook (h.here (i:=1) rfl),dw0,hw1]
  refine h.alloc NQ fun fb w5 h=>?_
  refine⟨h.is 4 rfl F3 (o:=1) rfl,YD0 (hlook (h.here (i:=1) rfl)),h.is 4 rfl F3 (o:=0) rfl,h.is 0 rfl f_ (o:=0) rfl,?_⟩
  generalize hfv:ZC keep s.queue s.fs i q.file=fv at hlook
  have hfn:=hsn q.file
  have hfl:=hsl q.file
  rw[hfv] at hfn hfl
  have hnow:=hF.ok.now q.file
  rw[←hfn] at hnow
  refine h.xI 5 rfl iO (ds:=fv.cs.toArray) rfl rfl (fun v hv=>Enc.one fv v hv) fun w6 h=>?_
  refine⟨h.is 4 rfl F3 (o:=1) rfl,?_⟩
  simp -zeta only[Q4.len r C9,O6,K3]
  refine⟨fun e1=>same (by unfold kU;rw[if_pos (List.eq_nil_of_length_eq_zero (by omega))]) _ _ h,fun e1=>?_⟩
  have hk0:keep≠[]:=fun e=>e1 (by rw[e];rfl)
  have hkp:0<keep.length:=List.length_pos_iff.2 hk0
  have hmod:i % keep.length<keep.length:=Nat.mod_lt _ hkp
  have hrem:(i:Int).tmod (keep.length:Int)=((i % keep.length:Nat):Int):=by
   rw[Int.tmod_eq_emod_of_nonneg (by omega)]
   exact(Int.natCast_emod _ _).symm
  obtain⟨g2,o2,hx2,hc2⟩:=Q4.idx r C9 (P:=prog) hmod
  have hkd:keep.getD (i % keep.length) 0=keep[i % keep.length]:=by rw[List.getD_eq_getElem?_getD,List.getElem?_eq_getElem hmod];rfl
  simp -zeta only[gw0 (show (keep.length:Int)≠0 by omega),hrem,hx2,F6.ld0 (h.K6 hc2) F3 rfl,wa0,WG0,O6,K3]
  refine⟨fun e2=>same (by unfold kU;rw[if_neg hk0,hkd,if_pos e2]) _ _ h,fun e2=>?_⟩
  have hbn:=y8 fv.now
  simp -zeta only[U0 cZ,U0 dZ,Nat.add_zero,Nat.zero_add,h.ld 5 rfl V6 (o:=0) rfl,oK C8,LD,K3]
  refine⟨fun e3=>same (by unfold kU;rw[if_neg hk0,hkd,if_neg e2,hfv,if_pos (by omega)]) _ _ h,fun e3=>?_⟩
  clear same
  have hS:kU keep i q (ZC keep s.queue s.fs i)=upd (ZC keep s.queue s.fs i) q.file ⟨fv.now,zF fv.last (64 * q.number.toNat) (tT fv.now (64 * q.number.toNat))⟩:=by
   unfold kU;rw[if_neg hk0,hkd,if_neg e2,hfv,if_neg (by omega)]
  have h:=h.tick
  have hw2:IntKind.i64.wrap (q.number * 64+64)=q.number * 64+64:=D5 (by omega) (by omega)
  have hmin:min (q.number * 64+64) ((bl fv.now).length:Int)=((min (64 * q.number.toNat+64) fv.now.size:Nat):Int):=by omega
  have hn64:q.number * 64=((64 * q.number.toNat:Nat):Int):=by omega
  simp -zeta only[h.ld 5 rfl V6 (o:=0) rfl,h.ld 5 rfl V6 (o:=1) rfl,oK C8,V5,hw2,PP,hmin]
  rw[hn64,bS C8 (lo:=64 * q.number.toNat) (hi:=min (64 * q.number.toNat+64) fv.now.size) Bnd.some Bnd.some (by omega) (by omega)]
  have hps:=gW (now:=fv.now) (n:=64 * q.number.toNat)
  refine h.ask (fun B2 own base2=>yK0 (s:=fv.last) (t:=tT fv.now (64 * q.number.toNat)) (at_:=64 * q.number.toNat) (by omega) (by omega) (by omega)) fun w7 h=>?_
  refine h.st 5 rfl V6 (show 1<2 by omega) rfl fun w8 h=>?_
  have h:=h.tick
  simp -zeta only[h.ld 0 rfl f_ (o:=0) rfl,h.ld 4 rfl F3 (o:=0) rfl,h.Q9 5 rfl iO rfl]
  refine h.Si0 1 rfl JB Oz0 q.file (⟨fv.now,zF fv.last (64 * q.number.toNat) (tT fv.now (64 * q.number.toNat))⟩:JA) fun w9 h=>?_
  refine hJ _ _ _ (hwf.set _ _) (fun f=>?_) (h.take 4)
  rw[hstep,hS,tV hwf.keys]
  unfold upd
  split
  ·rfl
  ·exact hfs f
 ·have hie:i=s.queue.length:=by omega
  subst hie
  clear hnext
  simp -zeta only[y5,U0 iH,Nat.add_zero,h.ld 0 rfl f_ (o:=0) rfl]
  refine h.range 1 rfl JB fun it w4 h=>?_
  refine M6 (fun _ w'=>∃seen:Array Nat,Rel B' w' [O1 p F5 #[vP m,qv,vP m2,.int .i64 s.lost,.bool true,.int .i64 0,kv],B_ m (nR lf seen) cf,V3 O4 qv s.queue,B_ m2 ls cs,vX it m cf seen cf]) (fun _ w'=>tJ lf (sN w' it))
   ⟨#[],by rw[Zy0];exact h⟩ ?_
  clear h
  rintro x w5 ⟨seen,h⟩ next hnext
  have hms:=NN h (j:=4) rfl
  have hwd:=WC0 hwf seen
  refine h.next 1 4 it rfl rfl hwd.below (fun w6 hall h=>?_) (fun e1 w6 he hns h=>?_)
  ·rw[V4 (v := .bool false) (fun w=>rfl),t_]
   refine h.mkMap Sec Bool fun m3 w7 h=>?_
   simp -zeta only[y5,U0 aQ,U0 EU,Nat.zero_add]
   refine h.st 0 rfl ED (show 1<7 by omega) rfl fun w8 h=>?_
   refine h.st 0 rfl fB (show 2<7 by omega) rfl fun w9 h=>?_
   have h:=h.oG Sec O4
   have h:=h.pick [0,1,6,5] (by decide)
   have hC:rA s keep={ s with fs:=fun f=>⟨(ZC keep s.queue s.fs s.queue.length f).last,(ZC keep s.queue s.fs s.queue.length f).last⟩,queue:=[],down:=true,armed:=0 }:=by
    unfold rA;rw[if_neg (by rw[e];decide)]
   have hall2:nR lf seen=lf.map fun e=>(e.1,(⟨e.2.1.last,e.2.1.last⟩:JA),e.2.2):=by
    unfold nR
    refine List.map_congr_left fun e he=>?_
    have hm:e.2.2∈(nR lf seen).map (·.2.2):=by rw[NV];exact List.mem_map_of_mem he
    obtain⟨e',he',h1⟩:=List.mem_map.1 hm
    have:=hall e' he'
    rw[h1] at this
    rw[if_pos this]
   have hF':DF (rA s keep) (nR lf seen) cf [] 0:=by
    refine⟨hwd,fun f=>?_,WfE.nil,fun q=>?_,hF.ok.IK keep⟩
    ·rw[hC,hall2,rz0 (fun v=>(⟨v.last,v.last⟩:JA))]
     show (⟨_,_⟩:JA)=_
     rw[hfs f]
     cases jH f lf<;>rfl
    ·rw[hC];simp [jH,bE]
   refine k _ _ [] _ ⟨rfl,rfl,rfl⟩ (Y5.close (m:=m) (m2:=m3) (qv := .slice none 0 0) hF' hk ?_)
   rw[hC]
   exact h
  ·rw[PV,VC]
   refine h.entry 1 4 it rfl rfl he hwd.stamps fun w7 h=>?_
   rw[h_,Y9]
   refine h.r9 (ds:=e1.2.1.cs.toArray) NQ rfl iO rfl (fun v hv=>Enc.one e1.2.1 v hv) fun b w8 h=>?_
   have h:=h.tick
   simp -zeta only[y5,U0 iH,U0 dZ,Nat.add_zero,Nat.zero_add,h.ld 0 rfl f_ (o:=0) rfl,h.ld 5 rfl V6 (o:=1) rfl,VU]
   refine h.Si0 1 rfl JB Oz0 e1.1 (⟨e1.2.1.last,e1.2.1.last⟩:JA) fun w9 h=>?_
   obtain⟨s1,s2⟩:=GF0 hwd he (⟨e1.2.1.last,e1.2.1.last⟩:JA)
   rw[s1,s2] at h
   obtain⟨e0,he0,h0⟩:=List.mem_map.1 he
   have he0':e1=e0:=by
    rw[←h0]
    split
    ·rename_i hc
     have:e1.2.2=e0.2.2:=by rw[←h0,if_pos hc]
     rw[this,hc] at hns
     cases hns
    ·rfl
   have hd:(nR lf seen).map (fun e'=>if e'.2.2=e1.2.2 then(e'.1,(⟨e1.2.1.last,e1.2.1.last⟩:JA),e'.2.2) else e')=nR lf (seen.push e1.2.2):=by
    unfold nR
    rw[List.map_map]
    refine List.map_congr_left fun x hx=>?_
    simp only[Function.comp_apply,contains_push]
    by_cases hxe:x=e1
    ·subst hxe
     rw[hns]
     simp
    ·have hne:x.2.2≠e1.2.2:=fun hh=>hxe (by rw[he0'] at hh ⊢;exact hwf.bX hx he0 hh)
     cases hc:seen.contains x.2.2<;>simp [hne]
   rw[hd] at h
   have h:=h.take 5
   refine hnext _ _ ⟨_,h⟩ ?_
   show tJ lf (sN w9 it)<tJ lf (sN w5 it)
   rw[hms,NN h (j:=4) rfl,he0']
   rw[he0'] at hns
   exact KQ he0 hns
end
theorem nS(s:DS):(d_ s).keep=s.keep:=by unfold d_;split<;>rfl
theorem bE0(s:DS)(f:Int)(a:Nat)(t:ByteArray):(vC s f a t).keep=s.keep:=by unfold vC;split<;>rfl
theorem FZ(s:DS)(f a:Int)(t:ByteArray):(ZB s f a t).keep=s.keep:=by unfold ZB;split;exact bE0 _ _ _ _;rfl
theorem DZ(s:DS)(k:List Int):(rA s k).keep=s.keep:=by unfold rA;split<;>rfl
theorem Dd0(s:DS):(FB s).keep=s.keep:=by unfold FB;split;rw[DZ,nS];exact nS s
theorem NG(s:DS)(f a:Int)(t:ByteArray):(F8 s f a t).1.keep=s.keep:=by
 unfold F8
 split
 ·show (rA _ _).keep=_;rw[DZ,FZ,nS]
 ·show (ZB _ _ _ _).keep=_;rw[FZ,nS]
theorem WA(s:DS)(f:Int):(y7 s f).1.keep=s.keep:=by
 unfold y7
 split
 ·exact Dd0 s
 ·split
  ·exact Dd0 s
  ·exact Dd0 s
section
variable {B:Base} {w:World} {p:Nat} {s:DS} {kv:Value}
theorem Oq0{σ:List Dat}(hr:Rel B w σ)(i:Nat)(hi:σ[i]? = some (Y5 p s kv)){Kp:Value→Prop}(k:Kp kv):M0 prog (X4 (ptr p)) fun t0=>M0 prog (O0 F5 t0 6) fun t=>Y0 prog (X0 J6 t) w Kp:=by
 obtain⟨m,lf,cf,m2,ls,cs,qv,hF,hc,hm,hq,hs⟩:=Y5.FO (hr.here hi)
 rw[y5,U0 bZ,Nat.zero_add,O1.ld hc XC (o:=6) rfl]
 exact k
theorem Jm0(r:Q4 kv s.keep B)(hkl:s.keep.length≤1000000)(f at_:Int){t:ByteArray}(ht:t.size≤9223372036854775807):Does prog B (Y5 p s kv) (Z0 vG #[ptr p,.int .i64 f,.int .i64 at_,.string t])
  fun v e' τ=>v = .int .i64 (F8 s f at_ t).2∧e'=Y5 p (F8 s f at_ t).1 kv∧τ=[]:=by
 refine Does.intro fun B' w K base h k=>?_
 replace r:=base r
 refine LM.up ?_
 unfold LM.pt
 unfold F8 at k
 refine h.act 0 rfl (fun B2 own base2=>iD0) fun v e' τ w1 hp h=>?_
 obtain⟨rfl,rfl,rfl⟩:=hp
 refine h.act 0 rfl (fun B2 own base2=>ZJ0 f at_ ht) fun v e' τ w2 hp h=>?_
 obtain⟨rfl,rfl,rfl⟩:=hp
 have h:Rel B' w2 [Y5 p (ZB (d_ s) f at_ t) kv]:=h
 rw[Q5]
 refine⟨fun e=>?_,fun e=>?_⟩
 ·rw[if_pos e] at k
  refine Oq0 h 0 rfl ?_
  have hk:(ZB (d_ s) f at_ t).keep=s.keep:=by rw[FZ,nS]
  refine h.act 0 rfl (fun B2 own base2=>mn0 (keep:=(ZB (d_ s) f at_ t).keep) (by rw[hk];exact base2 r) (by rw[hk];omega)) fun v e' τ w3 hp h=>?_
  obtain⟨rfl,rfl,rfl⟩:=hp
  exact k _ _ [] _ ⟨rfl,rfl,rfl⟩ h
 ·rw[if_neg (by rw[e];decide)] at k
  exact k _ _ [] _ ⟨rfl,rfl,rfl⟩ h
theorem qL0{σ:List Dat}{K:World→Prop}(r:Q4 kv s.keep B)(hkl:s.keep.length≤1000000)(h:Rel B w [Y5 p s kv])(k:∀w',Rel B w' [Y5 p (FB s) kv]→K w') :
  upK prog (Z0 YH #[ptr p]) w fun t7 w5=>ifB t7 (M0 prog (X4 (ptr p)) fun t10=>M0 prog (O0 F5 t10 6) fun t11=>Y0 prog (X0 J6 t11) w5 fun t12=>upK prog (Z0 kE #[ptr p,t12]) w5 fun t13 w6=>K w6) (K w5):=by
 refine h.act 0 rfl (fun B2 own base2=>iD0) fun v e' τ w1 hp h=>?_
 obtain⟨rfl,rfl,rfl⟩:=hp
 unfold FB at k
 rw[Q5]
 refine⟨fun e=>?_,fun e=>?_⟩
 ·rw[if_pos e] at k
  refine Oq0 h 0 rfl ?_
  have hk:(d_ s).keep=s.keep:=nS s
  refine h.act 0 rfl (fun B2 own base2=>mn0 (keep:=(d_ s).keep) (by rw[hk];exact base2 r) (by rw[hk];omega)) fun v e' τ w3 hp h=>?_
  obtain⟨rfl,rfl,rfl⟩:=hp
  exact k _ h
 ·rw[if_neg (by rw[e];decide)] at k
  exact k _ h
theorem Tc0(r:Q4 kv s.keep B)(hkl:s.keep.length≤1000000)(f:Int):Does prog B (Y5 p s kv) (Z0 oC #[ptr p,.int .i64 f]) fun v e' τ=>v = .int .i64 (y7 s f).2∧e'=Y5 p (y7 s f).1 kv∧τ=[]:=by
 refine Does.intro fun B' w K base h k=>?_
 replace r:=base r
 refine qO.up ?_
 unfold qO.pt
 unfold y7 at k
 refine Q6 fun J hJ=>?_
 replace hJ:∀w',Rel B' w' [Y5 p (FB s) kv]→J () w':=by
  intro w1 h
  refine hJ _ _ ?_
  clear hJ
  obtain⟨m,lf,cf,m2,ls,cs,qv,hF,hk,h⟩:=Y5.open_ h
  refine h.ask (fun B2 own base2=>uE0 (own (i:=0) rfl) f) fun w2 h=>?_
  simp -zeta only[X7,K5,K3]
  refine⟨fun e0=>?_,fun e0=>?_⟩
  ·rw[if_neg (by simpa using e0)] at k
   simp -zeta only[y5,U0 aZ,Nat.zero_add,h.ld 0 rfl F3 (o:=3) rfl,A_,K3]
   refine⟨fun e1=>?_,fun e1=>?_⟩
   ·rw[if_pos e1] at k
    have hl:=hF.ok.lost
    rw[eF,D5 (by omega) (by omega)]
    refine h.st 0 rfl F3 (show 3<7 by omega) rfl fun w3 h=>?_
    have hF':DF { FB s with lost:=(FB s).lost-1 } lf cf ls cs:=⟨hF.wf,hF.files,hF.ws,hF.set_,⟨hF.ok.now,hF.ok.last,hF.ok.q,hF.ok.nd,by show 0≤(FB s).lost-1∧(FB s).lost-1≤_;omega,hF.ok.armed⟩⟩
    exact k _ _ [] _ ⟨rfl,rfl,rfl⟩ (Y5.close hF' hk h)
   ·rw[if_neg e1] at k
    simp -zeta only[U0 iH,Nat.add_zero,h.ld 0 rfl f_ (o:=0) rfl,wd0 hF (h.here (i:=1) rfl),nq0 (cs:=#[.string ((FB s).fs f).now,.string ((FB s).fs f).last]) (v := .string ((FB s).fs f).now) gZ rfl]
    have hn:=hF.ok.now f
    have h:=Y5.close hF hk h
    refine h.act 0 rfl (fun B2 own base2=>IF0 f hn) fun v e' τ w3 hp h=>?_
    obtain⟨rfl,rfl,rfl⟩:=hp
    exact k _ _ [] _ ⟨rfl,rfl,rfl⟩ h
  ·rw[if_pos e0] at k
   exact k _ _ [] _ ⟨rfl,rfl,rfl⟩ (Y5.close hF hk h)
 exact qL0 (σ:=[]) (K:=fun w=>J () w) r hkl h hJ
theorem It0:Makes prog B (Z0 oZ #[]) fun v τ=>∃p,v=ptr p∧τ=[Y5 p wB (.slice none 0 0)]:=by
 refine Makes.intro fun B' w K base h k=>?_
 refine Ba0.up ?_
 unfold Ba0.pt
 refine h.mkMap Int JA fun m w1 h=>?_
 refine h.mkMap Sec Bool fun m2 w2 h=>?_
 rw[md0]
 refine h.box fun p w3 h=>?_
 have h:=h.oG Sec O4
 have h:=h.pick [2,0,3,1] (by decide)
 have hF:DF wB [] 0 [] 0:=⟨WfE.nil,fun _=>rfl,WfE.nil,fun q=>by simp [jH,bE,wB],dx0⟩
 exact k _ _ _ ⟨p,rfl,rfl⟩ (Y5.close (m:=m) (m2:=m2) (qv := .slice none 0 0) hF rfl h)
end
theorem Oa0{s:DS}(h:s.armed=0):bP s=false∧d_ s=s:=by
 unfold bP d_
 rw[h]
 simp
theorem jn0{s:DS}(h:s.armed=0):FB s=s:=by
 obtain⟨h1,h2⟩:=Oa0 h
 unfold FB
 rw[if_neg (by rw[h1];decide),h2]
theorem Sk0{s:DS}(h:s.armed=0)(f a:Int)(t:ByteArray):F8 s f a t=(ZB s f a t,vJ s f a t):=by
 obtain⟨h1,h2⟩:=Oa0 h
 unfold F8
 rw[if_neg (by rw[h1];decide),h2]
theorem op0(s:DS)(f:Int)(a:Nat)(t:ByteArray):(vC s f a t).down=s.down:=by unfold vC;split<;>rfl
theorem ac0{s:DS}{f a n:Int}(h:wP s f=0)(ha:0≤a)(hn:0≤n):GD s f a n=(ofL (((bl (s.fs f).now).drop a.toNat).take n.toNat),0):=by
 unfold GD
 rw[if_neg (by simpa using h),if_neg (by omega),if_neg (by omega)]
theorem Rh0{s:DS}(h:s.down=false)(keep:List Int)(f:Int):((rA s keep).fs f)=⟨(ZC keep s.queue s.fs s.queue.length f).last,(ZC keep s.queue s.fs s.queue.length f).last⟩:=by
 unfold rA;rw[if_neg (by rw[h];decide)]
structure QI (f:Int) (X:ByteArray) (s:DS):Prop where
 fs:s.fs f=⟨X,X⟩
 q:∀q∈s.queue,q.file≠f
theorem Ur0{f:Int}{keep:List Int}{qs:List Sec}{fs:Int→JA}(hq:∀q∈qs,q.file≠f):∀n,n≤qs.length→ZC keep qs fs n f=fs f:=by
 intro n
 induction n with
 | zero=>intro _;rfl
 | succ n ih =>
  intro hn
  have hg:qs.getD n ⟨0,0⟩=qs[n]'(by omega):=by rw[List.getD_eq_getElem?_getD,List.getElem?_eq_getElem (by omega)];rfl
  have hne:=hq _ (List.getElem_mem (show n<qs.length by omega))
  show kU keep n (qs.getD n ⟨0,0⟩) (ZC keep qs fs n) f=_
  rw[hg]
  unfold kU
  split
  ·exact ih (by omega)
  ·split
   ·exact ih (by omega)
   ·split
    ·exact ih (by omega)
    ·rw[upd_ne (Ne.symm hne)]
     exact ih (by omega)
theorem QI.IK{f:Int}{X:ByteArray}{s:DS}(h:QI f X s)(keep:List Int):QI f X (rA s keep):=by
 unfold rA
 split
 ·exact h
 ·refine⟨?_,fun q hq=>by cases hq⟩
  show (⟨(ZC keep s.queue s.fs s.queue.length f).last,(ZC keep s.queue s.fs s.queue.length f).last⟩:JA)=_
  rw[Ur0 h.q _ (Nat.le_refl _),h.fs]
theorem QI.ends{f:Int}{X:ByteArray}{s:DS}(h:QI f X s):QI f X (d_ s):=by unfold d_;split;exact h;exact⟨h.fs,h.q⟩
theorem QI.come{f:Int}{X:ByteArray}{s:DS}(h:QI f X s):QI f X (FB s):=by unfold FB;split;exact h.ends.IK _;exact h.ends
theorem QI.write{f g:Int}{X:ByteArray}{s:DS}(h:QI f X s)(hg:g≠f)(a:Int)(t:ByteArray):QI f X (ZB s g a t):=by
 unfold ZB vC
 split
 ·split
  ·exact h
  ·refine⟨?_,fun q hq=>?_⟩
   ·show upd s.fs g _ f=_
    rw[upd_ne (Ne.symm hg)];exact h.fs
   ·rcases zJ.1 hq with hq | ⟨n,_,rfl⟩
    ·exact h.q q hq
    ·exact hg
 ·exact h
theorem QI.settle{f g:Int}{X Y:ByteArray}{s:DS}(h:QI f X s)(hg:g≠f):QI f X (UH s g Y):=by
 refine⟨?_,fun q hq=>h.q q (List.mem_filter.1 hq).1⟩
 show upd s.fs g _ f=_
 rw[upd_ne (Ne.symm hg)];exact h.fs
theorem Aa0(s:DS)(k:List Int):(rA s k).down=true:=by
 unfold rA
 split
 ·assumption
 ·rfl
theorem tB0(s:DS)(f a:Int)(t:ByteArray):vJ s f a t=if wP s f≠0 then wP s f else if a<0 then 1 else if ¬(0≤a∧a+t.size≤16777216) then 6 else 0:=by
 unfold vJ
 by_cases c0:wP s f≠0
 ·rw[if_pos c0,if_pos c0]
 rw[if_neg c0,if_neg c0]
 by_cases c1:a<0
 ·rw[if_pos c1,if_pos c1]
 rw[if_neg c1,if_neg c1]
 by_cases c2:16777216<a
 ·rw[if_pos c2,if_pos (by omega)]
 rw[if_neg c2]
 by_cases c3:16777216-a<t.size
 ·rw[if_pos c3,if_pos (by omega)]
 ·rw[if_neg c3,if_neg (by omega)]
theorem Oc0{s:DS}(hd:s.down=false){f a:Int}{t:ByteArray}:vJ s f a t=0↔(0≤f∧f<16)∧0≤a∧a+t.size≤16777216:=by
 have hm:=BL (s:=s) (f:=f)
 rw[tB0]
 constructor
 ·intro h
  by_cases c0:wP s f≠0
  ·rw[if_pos c0] at h;exact absurd h c0
  rw[if_neg c0] at h
  by_cases c1:a<0
  ·rw[if_pos c1] at h;omega
  rw[if_neg c1] at h
  by_cases c2:0≤a∧a+t.size≤16777216
  ·exact⟨(hm.1 (by simpa using c0)).2,c2⟩
  ·rw[if_pos c2] at h;omega
 ·rintro⟨h1,h2,h3⟩
  rw[if_neg (by rw[hm.2 ⟨hd,h1⟩];decide),if_neg (by omega),if_neg (by omega)]
theorem VT(s:DS):(d_ s).down=s.down:=by unfold d_;split<;>rfl
theorem eq0{s:DS}(h:bP s=true):s.down=false:=by
 unfold bP at h
 cases hd:s.down
 ·rfl
 ·rw[hd] at h;cases h
structure CS where
 slot:Int
 value:ByteArray
 sure:Bool
def c0S:CS:=⟨0,⟨#[]⟩,false⟩
def NE(k:Int):Int:=if k=2 then 131072 else 64
def xQ(k n:Nat):List UInt8:=[UInt8.ofNat k,UInt8.ofNat n,UInt8.ofNat (n / 256),UInt8.ofNat (n / 65536),UInt8.ofNat (n / 16777216)]
def rX(l:List UInt8):Nat:=(l.getD 1 0).toNat+256 * (l.getD 2 0).toNat+65536 * (l.getD 3 0).toNat+16777216 * (l.getD 4 0).toNat
def Wu0(l:List UInt8):Nat→Nat
 | 0=>0
 | j+1=>Wu0 l j * 256+(l.getD (4-j) 0).toNat
theorem iM0(l:List UInt8):Wu0 l 4=rX l:=by
 show (((0 * 256+(l.getD 4 0).toNat) * 256+(l.getD 3 0).toNat) * 256+(l.getD 2 0).toNat) * 256+(l.getD 1 0).toNat=_
 unfold rX
 omega
theorem rs0(x:UInt8):x.toNat<256:=x.toNat_lt
theorem AI0(l:List UInt8)(j:Nat)(hj:j≤4):Wu0 l j≤4294967296:=by
 have h0:=rs0 (l.getD 4 0)
 have h1:=rs0 (l.getD 3 0)
 have h2:=rs0 (l.getD 2 0)
 have h3:=rs0 (l.getD 1 0)
 have:j=0∨j=1∨j=2∨j=3∨j=4:=by omega
 rcases this with rfl | rfl | rfl | rfl | rfl
 ·exact Nat.zero_le _
 ·show 0 * 256+(l.getD 4 0).toNat≤_;omega
 ·show (0 * 256+(l.getD 4 0).toNat) * 256+(l.getD 3 0).toNat≤_;omega
 ·show ((0 * 256+(l.getD 4 0).toNat) * 256+(l.getD 3 0).toNat) * 256+(l.getD 2 0).toNat≤_;omega
 ·show (((0 * 256+(l.getD 4 0).toNat) * 256+(l.getD 3 0).toNat) * 256+(l.getD 2 0).toNat) * 256+(l.getD 1 0).toNat≤_;omega
def lr0(s:DS)(f:Int)(l:List UInt8):Option CS×Int :=
 if l.length<5 then(none,2) else if l.getD 0 0≠1∧l.getD 0 0≠2 then(none,2) else if 65536<rX l then(none,2)
 else if(GD s f (NE (l.getD 0 0).toNat) (rX l)).2≠0 then(none,(GD s f (NE (l.getD 0 0).toNat) (rX l)).2)
 else if(GD s f (NE (l.getD 0 0).toNat) (rX l)).1.size<rX l then(none,2)
 else(some ⟨(l.getD 0 0).toNat,(GD s f (NE (l.getD 0 0).toNat) (rX l)).1,false⟩,0)
def KN(s:DS)(f:Int):Option CS×Int :=
 if(GD s f 0 5).2≠0 then(none,(GD s f 0 5).2) else if(GD s f 0 5).1=⟨#[]⟩ then(some c0S,0) else if(bl (GD s f 0 5).1).getD 0 0=0 then(some c0S,0)
 else lr0 s f (bl (GD s f 0 5).1)
theorem PZ(s:DS)(f a n:Int):(GD s f a n).1.size≤n.toNat:=by
 unfold GD
 split
 ·exact Nat.zero_le _
 ·split
  ·exact Nat.zero_le _
  ·split
   ·exact Nat.zero_le _
   ·show (ofL _).size≤_
    rw[J_,List.length_take]
    omega
def u_(st:CS):Int:=if st.slot=1 then 2 else 1
def XE(s:DS)(st:CS)(f:Int):DS×Int:=if st.sure=false∧0<st.slot then y7 s f else(s,0)
def qD(st:CS):CS:={ st with sure:=st.sure||decide (0<st.slot) }
def kC(st:CS)(v:ByteArray):ByteArray:=ofL (xQ (u_ st).toNat v.size)
def Bo0(s:DS)(st:CS)(f:Int)(v:ByteArray):(DS×CS)×Int :=
 if(F8 s f 0 (kC st v)).2≠0 then(((F8 s f 0 (kC st v)).1,st),(F8 s f 0 (kC st v)).2)
 else(((y7 (F8 s f 0 (kC st v)).1 f).1,⟨u_ st,v,decide ((y7 (F8 s f 0 (kC st v)).1 f).2=0)⟩),(y7 (F8 s f 0 (kC st v)).1 f).2)
def set2(s:DS)(st:CS)(f:Int)(v:ByteArray):(DS×CS)×Int:=if(y7 s f).2≠0 then(((y7 s f).1,st),(y7 s f).2) else Bo0 (y7 s f).1 st f v
def set1(s:DS)(st:CS)(f:Int)(v:ByteArray):(DS×CS)×Int:=if(F8 s f (NE (u_ st)) v).2≠0 then(((F8 s f (NE (u_ st)) v).1,st),(F8 s f (NE (u_ st)) v).2) else set2 (F8 s f (NE (u_ st)) v).1 st f v
def vM(s:DS)(st:CS)(f:Int)(v:ByteArray):(DS×CS)×Int :=
 if 65536<v.size then((s,st),6) else if(XE s st f).2≠0 then(((XE s st f).1,st),(XE s st f).2) else set1 (XE s st f).1 (qD st) f v
theorem EZ(s:DS)(st:CS)(f:Int):(XE s st f).1.keep=s.keep:=by unfold XE;split;exact WA s f;rfl
theorem Tz0(s:DS)(st:CS)(f:Int)(v:ByteArray):(Bo0 s st f v).1.1.keep=s.keep:=by
 unfold Bo0
 split
 ·exact NG _ _ _ _
 ·show (y7 _ _).1.keep=_;rw[WA,NG]
theorem Sz0(s:DS)(st:CS)(f:Int)(v:ByteArray):(set2 s st f v).1.1.keep=s.keep:=by
 unfold set2
 split
 ·exact WA _ _
 ·rw[Tz0,WA]
theorem Rz0(s:DS)(st:CS)(f:Int)(v:ByteArray):(set1 s st f v).1.1.keep=s.keep:=by
 unfold set1
 split
 ·exact NG _ _ _ _
 ·rw[Sz0,NG]
theorem Dl0(s:DS)(st:CS)(f:Int)(v:ByteArray):(vM s st f v).1.1.keep=s.keep:=by
 unfold vM
 split
 ·rfl
 ·split
  ·exact EZ _ _ _
  ·rw[Rz0,EZ]
theorem II(st:CS):u_ st=1∨u_ st=2:=by unfold u_;split;exact .inr rfl;exact .inl rfl
def bM(st:CS):Prop:=st.slot=0∨st.slot=1∨st.slot=2
theorem wrap_u8(m:Nat):IntKind.u8.wrap (m:Int)=((UInt8.ofNat m).toNat:Int):=by
 have:(UInt8.ofNat m).toNat=m % 256:=by simp
 rw[this]
 simp [IntKind.wrap,IntKind.bits,IntKind.signed]
theorem FI0(n b:Nat)(hn:n<1099511627776)(hb:b<256):IntKind.wrap .i64 (BitVec.ofInt IntKind.i64.bits ((n * 256:Nat):Int) ||| BitVec.ofInt IntKind.i64.bits (b:Int)).toNat=((n * 256+b:Nat):Int):=by
 have h1:(n * 256) ||| b=n * 256+b:=by
  have:=Nat.shiftLeft_add_eq_or_of_lt (i:=8) (b:=b) (by omega) n
  rw[Nat.shiftLeft_eq] at this
  exact this.symm
 rw[BitVec.toNat_or,BitVec.ofInt_natCast,BitVec.ofInt_natCast,BitVec.toNat_ofNat,BitVec.toNat_ofNat]
 show IntKind.wrap .i64 (((n * 256 % 2 ^ 64) ||| (b % 2 ^ 64):Nat):Int)=_
 rw[Nat.mod_eq_of_lt (by omega),Nat.mod_eq_of_lt (by omega),h1]
 exact D5 (by omega) (by omega)
section
variable {P:Program} {Kp:Value→Prop} {s:ByteArray} {T:TypeId}
theorem Oo0{z:Int}(i:Nat)(hT:P.underlying T=some .string)(hi:i<s.size)(hz:z=i:=by rfl):M0 P (RZ T (.string s) (.int .i64 z)) Kp=Kp (.int .u8 ((bl s).getD i 0).toNat):=by
 subst hz
 rw[BJ0 hT hi]
 have:(bl s).getD i 0=(bl s)[i]'(by rw[y8];exact hi):=by
  rw[List.getD_eq_getElem?_getD,List.getElem?_eq_getElem (by rw[y8];exact hi)];rfl
 rw[this]
theorem DM0{T:TypeId}{xo yo:Operand}{x:UInt8}(n:Nat)(hn:n<256):M0 P (Y3 .eql T xo yo (.int .u8 x.toNat) (.int .u8 (n:Int))) Kp=Kp (.bool (decide (x=UInt8.ofNat n))):=by
 rw[O6]
 congr 2
 refine decide_eq_decide.2 ⟨fun h=>UInt8.toNat_inj.1 ?_,fun h=>?_⟩
 ·have:(UInt8.ofNat n).toNat=n % 256:=by simp
  omega
 ·rw[h]
  have:(UInt8.ofNat n).toNat=n % 256:=by simp
  omega
end
section
variable {B:Base} {w:World} {p:Nat} {s:DS} {kv:Value}
theorem Bq0{k:Nat}{t:ByteArray}(hs:t.size≤1000000):Gives prog B (Z0 MP #[.int .i64 k,.string t]) (.string (ofL (xQ k t.size))):=by
 refine Gives.intro fun B' w K base h fin=>?_
 refine TT.up ?_
 unfold TT.pt
 have hb:=y8 t
 rw[ZU TW UX,wrap_u8]
 refine h.bH (α:=UInt8) (UInt8.ofNat k) tN (by decide) fun v1 w1 h=>?_
 rw[oK C8,hb]
 refine M6 (fun x w'=>∃(j:Nat) (v:Value),j≤4∧x=(v,.int .i64 ((t.size / 256 ^ j:Nat):Int),())∧Rel B' w' [V3 p_ v ((xQ k t.size).take (j+1))]) (fun x _=>5-(match x.1 with | .slice _ n _=>n | _=>0))
  ⟨0,v1,by omega,by simp,h⟩ ?_
 clear h
 rintro x w2 ⟨j,v,hj,rfl,h⟩ next hnext
 have hl:((xQ k t.size).take (j+1)).length=j+1:=by rw[List.length_take];show min (j+1) 5=j+1;omega
 obtain⟨g,cap,hv⟩:=h.open_ (i:=0) rfl (by rw[hl];omega)
 have hr:=V3.read (h.here (i:=0) rfl)
 simp -zeta only[Q4.len hr tN,D6,K3]
 rw[hl]
 refine⟨fun hlt=>?_,fun hge=>?_⟩
 ·rw[ZU TW UX,wrap_u8]
  refine h.Df0 (α:=UInt8) 0 rfl (UInt8.ofNat (t.size / 256 ^ j)) tN (by decide) (by rw[hl];omega) (by rw[hl];omega) fun v2 w3 h=>?_
  have e:(xQ k t.size).take (j+1)++[UInt8.ofNat (t.size / 256 ^ j)]=(xQ k t.size).take (j+2):=by
   have:j=0∨j=1∨j=2∨j=3:=by omega
   rcases this with rfl | rfl | rfl | rfl<;>simp [xQ]
  have h:Rel B' w3 [V3 p_ v2 ((xQ k t.size).take (j+1)++[UInt8.ofNat (t.size / 256 ^ j)])]:=h
  rw[e] at h
  rw[wg0 (by decide)]
  have e2:(((t.size / 256 ^ j:Nat):Int).fdiv (2 ^ min (8:Int).toNat IntKind.i64.bits))=((t.size / 256 ^ (j+1):Nat):Int):=by
   show (((t.size / 256 ^ j:Nat):Int).fdiv 256)=_
   rw[Int.fdiv_eq_ediv_of_nonneg _ (by omega),Nat.pow_succ,←Nat.div_div_eq_div_mul]
   omega
  rw[e2]
  have hl2:((xQ k t.size).take (j+2)).length=j+2:=by rw[List.length_take];show min (j+2) 5=j+2;omega
  obtain⟨g2,cap2,hv2⟩:=h.open_ (i:=0) rfl (by rw[hl2];omega)
  refine hnext _ _ ⟨j+1,v2,by omega,rfl,h⟩ ?_
  rw[hv,hv2]
  simp only
  omega
 ·have hj4:j=4:=by omega
  subst hj4
  exact JC (Op0 (V3.read (h.here (i:=0) rfl)) Zc0 UX C8) (fin _ _ h)
abbrev ccs(p:Nat)(f:Int)(st:CS):Array Value:=#[ptr p,.int .i64 f,.int .i64 st.slot,.string st.value,.bool st.sure]
def bR:Dat:=F6 0 0 [.int .i64 0,.int .i64 64,.int .i64 131072]
theorem off_1{Kp:Value→Prop}:M0 prog (Y4 IM (.pointer (some ⟨0,0,none⟩)) (.int .i64 1)) Kp=Kp (.pointer (some ⟨0,1,none⟩)):=V4 fun w=>by kernel_rfl
theorem off_2{Kp:Value→Prop}:M0 prog (Y4 IM (.pointer (some ⟨0,0,none⟩)) (.int .i64 2)) Kp=Kp (.pointer (some ⟨0,2,none⟩)):=V4 fun w=>by kernel_rfl
theorem RE0{σ:List Dat}(hT:bR B)(h:Rel B w σ){k:Int}(hk:k=1∨k=2){Kp:Value→Prop} :
  M0 prog (Y4 IM (.pointer (some ⟨0,0,none⟩)) (.int .i64 k)) (fun t=>Y0 prog (X0 Q0 t) w Kp)=Kp (.int .i64 (NE k)):=by
 have hT:F6 0 0 [.int .i64 0,.int .i64 64,.int .i64 131072] B:=hT
 rcases hk with rfl | rfl
 ·rw[off_1]
  exact F6.ld (h.K6 hT) F3 (j:=1) rfl
 ·rw[off_2]
  exact F6.ld (h.K6 hT) F3 (j:=2) rfl
theorem bK0{c:Nat}{f:Int}{st:CS}(hc:O1 c M4 (ccs p f st) B):Gives prog B (Z0 xM #[ptr c]) (.tuple #[.string st.value,.bool (decide (0<st.slot))]):=by
 refine Gives.intro fun B' w K base h k=>?_
 replace hc:=base hc
 refine QP.up ?_
 unfold QP.pt
 have h:=h.tick
 simp -zeta only[y5,U0 DU,U0 qM,Nat.zero_add,O1.ld (h.K6 hc) V6 (o:=3) rfl,O1.ld (h.K6 hc) F3 (o:=2) rfl,A_]
 exact k _ _ h
theorem qw0(hT:bR B)(hd:Y5 p s kv B)(f:Int):Makes prog B (Z0 NT #[ptr p,.int .i64 f])
  fun v τ=>(∃c st,KN s f=(some st,0)∧v = .tuple #[ptr c,.int .i64 0]∧τ=[O1 c M4 (ccs p f st)])∨((KN s f).1=none∧v = .tuple #[.pointer none,.int .i64 (KN s f).2]∧τ=[]):=by
 refine Makes.intro fun B' w K base h k=>?_
 replace hT:=base hT
 replace hd:=base hd
 refine XX.up ?_
 unfold XX.pt
 have no:∀w' σ e,Rel B' w' σ→KN s f=(none,e)→K (.tuple #[.pointer none,.int .i64 e]) w':=fun w' σ e h he=>k _ _ _ (.inr ⟨by rw[he],by rw[he],rfl⟩) h.nil
 have yes:∀w' c st,Rel B' w' [O1 c M4 (ccs p f st)]→KN s f=(some st,0)→K (.tuple #[ptr c,.int .i64 0]) w':=fun w' c st h he=>k _ _ _ (.inl ⟨c,st,he,rfl,rfl⟩) h
 clear k
 rw[gd0]
 refine h.box fun c w1 h=>?_
 have h:Rel B' w1 [O1 c M4 (ccs p f c0S)]:=h
 refine h.ask (fun B2 own base2=>Ws0 (base2 hd) f 0 5) fun w2 h=>?_
 unfold KN at no yes
 have hsz:=PZ s f 0 5
 generalize hR:GD s f 0 5=R at no yes hsz
 obtain⟨hd0,e0⟩:=R
 have hsz:hd0.size≤5:=hsz
 dsimp only at no yes
 simp -zeta only[h_,Y9,X7,K5,K3]
 refine⟨fun z=>?_,fun z=>no _ _ _ h (by rw[if_pos z])⟩
 have z:e0=0:=z
 subst z
 rw[if_neg (fun hh=>hh rfl)] at no yes
 rw[WT,K3]
 refine⟨fun e1=>yes _ _ _ h (by rw[if_pos e1]),fun e1=>?_⟩
 rw[if_neg e1] at no yes
 have hpos:=size_pos e1
 have hbl:=y8 hd0
 simp -zeta only[Oo0 (z:=0) 0 C8 hpos]
 rw[show ((.int .u8 0:Value)) = .int .u8 ((0:Nat):Int) from rfl,DM0 0 (by decide),show UInt8.ofNat 0=0 from rfl,K3]
 refine⟨fun e2=>yes _ _ _ h (by rw[if_pos e2]),fun e2=>?_⟩
 rw[if_neg e2] at no yes
 unfold lr0 at no yes
 refine Q6 fun J hJ=>?_
 replace hJ:(bl hd0).length=5→((bl hd0).getD 0 0=1∨(bl hd0).getD 0 0=2)→J () w2:=by
  intro hl hk
  refine hJ _ _ ?_
  clear hJ
  rw[if_neg (by omega),if_neg (by rintro⟨a,b⟩;rcases hk with hk | hk;exact a hk;exact b hk)] at no yes
  refine M6 (fun x w'=>∃j:Nat,j≤4∧x=(.int .i64 (Wu0 (bl hd0) j),.int .i64 ((4-j:Nat):Int),())∧Rel B' w' [O1 c M4 (ccs p f c0S)]) (fun x _=>(match x.2.1 with | .int _ n=>n.toNat | _=>0))
   ⟨0,by omega,rfl,h⟩ ?_
  clear h
  rintro x w3 ⟨j,hj,rfl,h⟩ next hnext
  have hlt:=AI0 (bl hd0) j hj
  simp -zeta only[A_,K3]
  refine⟨fun hg=>?_,fun hg=>?_⟩
  ·have hb:=rs0 ((bl hd0).getD (4-j) 0)
   have hw:IntKind.i64.wrap ((Wu0 (bl hd0) j:Int) * 2 ^ min (8:Int).toNat IntKind.i64.bits)=((Wu0 (bl hd0) j * 256:Nat):Int):=by
    show IntKind.i64.wrap ((Wu0 (bl hd0) j:Int) * 256)=_
    rw[D5 (by omega) (by omega)]
    omega
   rw[cH0 (by decide),hw,Oo0 (4-j) C8 (by omega),ZU UX TW,D5 (by omega) (by omega),sC0,FI0 _ _ (by omega) hb,eF,D5 (by omega) (by omega)]
   exact hnext _ _ ⟨j+1,by omega,by rw[show ((4-j:Nat):Int)-1=((4-(j+1):Nat):Int) by omega];rfl,h⟩ (by simp only;omega)
  ·have hj4:j=4:=by omega
   subst hj4
   rw[iM0] at hlt ⊢
   clear hnext hg
   generalize hn:rX (bl hd0)=n at hlt no yes
   refine⟨fun e3=>no _ _ _ h (by rw[if_pos (by omega)]),fun e3=>?_⟩
   rw[if_neg (by omega)] at no yes
   have hk0:(((bl hd0).getD 0 0).toNat:Int)=1∨(((bl hd0).getD 0 0).toNat:Int)=2:=by
    rcases hk with hk | hk
    ·rw[hk];exact .inl rfl
    ·rw[hk];exact .inr rfl
   rw[ZU UX TW]
   generalize (((bl hd0).getD 0 0).toNat:Int)=x at hk0 no yes
   rw[D5 (by omega) (by omega)]
   simp -zeta only[y5,U0 qM,U0 DU,Nat.zero_add]
   refine h.st 0 rfl F3 (show 2<5 by omega) rfl fun w4 h=>?_
   simp -zeta only[h.ld 0 rfl F3 (o:=2) rfl]
   rw[RE0 hT h hk0]
   refine h.ask (fun B2 own base2=>Ws0 (base2 hd) f (NE x) (n:Int)) fun w5 h=>?_
   have hsz2:=PZ s f (NE x) (n:Int)
   generalize GD s f (NE x) (n:Int)=R2 at no yes hsz2
   obtain⟨t,e4⟩:=R2
   dsimp only at no yes
   simp -zeta only[h_,Y9]
   refine h.st 0 rfl V6 (show 3<5 by omega) rfl fun w6 h=>?_
   have hbt:=y8 t
   refine Q6 fun J2 hJ2=>?_
   simp -zeta only[O6,K3,h.ld 0 rfl V6 (o:=3) rfl,oK C8,D6]
   refine⟨fun e5=>⟨fun e6=>hJ2 _ _ ?_,fun e6=>hJ2 _ _ ?_⟩,fun e5=>hJ2 _ _ ?_⟩
   ·have e5:e4=0:=e5
    subst e5
    rw[if_neg (fun hh=>hh rfl),if_pos (by show t.size<n;omega)] at no
    rw[X7,decide_eq_false (by decide),Bool.not_false,VC]
    exact no _ _ _ h rfl
   ·have e5:e4=0:=e5
    subst e5
    rw[if_neg (fun hh=>hh rfl),if_neg (by show ¬t.size<n;omega)] at yes
    rw[X7,decide_eq_true rfl,Bool.not_true,t_]
    exact yes _ c ⟨x,t,false⟩ h rfl
   ·have e5:¬e4=0:=e5
    rw[if_pos e5] at no
    rw[X7,decide_eq_false e5,Bool.not_false,VC]
    exact no _ _ _ h rfl
 simp -zeta only[oK C8,D6,K3,Oo0 (z:=0) 0 C8 hpos]
 refine⟨fun e3=>no _ _ _ h (by rw[if_pos (by omega)]),fun e3=>?_⟩
 have h5:(bl hd0).length=5:=by omega
 rw[if_neg (by omega)] at no
 have n1:∀{Kp:Value→Prop} {a b:Operand},M0 prog (Y3 .neq p_ a b (.int .u8 ((bl hd0).getD 0 0).toNat) (.int .u8 1)) Kp=Kp (.bool (!decide ((bl hd0).getD 0 0=1))):=by
  intro Kp a b
  rw[X7]
  congr 3
  exact decide_eq_decide.2 ⟨fun h=>UInt8.toNat_inj.1 (by have:(1:UInt8).toNat=1:=rfl;omega),fun h=>by rw[h];rfl⟩
 have n2:∀{Kp:Value→Prop} {a b:Operand},M0 prog (Y3 .neq p_ a b (.int .u8 ((bl hd0).getD 0 0).toNat) (.int .u8 2)) Kp=Kp (.bool (!decide ((bl hd0).getD 0 0=2))):=by
  intro Kp a b
  rw[X7]
  congr 3
  exact decide_eq_decide.2 ⟨fun h=>UInt8.toNat_inj.1 (by have:(2:UInt8).toNat=2:=rfl;omega),fun h=>by rw[h];rfl⟩
 rw[n1,K5,K3]
 refine⟨fun k1=>hJ h5 (.inl k1),fun k1=>?_⟩
 rw[n2,K5,K3]
 exact⟨fun k2=>hJ h5 (.inr k2),fun k2=>no _ _ _ h (by rw[if_pos ⟨k1,k2⟩])⟩
end
end Go.Proofs.YtngbebnhegcokaaGreatDoor
namespace Go.Proofs.YtngbebnhegcokaaGreatDoor
open Go.Proofs.Tryz (prog)
open Go.ChangeShapes Go.WideShapes Go.ChangeAt Go.RowKit
set_option maxRecDepth 100000
theorem Ki0{P:Program}{w:World}:∀{l:List (String×DataW Unit)} {ps:List MemPlace},DataW.LaidVars P w l ps→∀n d,(n,d)∈l →
  ∃g t cs fuel p,P.globalNamed n=some g∧(P.globals[g]?).map (·.type)=some t∧w.var? P n=some cs∧DataW.trod (fun _=>()) P w 0 (fun _=>true) false fuel t cs.toList=some (d,p)
 | [],ps,_,n,d,hm=>by cases hm
 | (n0,d0) :: l,ps,h,n,d,hm=>by
  obtain⟨g,t,cs,fuel,p,q,h1,h2,h3,h4,h5,_⟩:=h
  rcases List.mem_cons.1 hm with e | hm
  ·injection e with e1 e2
   subst e1 e2
   exact⟨g,t,cs,fuel,p,h1,h2,h3,h4⟩
  ·exact Ki0 h5 n d hm
theorem Cm0{P:Program}{w:World}{n:String}{g:Nat}{cs:Array Value}(hg:P.globalNamed n=some g)(h:w.var? P n=some cs):∃E fz,w.heap[g]? = some (.cells cs E fz):=by
 unfold World.var? at h
 rw[hg] at h
 simp only[Option.bind_some] at h
 split at h
 ·rename_i c E fz hh
  injection h with h
  subst h
  exact⟨E,fz,hh⟩
 ·cases h
theorem mg0{P:Program}{w:World}{fuel:Nat}{t:TypeId}{ms:Array (String×TypeId)}{cs:List Value}{nm:String}{x:DataW Unit}{p:List MemPlace}(ht:P.underlying t=some (.interface ms))
  (h:DataW.trod (fun _=>()) P w 0 (fun _=>true) false fuel t cs=some (.iface nm x,p)):∃u v,cs=[.iface u v]:=by
 cases fuel with
 | zero=>simp [DataW.trod] at h
 | succ fuel =>
  match cs with
  | []=>simp [DataW.trod,ht] at h
  | [.iface u v]=>exact⟨u,v,rfl⟩
  | [v]=>cases v<;>first | exact⟨_,_,rfl⟩ | (simp [DataW.trod,ht] at h)
  | a :: b :: r=>simp [DataW.trod,ht] at h
theorem ql0{P:Program}{W:World}{l:List (String×DataW Unit)}{ps:List MemPlace}(h:DataW.LaidVars P W l ps){n:String}{g:Nat}{t:TypeId}{ms:Array (String×TypeId)}{d:DataW Unit}(hm:(n,d)∈l)(hd:∃nm x,d = .iface nm x)(hg:P.globalNamed n=some g)
  (hty:(P.globals[g]?).map (·.type)=some t) (ht:P.underlying t=some (.interface ms)):∃e:TypeId×Value,Wo0 g [.iface e.1 e.2] (oJ W):=by
 obtain⟨nm,x,rfl⟩:=hd
 obtain⟨g',t',cs,fuel,p,h1,h2,h3,h4⟩:=Ki0 h n _ hm
 obtain rfl:=Option.some.inj (hg.symm.trans h1)
 obtain rfl:=Option.some.inj (hty.symm.trans h2)
 obtain⟨u,v,e⟩:=mg0 ht h4
 obtain⟨E,fz,hb⟩:=Cm0 hg h3
 refine⟨(u,v),(Array.getElem?_eq_some_iff.1 hb).1,E,fz,?_⟩
 show W.heap[g]? = _
 rw[hb]
 congr 2
 exact Array.toList_inj.1 e
theorem Yx0{P:Program}{W:World}{l:List (String×DataW Unit)}{ps:List MemPlace}(h:DataW.LaidVars P W l ps){n:String}{g m:Nat}{t e:TypeId}{k:IntKind}{zs:List Int}(hm:(n,Go.Lib.tabData k zs)∈l)(hg:P.globalNamed n=some g)
  (hty:(P.globals[g]?).map (·.type)=some t) (ht:P.underlying t=some (.array m e)) (he:P.underlying e=some (.int k)) (hce:P.cellsOf e=1) (hct:P.cellsOf t=m):Wo0 g (zs.map (Value.int k)) (oJ W):=by
 obtain⟨g',t',cs,fuel,p,h1,h2,h3,h4⟩:=Ki0 h n _ hm
 obtain rfl:=Option.some.inj (hg.symm.trans h1)
 obtain rfl:=Option.some.inj (hty.symm.trans h2)
 have e:=Go.Lib.cells_of_tab ht he hce hct h4
 obtain⟨E,fz,hb⟩:=Cm0 hg h3
 refine⟨(Array.getElem?_eq_some_iff.1 hb).1,E,fz,?_⟩
 show W.heap[g]? = _
 rw[hb]
 congr 2
 exact Array.toList_inj.1 e
theorem dF0:(Rows.laid_internal_strconv_uint64pow10:DataW Unit)=Go.Lib.tabData .u64 Go.Lib.pow10Tab:=by kernel_rfl
theorem El0{W:World}(h:laidMetH prog [("math/bits.deBruijn32tab",Rows.laid_math_bits_deBruijn32tab),("math/bits.deBruijn64tab",Rows.laid_math_bits_deBruijn64tab),("internal/strconv.uint64pow10",Rows.laid_internal_strconv_uint64pow10),("errata/cell.offsets",Rows.laid_errata_cell_offsets),("strconv.ErrRange",Rows.laid_strconv_ErrRange),("strconv.ErrSyntax",Rows.laid_strconv_ErrSyntax)] W):lC (oJ W):=by
 have h:laidMet prog [("math/bits.deBruijn32tab",Rows.laid_math_bits_deBruijn32tab),("math/bits.deBruijn64tab",Rows.laid_math_bits_deBruijn64tab),("internal/strconv.uint64pow10",Rows.laid_internal_strconv_uint64pow10),("errata/cell.offsets",Rows.laid_errata_cell_offsets),("strconv.ErrRange",Rows.laid_strconv_ErrRange),("strconv.ErrSyntax",Rows.laid_strconv_ErrSyntax)] W:=h
 obtain⟨ps,h,_⟩:=h
 rw[dF0] at h
 have hi:prog.underlying 117=some (.interface (prog.methodsAt 117)):=by kernel_rfl
 refine⟨Yx0 h (n:= "internal/strconv.uint64pow10") (g:=4) (t:=328) (e:=292) (m:=20) (List.mem_cons_of_mem _ (List.mem_cons_of_mem _ (List.mem_cons_self))) (by kernel_rfl) (by kernel_rfl) (by kernel_rfl) (by kernel_rfl) (by kernel_rfl) (by kernel_rfl),ql0 h (n:= "strconv.ErrSyntax") (g:=2) (t:=117) (List.mem_cons_of_mem _ (List.mem_cons_of_mem _ (List.mem_cons_of_mem _ (List.mem_cons_of_mem _ (List.mem_cons_of_mem _ (List.mem_cons_self)))))) ⟨_,_,rfl⟩ (by kernel_rfl) (by kernel_rfl) hi,ql0 h (n:= "strconv.ErrRange") (g:=3) (t:=117) (List.mem_cons_of_mem _ (List.mem_cons_of_mem _ (List.mem_cons_of_mem _ (List.mem_cons_of_mem _ (List.mem_cons_self))))) ⟨_,_,rfl⟩ (by kernel_rfl) (by kernel_rfl) hi⟩
theorem QE0:(Rows.laid_errata_cell_offsets:DataW Unit)=Go.Lib.tabData .i64 [0,64,131072]:=by kernel_rfl
theorem eE0{W:World}(h:laidMetH prog [("math/bits.deBruijn32tab",Rows.laid_math_bits_deBruijn32tab),("math/bits.deBruijn64tab",Rows.laid_math_bits_deBruijn64tab),("internal/strconv.uint64pow10",Rows.laid_internal_strconv_uint64pow10),("errata/cell.offsets",Rows.laid_errata_cell_offsets),("strconv.ErrRange",Rows.laid_strconv_ErrRange),("strconv.ErrSyntax",Rows.laid_strconv_ErrSyntax)] W):bR (oJ W):=by
 have h:laidMet prog [("math/bits.deBruijn32tab",Rows.laid_math_bits_deBruijn32tab),("math/bits.deBruijn64tab",Rows.laid_math_bits_deBruijn64tab),("internal/strconv.uint64pow10",Rows.laid_internal_strconv_uint64pow10),("errata/cell.offsets",Rows.laid_errata_cell_offsets),("strconv.ErrRange",Rows.laid_strconv_ErrRange),("strconv.ErrSyntax",Rows.laid_strconv_ErrSyntax)] W:=h
 obtain⟨ps,h,_⟩:=h
 rw[QE0] at h
 obtain⟨hk,E,fz,hh⟩:=Yx0 h (n:= "errata/cell.offsets") (g:=0) (t:=201) (e:=3) (m:=3) (List.mem_cons_of_mem _ (List.mem_cons_of_mem _ (List.mem_cons_of_mem _ (List.mem_cons_self)))) (by kernel_rfl) (by kernel_rfl) (by kernel_rfl) (by kernel_rfl) (by kernel_rfl) (by kernel_rfl)
 have hh:W.heap[0]? = some (.cells ([0,64,131072].map (Value.int .i64)).toArray E fz):=hh
 refine⟨hk,(Array.getElem?_eq_some_iff.1 hh).1,fun j v hj=>?_⟩
 show W.cell? ⟨0,0+j,none⟩=some v
 rw[Nat.zero_add]
 simp only[World.cell?,hh]
 simpa using hj
noncomputable def Id0(os:Os):World :=
 let w0:=World.holding prog os ⟨#[],#[],[]⟩
 let n0:=w0.heap.size
 let put (g:Nat) (cs:Array Value) (h:Array Obj):Array Obj:=h.modify g fun
   | .cells _ t frozen => .cells cs t frozen
   | o=>o
 { w0 with heap:=(((put 2 #[.iface 336 (.pointer (some ⟨n0+1,0,none⟩))] (put 3 #[.iface 336 (.pointer (some ⟨n0+0,0,none⟩))] (put 0 #[.int .i64 0,.int .i64 64,.int .i64 131072] (put 4 #[.int .u64 1,.int .u64 10,.int .u64 100,.int .u64 1000,.int .u64 10000,.int .u64 100000,.int .u64 1000000,.int .u64 10000000,.int .u64 100000000,.int .u64 1000000000,.int .u64 10000000000,.int .u64 100000000000,.int .u64 1000000000000,.int .u64 10000000000000,.int .u64 100000000000000,.int .u64 1000000000000000,.int .u64 10000000000000000,.int .u64 100000000000000000,.int .u64 1000000000000000000,.int .u64 10000000000000000000] (put 6 #[.int .u8 0,.int .u8 1,.int .u8 56,.int .u8 2,.int .u8 57,.int .u8 49,.int .u8 28,.int .u8 3,.int .u8 61,.int .u8 58,.int .u8 42,.int .u8 50,.int .u8 38,.int .u8 29,.int .u8 17,.int .u8 4,.int .u8 62,.int .u8 47,.int .u8 59,.int .u8 36,.int .u8 45,.int .u8 43,.int .u8 51,.int .u8 22,.int .u8 53,.int .u8 39,.int .u8 33,.int .u8 30,.int .u8 24,.int .u8 18,.int .u8 12,.int .u8 5,.int .u8 63,.int .u8 55,.int .u8 48,.int .u8 27,.int .u8 60,.int .u8 41,.int .u8 37,.int .u8 16,.int .u8 46,.int .u8 35,.int .u8 44,.int .u8 21,.int .u8 52,.int .u8 32,.int .u8 23,.int .u8 11,.int .u8 54,.int .u8 26,.int .u8 40,.int .u8 15,.int .u8 34,.int .u8 20,.int .u8 31,.int .u8 10,.int .u8 25,.int .u8 14,.int .u8 19,.int .u8 9,.int .u8 13,.int .u8 8,.int .u8 7,.int .u8 6] (put 5 #[.int .u8 0,.int .u8 1,.int .u8 28,.int .u8 2,.int .u8 29,.int .u8 14,.int .u8 24,.int .u8 3,.int .u8 30,.int .u8 22,.int .u8 20,.int .u8 15,.int .u8 25,.int .u8 17,.int .u8 4,.int .u8 8,.int .u8 31,.int .u8 27,.int .u8 13,.int .u8 23,.int .u8 21,.int .u8 19,.int .u8 16,.int .u8 7,.int .u8 26,.int .u8 12,.int .u8 18,.int .u8 6,.int .u8 11,.int .u8 5,.int .u8 10,.int .u8 9] w0.heap)))))).push (.cells #[.string ⟨#[118,97,108,117,101,32,111,117,116,32,111,102,32,114,97,110,103,101]⟩] 338 (0,0))).push (.cells #[.string ⟨#[105,110,118,97,108,105,100,32,115,121,110,116,97,120]⟩] 338 (0,0))) }
end Go.Proofs.YtngbebnhegcokaaGreatDoor
namespace Go.Proofs.YtngbebnhegcokaaGreatDoor
open Go.Proofs.Tryz (prog)
open Go.RowKit
set_option maxRecDepth 100000
def eD(L:List Dat):Dat:=⟨fun B=>∃G:Nat→Nat,∀(j:Nat) (d:Dat),L[j]? = some d→d ⟨B.W,fun k=>B.keep k∧G k=j⟩,fun {B B'} hl ⟨G,h⟩ =>
 ⟨G,fun j d hj=>d.mono (B:=⟨B.W,fun k=>B.keep k∧G k=j⟩) (B':=⟨B'.W,fun k=>B'.keep k∧G k=j⟩) (fun k (hk:B.keep k∧G k=j) hs=>⟨⟨(hl k hk.1 hs).1,hk.2⟩,(hl k hk.1 hs).2⟩) (h j d hj)⟩⟩
section
variable {L τ:List Dat} {B:Base} {j:Nat} {d:Dat} {w:World}
theorem eD.get(h:eD L B)(hj:L[j]? = some d):d B:=by
 obtain⟨G,h⟩:=h
 exact d.mono (B:=⟨B.W,fun k=>B.keep k∧G k=j⟩) (fun k hk _=>⟨hk.1,rfl⟩) (h j d hj)
open Classical in
open Classical in
theorem eD.push(h:((eD L).star d) B):eD (L++[d]) B:=by
 obtain⟨H,⟨G,h1⟩,h2⟩:=h
 refine⟨fun k=>if H k then G k else L.length,fun i e hi=>?_⟩
 rcases Nat.lt_trichotomy i L.length with c | c | c
 ·rw[List.getElem?_append_left c] at hi
  refine e.mono (B:=⟨B.W,fun k=>(B.keep k∧H k)∧G k=i⟩) (fun k hk _=>⟨⟨hk.1.1,?_⟩,rfl⟩) (h1 i e hi)
  show (if H k then _ else _)=_
  rw[if_pos hk.1.2]
  exact hk.2
 ·subst c
  rw[List.getElem?_append_right (Nat.le_refl _)] at hi
  simp at hi
  subst hi
  refine d.mono (B:=⟨B.W,fun k=>B.keep k∧¬H k⟩) (fun k hk _=>⟨⟨hk.1,?_⟩,rfl⟩) h2
  show (if H k then _ else _)=_
  rw[if_neg hk.2]
 ·rw[List.getElem?_eq_none (by simp;omega)] at hi;cases hi
theorem eD.nil:eD [] B:=⟨fun _=>0,fun j d hj=>by simp at hj⟩
theorem Rel.BQ(h:Rel B w (eD L :: τ)):Rel B w (L++τ):=by
 obtain⟨c,h⟩:=h
 obtain⟨G,hG⟩:=h.own 0 _ rfl
 refine⟨fun k=>if c k=0 then 0 else if c k=1 then(if G k<L.length then G k+1 else 0) else c k-1+L.length,h.os,h.tape,h.output,h.size,fun k hk hs=>?_,h.same,fun j d hj=>?_⟩
 ·have:=h.keepc k hk hs
  simp only[this]
  rfl
 ·by_cases hl:j<L.length
  ·rw[List.getElem?_append_left hl] at hj
   refine d.wide (fun k hk hs=>?_) (hG j d hj)
   obtain⟨h1,h2⟩:=hk
   have h1:c k=1:=h1
   have h2:G k=j:=h2
   show (if c k=0 then 0 else if c k=1 then(if G k<L.length then G k+1 else 0) else _)=j+1
   rw[if_neg (by omega),if_pos h1,if_pos (by omega),h2]
  ·rw[List.getElem?_append_right (by omega)] at hj
   refine d.wide (fun k hk hs=>?_) (h.own (j-L.length+1) d (by rw[List.getElem?_cons_succ];exact hj))
   have hk:c k=j-L.length+1+1:=hk
   show (if c k=0 then 0 else if c k=1 then _ else c k-1+L.length)=j+1
   rw[if_neg (by omega),if_neg (by omega)]
   omega
theorem Rel.QJ(h:Rel B w (L++τ)):Rel B w (eD L :: τ):=by
 obtain⟨c,h⟩:=h
 refine⟨fun k=>if c k=0 then 0 else if c k≤L.length then 1 else c k-L.length+1,h.os,h.tape,h.output,h.size,fun k hk hs=>?_,h.same,fun j d hj=>?_⟩
 ·have:=h.keepc k hk hs
  simp only[this]
  rfl
 ·cases j with
  | zero =>
   simp at hj
   subst hj
   refine⟨fun k=>c k-1,fun i e hi=>?_⟩
   have hl:i<L.length:=(List.getElem?_eq_some_iff.1 hi).1
   refine e.wide (fun k hk hs=>?_) (h.own i e (by rw[List.getElem?_append_left hl];exact hi))
   have hk:c k=i+1:=hk
   refine⟨?_,?_⟩
   ·show (if c k=0 then 0 else if c k≤L.length then 1 else _)=0+1
    rw[if_neg (by omega),if_pos (by omega)]
   ·show c k-1=i
    omega
  | succ j =>
   rw[List.getElem?_cons_succ] at hj
   refine d.wide (fun k hk hs=>?_) (h.own (L.length+j) d (by rw[List.getElem?_append_right (by omega),Nat.add_sub_cancel_left];exact hj))
   have hk:c k=L.length+j+1:=hk
   show (if c k=0 then 0 else if c k≤L.length then 1 else c k-L.length+1)=j+1+1
   rw[if_neg (by omega),if_neg (by omega)]
   omega
end
section
variable {B:Base} {w:World} {σ τ:List Dat}
theorem Rel.wrap{c:Dat}(h:Rel B w (σ++τ))(hc:∀B':Base,(∀{i:Nat} {d:Dat},τ[i]? = some d→d B')→c B'):Rel B w (σ++[c]):=by
 obtain⟨o,h⟩:=h
 refine⟨fun k=>if o k≤σ.length then o k else σ.length+1,h.os,h.tape,h.output,h.size,fun k hk hs=>?_,h.same,fun j d hj=>?_⟩
 ·have:=h.keepc k hk hs
  simp only[this]
  rfl
 ·rcases Nat.lt_trichotomy j σ.length with hl | hl | hl
  ·rw[List.getElem?_append_left hl] at hj
   refine d.wide (fun k hk hs=>?_) (h.own j d (by rw[List.getElem?_append_left hl];exact hj))
   have hk:o k=j+1:=hk
   show (if o k≤σ.length then o k else σ.length+1)=_
   rw[if_pos (by omega)]
   exact hk
  ·subst hl
   rw[List.getElem?_append_right (Nat.le_refl _)] at hj
   simp at hj
   subst hj
   refine hc _ fun {i e} hi=>?_
   refine e.wide (fun k hk hs=>?_) (h.own (σ.length+i) e (by rw[List.getElem?_append_right (by omega),Nat.add_sub_cancel_left];exact hi))
   have hk:o k=σ.length+i+1:=hk
   show (if o k≤σ.length then o k else σ.length+1)=_
   rw[if_neg (by omega)]
  ·rw[List.getElem?_eq_none (by simp;omega)] at hj;cases hj
theorem Rel.YU{L:List Dat}(h:Rel B w (σ++L)):Rel B w (σ++[eD L]):=by
 obtain⟨o,h⟩:=h
 refine⟨fun k=>if o k≤σ.length then o k else σ.length+1,h.os,h.tape,h.output,h.size,fun k hk hs=>?_,h.same,fun j d hj=>?_⟩
 ·have:=h.keepc k hk hs
  simp only[this]
  rfl
 ·rcases Nat.lt_trichotomy j σ.length with hl | hl | hl
  ·rw[List.getElem?_append_left hl] at hj
   refine d.wide (fun k hk hs=>?_) (h.own j d (by rw[List.getElem?_append_left hl];exact hj))
   have hk:o k=j+1:=hk
   show (if o k≤σ.length then o k else σ.length+1)=_
   rw[if_pos (by omega)]
   exact hk
  ·subst hl
   rw[List.getElem?_append_right (Nat.le_refl _)] at hj
   simp at hj
   subst hj
   refine⟨fun k=>o k - σ.length-1,fun i e hi=>?_⟩
   refine e.wide (fun k hk hs=>?_) (h.own (σ.length+i) e (by rw[List.getElem?_append_right (by omega),Nat.add_sub_cancel_left];exact hi))
   have hk:o k=σ.length+i+1:=hk
   refine⟨?_,?_⟩
   ·show (if o k≤σ.length then o k else σ.length+1)=_
    rw[if_neg (by omega)]
   ·show o k - σ.length-1=i
    omega
  ·rw[List.getElem?_eq_none (by simp;omega)] at hj;cases hj
theorem FX{E:TypeId}{v:Value}{α:Type}[Enc α]{l:List α}(h:Rel B w σ)(i:Nat)(hi:σ[i]? = some (V3 E v l)):∃x n c,v = .slice x n c:=by
 rcases h.here hi with⟨rfl,_⟩ | ⟨g,cap,_,rfl,_⟩
 ·exact⟨_,_,_,rfl⟩
 ·exact⟨_,_,_,rfl⟩
theorem Rel.Mm0{d:Dat}(h:Rel B w σ)(hd:∀B,d B):Rel B w (σ++[d]):=by
 obtain⟨c,h⟩:=h
 refine⟨c,h.os,h.tape,h.output,h.size,h.keepc,h.same,fun j e hj=>?_⟩
 by_cases hl:j<σ.length
 ·rw[List.getElem?_append_left hl] at hj;exact h.own j e hj
 ·rw[List.getElem?_append_right (by omega)] at hj
  have:j=σ.length:=by
   rcases Nat.lt_trichotomy j σ.length with c | c | c
   ·omega
   ·exact c
   ·rw[List.getElem?_eq_none (by simp;omega)] at hj;cases hj
  subst this
  simp at hj
  subst hj
  exact hd _
end
abbrev J7:=WH
abbrev EB:=XG
abbrev dp0:=jS
structure T3 (α:Type) where
 a:α
 b:α
 c:α
 deriving DecidableEq
def T3.get{α:Type}(t:T3 α)(i:Int):α:=if i=0 then t.a else if i=1 then t.b else t.c
def T3.set{α:Type}(t:T3 α)(i:Int)(x:α):T3 α:=if i=0 then { t with a:=x } else if i=1 then { t with b:=x } else { t with c:=x }
abbrev I3(i:Int):Prop:=0≤i∧i<3
theorem I3.cases{i:Int}(h:I3 i):i=0∨i=1∨i=2:=by unfold I3 at h;omega
structure U8 where
 kind:Int
 from_:Int
 to_:Int
 term:Int
 index:Int
 prev:Int
 commit:Int
 yes:Bool
 recs:List J7
 deriving DecidableEq
def U8.raw(m:U8)(v:SV):dp0:=⟨m.kind,m.from_,m.to_,m.term,m.index,m.prev,m.commit,m.yes,v⟩
structure H7 where
 id:Int
 hard:EB
 log:List J7
 role:Int
 commit:Int
 votes:T3 Bool
 next:T3 Int
 mtch:T3 Int
 deriving DecidableEq
abbrev P_(r:H7)(lv:Value):Array Value:=#[.int .i64 r.id,.int .i64 r.hard.term,.int .i64 r.hard.C_,lv,.int .i64 r.role,.int .i64 r.commit,.bool r.votes.a,.bool r.votes.b,.bool r.votes.c,
 .int .i64 r.next.a,.int .i64 r.next.b,.int .i64 r.next.c,.int .i64 r.mtch.a,.int .i64 r.mtch.b,.int .i64 r.mtch.c]
def oF0(p:Nat)(r:H7)(lv:SV):List Dat:=[O1 p I1 (P_ r lv.1),V3 U3 lv.1 r.log]
def U_(p:Nat)(r:H7):Dat:=Dat.ex fun lv:SV=>eD (oF0 p r lv)
def BJ(p:Nat)(r:H7):Dat:=Dat.ex fun lv:SV=>Dat.and (O1 p I1 (P_ r lv.1)) (Q4 lv.1 r.log)
def LA:List J7→Int→Int→Bool
 | [],_,_=>true
 | x :: l,least,most=>if x.term<least then false else if most<x.term then false else if 2000<x.data.size then false else LA l x.term most
def YE(l:List J7)(n:Int):Int:=if n=0 then 0 else((l[(n-1).toNat]?).map (·.term)).getD 0
def Q7(id:Int):List Int:=[0,1,2].filter fun i=>!decide (i=id)
structure H8 (r:H7):Prop where
 id:I3 r.id
 term:0≤r.hard.term∧r.hard.term≤1099511627776
 C_ : -1≤r.hard.C_∧r.hard.C_≤2
 len:r.log.length≤4000
 sound:LA r.log 1 r.hard.term=true
 role:r.role=0∨r.role=1∨r.role=2
 commit:0≤r.commit∧r.commit≤r.log.length
 next:r.role=2→∀i,I3 i→1≤r.next.get i∧r.next.get i≤r.log.length+1
 mtch:r.role=2→∀i,I3 i→0≤r.mtch.get i∧r.mtch.get i≤r.log.length
def dM0(k f t term index prev commit:Int)(yes:Bool)(v:Value):Value := .agg #[.int .i64 k,.int .i64 f,.int .i64 t,.int .i64 term,.int .i64 index,.int .i64 prev,.int .i64 commit,.bool yes,v]
def GN(v:Value)(L:List U8):Dat:=Dat.ex fun vs:List SV=>Dat.and (Dat.pure (vs.length=L.length)) (Dat.and (Q4 v (List.zipWith U8.raw L vs)) (Dat.all (L.zip vs) fun q=>Q4 q.2.1 q.1.recs))
section
variable {B:Base} {w:World} {σ τ:List Dat} {p:Nat} {r:H7}
theorem U_.open(h:Rel B w (U_ p r :: τ)):∃lv,Rel B w (oF0 p r lv++τ):=by
 obtain⟨lv,h⟩:=h.ex (i:=0) rfl
 exact⟨lv,Rel.BQ h⟩
theorem U_.close(lv:SV)(h:Rel B w (oF0 p r lv++τ)):Rel B w (U_ p r :: τ) :=
 (Rel.QJ h).imp (i:=0) (e:=U_ p r) rfl fun B hB=>⟨lv,hB⟩
theorem U_.toR(h:U_ p r B):BJ p r B:=by
 obtain⟨lv,h⟩:=h
 exact⟨lv,eD.get (j:=0) h rfl,V3.read (eD.get (j:=1) h rfl)⟩
theorem BJ.FO(h:BJ p r B):∃lv:SV,O1 p I1 (P_ r lv.1) B∧Q4 lv.1 r.log B:=h
theorem qJ(n a b:Int):Gives prog B (Z0 G_ #[.int .i64 n,.int .i64 a,.int .i64 b]) (.bool (decide (a≤n)&&decide (n≤b))):=by
 refine Gives.intro fun B' w K base h k=>?_
 refine UM.up ?_
 unfold UM.pt
 rw[LD,K3]
 refine⟨fun c=>?_,fun c=>?_⟩
 ·rw[gD]
  rw[decide_eq_true (p:=a≤n) (by omega),Bool.true_and] at k
  exact k _ _ h
 ·rw[decide_eq_false (p:=a≤n) (by omega),Bool.false_and] at k
  exact k _ _ h
theorem Sx0{v:Value}{l:List J7}(q:Q4 v l B)(hl:l.length≤1000000000)(least most:Int):Gives prog B (Z0 GM #[v,.int .i64 least,.int .i64 most]) (.bool (LA l least most)):=by
 refine Gives.intro fun B' w K base h k=>?_
 replace q:=base q
 refine mQ.up ?_
 unfold mQ.pt
 rw[Q4.len q U5]
 refine M6 (fun z w'=>∃(i:Nat) (m:Int),i≤l.length∧z=(.int .i64 m,.int .i64 i,())∧LA (l.drop i) m most=LA l least most∧Rel B' w' []) (fun z _=>l.length-(match z.2.1 with | .int _ n=>n.toNat | _=>0))
  ⟨0,least,Nat.zero_le _,rfl,rfl,h⟩ ?_
 clear h
 rintro z w1 ⟨i,m,hi,rfl,hs,h⟩ next hnext
 rw[D6,K3]
 refine⟨fun hlt=>?_,fun hge=>?_⟩
 case refine_2 =>
  have:i=l.length:=by omega
  subst this
  rw[List.drop_length] at hs
  have hs:true=LA l least most:=hs
  rw[←hs] at k
  exact k _ _ h
 have hil:i<l.length:=by omega
 obtain⟨g,o,hx,hc⟩:=Q4.idx q U5 (P:=prog) hil
 have hc:F6 g o l[i].cs B':=hc
 rw[hx,F6.Q9 (h.K6 hc) P9 rfl]
 rw[List.drop_eq_getElem_cons hil,LA] at hs
 generalize l[i]=x at *
 refine h.r9 (ds:=x.cs.toArray) KL rfl P9 rfl (fun v hv=>Enc.one x v hv) fun b w2 h=>?_
 have h:Rel B' w2 [O1 b U3 x.cs.toArray]:=h
 simp -zeta only[U0 YT,U0 mX,Nat.zero_add]
 rw[h.ld 0 rfl F3 (o:=0) (v := .int .i64 x.term) rfl,D6,K3]
 refine⟨fun c=>?_,fun c=>?_⟩
 ·rw[if_pos c] at hs;rw[←hs] at k;exact k _ _ h
 rw[if_neg c] at hs
 rw[h.ld 0 rfl F3 (o:=0) (v := .int .i64 x.term) rfl,A_,K3]
 refine⟨fun c=>?_,fun c=>?_⟩
 ·rw[if_pos c] at hs;rw[←hs] at k;exact k _ _ h
 rw[if_neg c] at hs
 rw[h.ld 0 rfl V6 (o:=1) (v := .string x.data) rfl,WC C8,A_,K3]
 refine⟨fun c=>?_,fun c=>?_⟩
 ·rw[if_pos (by omega)] at hs;rw[←hs] at k;exact k _ _ h
 rw[if_neg (by omega)] at hs
 rw[h.ld 0 rfl F3 (o:=0) (v := .int .i64 x.term) rfl,V5,D5 (by omega) (by omega)]
 exact hnext _ _ ⟨i+1,x.term,hil,rfl,hs,h.nil⟩ (by simp only;omega)
theorem pY(a:BJ p r B)(hlen:r.log.length≤1000000){n:Int}(hn:0≤n∧n≤r.log.length):Gives prog B (Z0 F_ #[ptr p,.int .i64 n]) (.int .i64 (YE r.log n)):=by
 refine Gives.intro fun B' w K base h k=>?_
 replace a:=base a
 refine RG.up ?_
 unfold RG.pt
 obtain⟨lv,c0,c1⟩:=BJ.FO a
 unfold YE at k
 rw[O6,K3]
 refine⟨fun c=>?_,fun c=>?_⟩
 ·rw[if_pos c] at k;exact k _ _ h
 rw[if_neg c] at k
 obtain⟨m,rfl⟩:∃m:Nat,n=m+1:=⟨(n-1).toNat,by omega⟩
 have hm:m<r.log.length:=by omega
 rw[show ((m:Int)+1-1).toNat=m by omega,List.getElem?_eq_getElem hm] at k
 simp -zeta only[y5,U0 y_,Nat.zero_add]
 rw[O1.ld (h.K6 c0) O5 (o:=3) (v:=lv.1) rfl,eF]
 have hw:IntKind.wrap .i64 ((m:Int)+1-1)=m:=by
  rw[show (m:Int)+1-1=m by omega]
  exact D5 (by omega) (by omega)
 rw[hw]
 obtain⟨g,o,hx,hc⟩:=Q4.idx c1 U5 (P:=prog) hm
 have hc:F6 g o r.log[m].cs B':=hc
 rw[hx,U0 YT,Nat.add_zero,F6.ld0 (h.K6 hc) F3 (v := .int .i64 r.log[m].term) rfl]
 exact k _ _ h
theorem kY(a:BJ p r B)(kind to_:Int):Gives prog B (Z0 xA #[ptr p,.int .i64 kind,.int .i64 to_]) (dM0 kind r.id to_ r.hard.term 0 0 0 false (.slice none 0 0)):=by
 refine Gives.intro fun B' w K base h k=>?_
 replace a:=base a
 refine EE.up ?_
 unfold EE.pt
 obtain⟨lv,c0,c1⟩:=BJ.FO a
 refine h.alloc JJ fun o w1 h=>?_
 have h:=h.tick
 generalize tick w1=w1 at *
 simp -zeta only[y5,U0 vH,U0 x_,U0 UC,Nat.zero_add,Nat.add_zero]
 rw[O1.ld (h.K6 c0) F3 (o:=0) (v := .int .i64 r.id) rfl,O1.ld (h.K6 c0) F3 (o:=1) (v := .int .i64 r.hard.term) rfl,tZ]
 refine h.xI 0 (ds:=#[.int .i64 kind,.int .i64 r.id,.int .i64 to_,.int .i64 r.hard.term,.int .i64 0,.int .i64 0,.int .i64 0,.bool false,.slice none 0 0]) rfl Q8 rfl rfl (fun v hv=>?_) fun w2 h=>?_
 ·simp only[List.mem_cons,List.not_mem_nil,or_false] at hv
  rcases hv with rfl | rfl | rfl | rfl | rfl | rfl | rfl | rfl | rfl<;>rfl
 rw[CJ h 0 rfl Q8 rfl]
 exact k _ _ h
theorem My0{v f:Value}{l:List Int}(hl:l.length≤4611686018427387904)(p:Int→Bool)
  (hf:∀B':Base,(∀{d:Dat},d B→d B')→∀x∈l,Gives prog B' (aA f #[Enc.val x]) (.bool (p x))):Does prog B (V3 Q0 v l) (Z0 VD #[v,f]) fun u e' τ=>e'=V3 Q0 u (l.filter fun x=>!p x)∧τ=[]:=by
 refine Does.intro fun B' w K base h k=>?_
 refine AC.up ?_
 unfold AC.pt
 refine h.ask (fun B2 own base2=>DR (V3.read (own (i:=0) rfl)) hl p fun B3 base3 x hx=>hf B3 (fun hd=>base3 (base2 (base hd))) x hx) fun w1 h=>?_
 simp -zeta only[O6,K3]
 refine⟨fun e=>?_,fun e=>?_⟩
 ·have hno:=(Qg0 (p:=p) (l:=l)).1.1 (by omega)
  have hfl:(l.filter fun x=>!p x)=l:=List.filter_eq_self.2 fun x hx=>by simp [hno x hx]
  rw[hfl] at k
  exact k _ _ _ _ ⟨rfl,rfl⟩ h
 ·obtain⟨m,hm,hml,hmp,hmno⟩:∃m:Nat,kV p l=m∧∃hm:m<l.length,p l[m]=true∧∀x∈l.take m,p x=false:=by
   unfold kV at e ⊢
   split at e
   ·rename_i i hi
    obtain⟨h1,h2,h3⟩:=List.findIdx?_eq_some_iff_getElem.1 hi
    refine⟨i,rfl,h1,h2,fun x hx=>?_⟩
    obtain⟨j,hj,rfl⟩:=List.getElem_of_mem hx
    have:=h3 j (by simp at hj;omega)
    simp at this ⊢
    exact this
   ·exact absurd rfl e
  rw[hm]
  obtain⟨g,cap,rfl⟩:=h.open_ (i:=0) rfl (by omega)
  simp -zeta only[V5]
  rw[D5 (by omega) (by omega)]
  refine M6 (fun x w'=>∃(i j:Nat) (l':List Int),j≤l.length∧i<j∧x=(.int .i64 i,.int .i64 j,())∧l'.length=l.length∧l'.take i=(l.take j).filter (fun x=>!p x)∧l'.drop j=l.drop j∧Rel B' w' [V3 Q0 (.slice (some ⟨g,0,none⟩) l.length cap) l'])
   (fun x _=>l.length-(match x.2.1 with | .int _ n=>n.toNat | _=>0)) ⟨m,m+1,l,by omega,by omega,by simp,rfl,?_,rfl,h⟩ ?_
  ·rw[List.take_succ_eq_append_getElem hml,List.filter_append,List.filter_eq_self.2 fun x hx=>by simp [hmno x hx]]
   simp [hmp]
  clear h
  rintro x w2 ⟨i,j,l',hj,hij,rfl,hl',ht,hd,h⟩ next hnext
  have hrd:=V3.read (h.here (i:=0) rfl)
  simp -zeta only[Q4.len hrd C9,hl',D6,K3]
  refine⟨fun hlt=>?_,fun hge=>?_⟩
  ·have hjl:j<l.length:=by omega
   have hjl':j<l'.length:=by omega
   have hel:l'[j]=l[j]:=by
    have h1:(l'.drop j)[0]? = (l.drop j)[0]? := by rw[hd]
    simpa [hjl,hjl'] using h1
   have hd1:l'.drop (j+1)=l.drop (j+1):=by
    have:=congrArg (List.drop 1) hd
    simpa using this
   have hs:(l.take (j+1)).filter (fun x=>!p x)=(l.take j).filter (fun x=>!p x)++(if p l[j]=true then [] else [l[j]]):=by
    rw[List.take_succ_eq_append_getElem hjl,List.filter_append]
    congr 1
    cases hp:p l[j]<;>simp [hp]
   refine Q6 fun J hJ=>?_
   replace hJ:∀w' (i:Nat) (l':List Int),i<j+1→l'.length=l.length→l'.take i=(l.take (j+1)).filter (fun x=>!p x)→l'.drop (j+1)=l.drop (j+1)→Rel B' w' [V3 Q0 (.slice (some ⟨g,0,none⟩) l.length cap) l']→J (.int .i64 i,()) w':=by
    intro w' i l' h1 h2 h3 h4 h5
    refine hJ _ _ ?_
    show M0 _ _ _
    rw[V5,D5 (by omega) (by omega)]
    exact hnext _ _ ⟨i,j+1,l',by omega,h1,rfl,h2,h3,h4,h5⟩ (by simp only;omega)
   clear hnext
   have hc:=h.elem (α:=Int) (i:=0) (j:=j) rfl hjl'
   rw[hel] at hc
   simp -zeta only[eY (α:=Int) C9 hjl,F6.ld0 hc F3 (v := .int .i64 l[j]) rfl]
   refine h.ask (fun B2 own base2=>hf B2 (fun hd=>base2 (base hd)) l[j] (List.getElem_mem hjl)) fun w4 h=>?_
   simp -zeta only[V8,K5]
   rw[Q5]
   refine⟨fun hp=>?_,fun hp=>?_⟩
   ·refine hJ w4 i l' (by omega) hl' ?_ hd1 (h.take 1)
    rw[hs,if_pos hp,ht,List.append_nil]
   ·simp -zeta only[eY (α:=Int) C9 (show i<l.length by omega)]
    refine h.Io0 (α:=Int) 0 rfl l[j] (j:=i) (by omega) (f:=0) rfl (by decide) rfl F3 rfl fun w5 h=>?_
    simp -zeta only[V5]
    rw[D5 (by omega) (by omega)]
    refine hJ w5 (i+1) (l'.set i l[j]) (by omega) (by simp [hl']) ?_ ?_ (h.take 1)
    ·rw[hs,if_neg (by rw[hp];decide),←ht,List.take_succ_eq_append_getElem (by simp;omega),List.take_set_of_le (Nat.le_refl _)]
     simp
    ·rw[List.drop_set_of_lt (by omega),hd1]
  ·have:j=l.length:=by omega
   subst this
   rw[List.take_length] at ht
   rw[Q4.Sh0 hrd C9 (lo:=i) (hi:=l'.length) Bnd.some Bnd.none (by omega) (Nat.le_refl _),hl']
   refine h.Nh0 0 rfl C9 (by omega) fun w3 h=>?_
   rw[ht] at h
   exact k _ _ _ _ ⟨rfl,rfl⟩ h
theorem ij0(a:BJ p r B):Makes prog B (Z0 UB #[ptr p]) fun u τ=>τ=[V3 Q0 u (Q7 r.id)]:=by
 refine Makes.intro fun B' w K base h k=>?_
 replace a:=base a
 refine mF.up ?_
 unfold mF.pt
 refine h.box fun b w1 h=>?_
 have h:Rel B' w1 [O1 b R6 #[ptr p]]:=h
 refine h.XW ([0,1,2]:List Int) C9 fun v w2 h=>?_
 rw[OG]
 refine h.act 1 rfl (fun B2 own base2=>My0 (by decide) (fun i=>decide (i=r.id)) fun B3 base3 x _=>?_) fun u e' τ w3 hp h=>?_
 ·have a3:=base3 (base2 a)
  have cb:=base3 (own (j:=0) (by decide) rfl)
  obtain⟨lv,c0,c1⟩:=BJ.FO a3
  refine Gives.intro fun B4 w K base4 h k=>?_
  refine dH (?_:upK prog (Z0 JF #[.int .i64 x,ptr b]) w K)
  refine OD.up ?_
  unfold OD.pt
  rw[O1.ld (h.K6 (base4 cb)) U7 (o:=0) (v:=ptr p) rfl]
  simp -zeta only[y5,U0 vH,Nat.zero_add]
  rw[O1.ld (h.K6 (base4 c0)) F3 (o:=0) (v := .int .i64 r.id) rfl,O6]
  exact k _ _ h
 ·obtain⟨rfl,rfl⟩:=hp
  exact k _ _ _ rfl (h.pick [1] (by decide))
end
structure LC where
 save:Bool
 hard:EB
 from_:Int
 recs:List J7
 send:List U8
 deriving DecidableEq
def o0:LC:=⟨false,⟨0,0⟩,0,[],[]⟩
def g_(o:LC)(rv sv:Value):Array Value:=#[.bool o.save,.int .i64 o.hard.term,.int .i64 o.hard.C_,.int .i64 o.from_,rv,sv]
def rG(u:Value)(o:LC):Dat:=Dat.ex fun q:SV×SV=>Dat.and (Dat.pure (u = .agg (g_ o q.1.1 q.2.1))) (Dat.and (Q4 q.1.1 o.recs) (GN q.2.1 o.send))
def o_(r:H7)(to_:Int):U8:=⟨2,r.id,to_,r.hard.term,r.next.get to_-1,YE r.log (r.next.get to_-1),r.commit,false,(r.log.drop (r.next.get to_-1).toNat).take 8⟩
def zR(r:H7):List U8:=(Q7 r.id).map (o_ r)
def UO(r:H7):H7:={ r with hard:=⟨r.hard.term+1,r.id⟩,role:=1,votes:=(⟨false,false,false⟩:T3 Bool).set r.id true }
def Wf0(r:H7)(i:Int):U8:=⟨0,r.id,i,r.hard.term,r.log.length,YE r.log r.log.length,0,false,[]⟩
def uF(r:H7):H7×LC :=
 if r.role=2 then(r,{ o0 with send:=zR r })
 else if r.hard.term=1099511627776 then(r,o0)
 else(UO r,{ o0 with save:=true,hard:=(UO r).hard,send:=(Q7 r.id).map (Wf0 (UO r)) })
theorem LY{α:Type}[Enc α]{B:Base}:Q4 (.slice none 0 0) ([]:List α) B:=⟨none,0,rfl,Nat.le_refl _,.inl rfl⟩
theorem zE0{B:Base}:GN (.slice none 0 0) [] B:=⟨[],rfl,LY,fun q hq=>by cases hq⟩
theorem TV{r:H7}{lv:Value}{i:Int}(hi:I3 i):(P_ r lv).toList[9+i.toNat]? = some (.int .i64 (r.next.get i))∧(P_ r lv).toList[12+i.toNat]? = some (.int .i64 (r.mtch.get i))∧(P_ r lv).toList[6+i.toNat]? = some (.bool (r.votes.get i)):=by
 rcases hi.cases with rfl | rfl | rfl<;>exact⟨rfl,rfl,rfl⟩
theorem pW{r:H7}{lv:Value}{i:Int}(hi:I3 i)(n:Int)(b:Bool):(P_ r lv).setIfInBounds (9+i.toNat) (.int .i64 n)=P_ { r with next:=r.next.set i n } lv∧(P_ r lv).setIfInBounds (12+i.toNat) (.int .i64 n)=P_ { r with mtch:=r.mtch.set i n } lv∧(P_ r lv).setIfInBounds (6+i.toNat) (.bool b)=P_ { r with votes:=r.votes.set i b } lv:=by
 rcases hi.cases with rfl | rfl | rfl<;>exact⟨rfl,rfl,rfl⟩
theorem Dz0{Kp:Value→Prop}{p o:Nat}{i:Int}(hi:I3 i):M0 prog (Y4 IM (.pointer (some ⟨p,o,none⟩)) (.int .i64 i)) Kp=Kp (.pointer (some ⟨p,o+i.toNat,none⟩)):=by
 rcases hi.cases with rfl | rfl | rfl<;>exact V4 fun w=>by kernel_rfl
theorem qK0{Kp:Value→Prop}{p o:Nat}{i:Int}(hi:I3 i):M0 prog (Y4 iI (.pointer (some ⟨p,o,none⟩)) (.int .i64 i)) Kp=Kp (.pointer (some ⟨p,o+i.toNat,none⟩)):=by
 rcases hi.cases with rfl | rfl | rfl<;>exact V4 fun w=>by kernel_rfl
theorem zP{id i:Int}(h:i∈Q7 id):I3 i:=by
 unfold Q7 at h
 have:=(List.mem_filter.1 h).1
 simp only[List.mem_cons,List.not_mem_nil,or_false] at this
 unfold I3
 omega
theorem rT(id:Int):(Q7 id).length≤3:=List.length_filter_le _ _
section
variable {B:Base} {w:World} {σ τ:List Dat} {p:Nat} {r:H7}
theorem BJ.of{lv:Value}(h1:lv.oneCell'=true)(h2:O1 p I1 (P_ r lv) B)(h3:Q4 lv r.log B):BJ p r B:=⟨⟨lv,h1⟩,h2,h3⟩
set_option maxHeartbeats 1000000 in
theorem fl0(a:BJ p r B)(hk:H8 r)(hlead:r.role=2){to_:Int}(ht:I3 to_):Makes prog B (Z0 uA #[ptr p,.int .i64 to_]) fun u τ=>∃v:SV,u=((o_ r to_).raw v).v∧τ=[V3 U3 v.1 (o_ r to_).recs]:=by
 refine Makes.intro fun B' w K base h k=>?_
 replace a:=base a
 refine CE.up ?_
 unfold CE.pt
 obtain⟨lv,c0,c1⟩:=BJ.FO a
 have hlen:=hk.len
 have hnext:=hk.next hlead to_ ht
 have g3:=(TV (r:=r) (lv:=lv.1) ht).1
 obtain⟨n,hn⟩:∃n:Nat,r.next.get to_=n+1:=⟨(r.next.get to_-1).toNat,by omega⟩
 have hnl:n≤r.log.length:=by omega
 have hidx:r.next.get to_-1=(n:Int):=by omega
 have hE:∀v:SV,((o_ r to_).raw v).v=dM0 2 r.id to_ r.hard.term n (YE r.log n) r.commit false v.1:=fun v=>by
  unfold o_ U8.raw
  rw[hidx]
  rfl
 have hR:(o_ r to_).recs=(r.log.drop n).take 8:=by
  unfold o_
  rw[hidx]
  rfl
 refine h.alloc JJ fun o w1 h=>?_
 refine h.ask (fun B2 own base2=>kY (base2 a) 2 to_) fun w2 h=>?_
 refine h.r9 (ds:=#[.int .i64 2,.int .i64 r.id,.int .i64 to_,.int .i64 r.hard.term,.int .i64 0,.int .i64 0,.int .i64 0,.bool false,.slice none 0 0]) JJ rfl Q8 rfl (fun v hv=>?_) fun m w3 h=>?_
 ·simp only[List.mem_cons,List.not_mem_nil,or_false] at hv
  rcases hv with rfl | rfl | rfl | rfl | rfl | rfl | rfl | rfl | rfl<;>rfl
 simp -zeta only[y5,U0 ZL,U0 y_,U0 wH,U0 rF,U0 yN,U0 XT,U0 uQ,Nat.zero_add]
 rw[Dz0 ht,O1.ld (h.K6 c0) F3 (o:=9+to_.toNat) g3,hn,eF,show (n:Int)+1-1=n by omega,D5 (by omega) (by omega)]
 refine h.st 1 rfl F3 (o:=4) (show 4<9 by omega) rfl fun w4 h=>?_
 have h:=h.tick
 generalize tick w4=w4 at *
 rw[h.ld 1 rfl F3 (o:=4) (v := .int .i64 n) rfl,O1.ld (h.K6 c0) F3 (o:=5) (v := .int .i64 r.commit) rfl]
 refine h.ask (fun B2 own base2=>pY (base2 a) (by omega) ⟨by omega,by omega⟩) fun w5 h=>?_
 refine⟨O1.is (h.K6 c0) F3 (o:=5) rfl,?_⟩
 refine h.st 1 rfl F3 (o:=5) (show 5<9 by omega) rfl fun w6 h=>?_
 refine⟨O1.is (h.K6 c0) F3 (o:=5) rfl,?_⟩
 refine h.st 1 rfl F3 (o:=6) (show 6<9 by omega) rfl fun w7 h=>?_
 have h:=h.tick
 generalize tick w7=w7 at *
 rw[O1.ld (h.K6 c0) O5 (o:=3) (v:=lv.1) rfl,h.ld 1 rfl F3 (o:=4) (v := .int .i64 n) rfl,O1.ld (h.K6 c0) O5 (o:=3) (v:=lv.1) rfl,Q4.len c1 U5,h.ld 1 rfl F3 (o:=4) (v := .int .i64 n) rfl,V5,D5 (by omega) (by omega),PP,
  show min (r.log.length:Int) ((n:Int)+8)=((min r.log.length (n+8):Nat):Int) by omega]
 have hcut:∀Kp:Value→Prop,M0 prog (d9 O3 lv.1 (some (.int .i64 n)) (some (.int .i64 (min r.log.length (n+8):Nat))) none) Kp=Kp (cutV 2 lv.1 n (min r.log.length (n+8))):=fun Kp =>
  Q4.Sh0 (α:=J7) (P:=prog) (lo:=n) (hi:=min r.log.length (n+8)) c1 U5 Bnd.some Bnd.some (by omega) (by omega)
 rw[hcut]
 have rc:=Q4.qn0 (lo:=n) (hi:=min r.log.length (n+8)) c1 (by omega) (by omega)
 have e:(r.log.take (min r.log.length (n+8))).drop n=(r.log.drop n).take 8:=by
  rw[List.drop_take]
  by_cases c:n+8≤r.log.length
  ·rw[show min r.log.length (n+8)-n=8 by omega]
  ·rw[List.take_of_length_le (by rw[List.length_drop];omega),List.take_of_length_le (by rw[List.length_drop];omega)]
 rw[e] at rc
 refine h.make (fun B2 own base2=>S_ (base2 rc) (by rw[List.length_take];omega) (by rw[List.length_take];omega)) fun u τ w8 hp h=>?_
 subst hp
 have hu1:u.oneCell'=true:=h.oneCell (i:=2) rfl
 refine h.st 1 rfl O5 (o:=8) (show 8<9 by omega) hu1 fun w9 h=>?_
 rw[h.Q9 1 rfl Q8 rfl]
 refine h.xI 0 rfl Q8 rfl rfl (fun v hv=>?_) fun w10 h=>?_
 ·have hv:v∈[Value.int .i64 2,.int .i64 r.id,.int .i64 to_,.int .i64 r.hard.term,.int .i64 n,.int .i64 (YE r.log n),.int .i64 r.commit,.bool false,u]:=hv
  simp only[List.mem_cons,List.not_mem_nil,or_false] at hv
  rcases hv with rfl | rfl | rfl | rfl | rfl | rfl | rfl | rfl | rfl<;>first | rfl | exact hu1
 rw[CJ h 0 rfl Q8 rfl]
 refine k _ _ _ ⟨(⟨u,hu1⟩:SV),?_,?_⟩ (h.pick [2] (by decide))
 ·exact(hE (⟨u,hu1⟩:SV)).symm
 ·rw[hR]
  rfl
theorem oA0{v v':Value}{L:List U8}{m:U8}{u:SV}{vs:List SV}(hl:vs.length=L.length)(h:Dat.all (L.zip vs) (fun q=>Q4 q.2.1 q.1.recs) B)(hu:Q4 u.1 m.recs B) :
  Dat.all ((L++[m]).zip (vs++[u])) (fun q=>Q4 q.2.1 q.1.recs) B:=by
 rw[List.zip_append hl.symm]
 refine Dat.all_append h fun q hq=>?_
 have hq:q∈[(m,u)]:=hq
 rw[List.mem_singleton.1 hq]
 exact hu
set_option maxHeartbeats 1000000 in
theorem Uv0(a:BJ p r B)(hk:H8 r)(hlead:r.role=2):Makes prog B (Z0 TB #[ptr p]) fun u τ=>τ=[GN u (zR r)]∧∃x n c,u = .slice x n c:=by
 refine Makes.intro fun B' w K base h k=>?_
 replace a:=base a
 refine TH.up ?_
 unfold TH.pt
 unfold zR at k
 refine h.make (fun B2 own base2=>ij0 (base2 a)) fun ov τ w1 hp h=>?_
 subst hp
 have h:Rel B' w1 [V3 Q0 ov (Q7 r.id)]:=h
 have ho3:=rT r.id
 rw[Q4.len (V3.read (h.here (i:=0) rfl)) C9]
 have h:=(h.oG dp0 U1).Mm0 (d:=Dat.all (([]:List U8).zip ([]:List SV)) fun q=>Q4 q.2.1 q.1.recs) fun B q hq=>by cases hq
 refine M6 (fun z w'=>∃(i:Nat) (v:Value) (vs:List SV),i≤(Q7 r.id).length∧vs.length=i∧z=(v,.int .i64 i,())∧Rel B' w' [V3 Q0 ov (Q7 r.id),V3 U1 v (List.zipWith U8.raw (((Q7 r.id).take i).map (o_ r)) vs),Dat.all ((((Q7 r.id).take i).map (o_ r)).zip vs) fun q=>Q4 q.2.1 q.1.recs])
  (fun z _=>(Q7 r.id).length-(match z.2.1 with | .int _ n=>n.toNat | _=>0)) ⟨0,.slice none 0 0,[],Nat.zero_le _,rfl,rfl,h⟩ ?_
 clear h
 rintro z w2 ⟨i,v,vs,hi,hvs,rfl,h⟩ next hnext
 simp -zeta only[D6,K3]
 refine⟨fun hlt=>?_,fun hge=>?_⟩
 case refine_2 =>
  have:i=(Q7 r.id).length:=by omega
  subst this
  rw[List.take_length] at h
  obtain⟨x,n,c,rfl⟩:=FX h 1 rfl
  have h:=h.pick [1,2] (by decide)
  refine k _ _ _ ⟨rfl,x,n,c,rfl⟩ (Rel.wrap (σ:=[]) h fun B2 own=>⟨vs,(by rw[List.length_map];exact hvs:vs.length=((Q7 r.id).map (o_ r)).length),V3.read (own (i:=0) rfl),own (i:=1) rfl⟩)
 have hil:i<(Q7 r.id).length:=by omega
 have hmem:=List.getElem_mem hil
 obtain⟨g,o,hx,hc⟩:=Q4.idx (V3.read (h.here (i:=0) rfl)) C9 (P:=prog) hil
 rw[hx,F6.ld0 hc F3 (v := .int .i64 (Q7 r.id)[i]) rfl]
 have htk:((Q7 r.id).take (i+1)).map (o_ r)=((Q7 r.id).take i).map (o_ r)++[o_ r (Q7 r.id)[i]]:=by
  rw[List.take_succ_eq_append_getElem hil,List.map_append]
  rfl
 have hll:(((Q7 r.id).take i).map (o_ r)).length=i:=by rw[List.length_map,List.length_take];omega
 generalize ((Q7 r.id).take i).map (o_ r)=L at *
 refine h.make (fun B2 own base2=>fl0 (base2 a) hk hlead (zP hmem)) fun u τ w3 hp h=>?_
 obtain⟨u',rfl,rfl⟩:=hp
 have h:Rel B' w3 [V3 Q0 ov (Q7 r.id),V3 U1 v (List.zipWith U8.raw L vs),Dat.all (L.zip vs) fun q=>Q4 q.2.1 q.1.recs,V3 U3 u'.1 (o_ r (Q7 r.id)[i]).recs]:=h
 have hzl:(List.zipWith U8.raw L vs).length=i:=by rw[List.length_zipWith];omega
 refine h.Df0 (α:=dp0) 1 rfl ((o_ r (Q7 r.id)[i]).raw u') EL (by decide) (by omega) (by omega) fun v' w4 h=>?_
 have h:Rel B' w4 ([V3 Q0 ov (Q7 r.id),V3 U1 v' (List.zipWith U8.raw L vs++[(o_ r (Q7 r.id)[i]).raw u'])]++[Dat.all (L.zip vs) fun q=>Q4 q.2.1 q.1.recs,V3 U3 u'.1 (o_ r (Q7 r.id)[i]).recs]):=h
 have h:=h.wrap (c:=Dat.all ((L++[o_ r (Q7 r.id)[i]]).zip (vs++[u'])) fun q=>Q4 q.2.1 q.1.recs) fun B2 own=>oA0 (v:=v) (v':=v) (by omega) (own (i:=0) rfl) (V3.read (own (i:=1) rfl))
 rw[V5,D5 (by omega) (by omega)]
 refine hnext _ _ ⟨i+1,v',vs++[u'],hil,by rw[List.length_append,hvs];rfl,rfl,?_⟩ (by simp only;omega)
 rw[htk,List.zipWith_append (by omega)]
 exact h
end
structure gI (r:H7) (m:U8):Prop where
 kind:0≤m.kind∧m.kind≤3
 to_:m.to_=r.id
 from_:m.from_≠r.id
 from3:0≤m.from_∧m.from_≤2
 term:1≤m.term∧m.term≤1099511627776
 index:0≤m.index∧m.index≤4000
 prev:0≤m.prev∧m.prev≤m.term
 zero:m.index=0→m.prev=0
 commit:0≤m.commit∧m.commit≤4000
 few:m.recs.length≤8
 room:m.index+m.recs.length≤4000
 sound:LA m.recs (max 1 m.prev) m.term=true
theorem ev0(r:H7)(m:U8):((0≤m.kind∧m.kind≤3)∧m.to_=r.id∧m.from_≠r.id∧(0≤m.from_∧m.from_≤2)∧(1≤m.term∧m.term≤1099511627776)∧(0≤m.index∧m.index≤4000)∧(0≤m.prev∧m.prev≤m.term)∧(m.index=0→m.prev=0)∧(0≤m.commit∧m.commit≤4000)∧m.recs.length≤8∧m.index+m.recs.length≤4000∧LA m.recs (max 1 m.prev) m.term=true)↔gI r m :=
 ⟨fun⟨a,b,c,d,e,f,g,h,i,j,k,l⟩=>⟨a,b,c,d,e,f,g,h,i,j,k,l⟩,fun⟨a,b,c,d,e,f,g,h,i,j,k,l⟩=>⟨a,b,c,d,e,f,g,h,i,j,k,l⟩⟩
instance (r:H7) (m:U8):Decidable (gI r m):=decidable_of_iff _ (ev0 r m)
def zx0(r:H7)(m:U8):Bool:=decide (gI r m)
def wM(r:H7)(m:U8)(yes:Bool):U8:=⟨1,r.id,m.from_,r.hard.term,0,0,0,yes,[]⟩
def ti0(r:H7)(m:U8):Prop:=YE r.log r.log.length<m.prev∨m.prev=YE r.log r.log.length∧(r.log.length:Int)≤m.index
instance (r:H7) (m:U8):Decidable (ti0 r m):=by unfold ti0;exact inferInstance
def CZ(r:H7)(m:U8):Prop:=m.term=r.hard.term∧(r.hard.C_ = -1∨r.hard.C_=m.from_)∧ti0 r m
instance (r:H7) (m:U8):Decidable (CZ r m):=by unfold CZ;exact inferInstance
def Ec0(r:H7)(m:U8):H7×LC :=
 if CZ r m then({ r with hard:=⟨r.hard.term,m.from_⟩ },{ o0 with send:=[wM r m true] }) else(r,{ o0 with send:=[wM r m false] })
def xU(t:T3 Bool):Nat:=(if t.a then 1 else 0)+(if t.b then 1 else 0)+(if t.c then 1 else 0)
def yX(r:H7):H7:={ r with role:=2,next:=⟨r.log.length+1,r.log.length+1,r.log.length+1⟩,mtch:=⟨0,0,0⟩ }
def NU(r:H7)(m:U8):H7×LC :=
 if r.role≠1∨m.term≠r.hard.term∨m.yes=false then(r,o0)
 else if xU (r.votes.set m.from_ true)<2 then({ r with votes:=r.votes.set m.from_ true },o0)
 else(yX { r with votes:=r.votes.set m.from_ true },{ o0 with send:=zR (yX { r with votes:=r.votes.set m.from_ true }) })
theorem UE{o:LC}{rv sv:Value}(h1:rv.oneCell'=true)(h2:sv.oneCell'=true):∀v∈(g_ o rv sv).toList,v.oneCell'=true:=by
 intro v hv
 have hv:v∈[Value.bool o.save,.int .i64 o.hard.term,.int .i64 o.hard.C_,.int .i64 o.from_,rv,sv]:=hv
 simp only[List.mem_cons,List.not_mem_nil,or_false] at hv
 rcases hv with rfl | rfl | rfl | rfl | rfl | rfl<;>first | rfl | exact h1 | exact h2
section
variable {B:Base} {w:World} {σ τ:List Dat} {p:Nat} {r:H7}
theorem rG.of{o:LC}{rv sv:Value}(h1:rv.oneCell'=true)(h2:sv.oneCell'=true)(r1:Q4 rv o.recs B)(r2:GN sv o.send B):rG (.agg (g_ o rv sv)) o B:=⟨(⟨rv,h1⟩,⟨sv,h2⟩),rfl,r1,r2⟩
theorem Ah0{m:U8}{v:SV}(q:Q4 v.1 m.recs B):Makes prog B (Z0 D_ #[(m.raw v).v]) fun u τ=>∃s:SV,u = .agg (g_ { o0 with send:=[m] } (.slice none 0 0) s.1)∧τ=[V3 U1 s.1 [m.raw v]]:=by
 refine Makes.intro fun B' w K base h k=>?_
 replace q:=base q
 refine PO.up ?_
 unfold PO.pt
 refine h.box fun o w1 h=>?_
 have h:Rel B' w1 [O1 o U1 (m.raw v).cs.toArray]:=h
 refine h.alloc BF fun t w2 h=>?_
 rw[h.Q9 0 rfl Q8 rfl]
 refine h.bH (α:=dp0) (m.raw v) EL (by decide) fun s w3 h=>?_
 have hs1:s.oneCell'=true:=h.oneCell (i:=2) rfl
 obtain⟨x,n,c,rfl⟩:=FX h 2 rfl
 rw[KV]
 refine h.xI 1 (ds:=g_ { o0 with send:=[m] } (.slice none 0 0) (.slice x n c)) rfl SC rfl rfl (UE rfl rfl) fun w4 h=>?_
 rw[CJ h 1 rfl SC rfl]
 exact k _ _ _ ⟨⟨.slice x n c,rfl⟩,rfl,rfl⟩ (h.pick [2] (by decide))
theorem qb0{m:U8}{v:SV}{s:Value}(h1:Q4 s [m.raw v] B)(h2:Q4 v.1 m.recs B):GN s [m] B:=⟨[v],rfl,h1,fun q hq=>by
 have hq:q∈[(m,v)]:=hq
 rw[List.mem_singleton.1 hq]
 exact h2⟩
set_option maxHeartbeats 1000000 in
theorem eF0(a:BJ p r B){m:U8}{v:SV}(q:Q4 v.1 m.recs B)(hml:m.recs.length≤1000000):Gives prog B (Z0 dI #[ptr p,(m.raw v).v]) (.bool (zx0 r m)):=by
 refine Gives.intro fun B' w K base h k=>?_
 replace a:=base a
 replace q:=base q
 refine fG.up ?_
 unfold fG.pt
 obtain⟨lv,c0,c1⟩:=BJ.FO a
 unfold zx0 at k
 refine h.box fun o w1 h=>?_
 have h:Rel B' w1 [O1 o U1 (m.raw v).cs.toArray]:=h
 refine Q6 fun J hJ=>?_
 simp -zeta only[y5,U0 vH,U0 gX,U0 xN,U0 iX,U0 JK,U0 rF,U0 yN,U0 XT,U0 uQ,Nat.zero_add] at hJ ⊢
 have h:=h.tick
 generalize tick w1=w1 at *
 rw[h.ld 0 rfl F3 (o:=0) (v := .int .i64 m.kind) rfl]
 refine h.ask (fun B2 own base2=>qJ m.kind 0 3) fun w2 h=>?_
 rw[V8,K5,Q5]
 refine⟨fun k1=>?_,fun k1=>?_⟩
 case refine_2 =>
  rw[decide_eq_false (fun hh=>by rw[decide_eq_true hh.kind.1,decide_eq_true hh.kind.2] at k1;cases k1)] at k
  exact k _ _ h
 rw[Bool.and_eq_true,decide_eq_true_eq,decide_eq_true_eq] at k1
 rw[h.ld 0 rfl F3 (o:=2) (v := .int .i64 m.to_) rfl,O1.ld (h.K6 c0) F3 (o:=0) (v := .int .i64 r.id) rfl,X7,K5,K3]
 refine⟨fun k2=>?_,fun k2=>?_⟩
 case refine_2 =>
  rw[decide_eq_false (fun hh=>k2 hh.to_)] at k
  exact k _ _ h
 rw[h.ld 0 rfl F3 (o:=1) (v := .int .i64 m.from_) rfl,O1.ld (h.K6 c0) F3 (o:=0) (v := .int .i64 r.id) rfl,O6,K3]
 refine⟨fun k3=>?_,fun k3=>?_⟩
 ·rw[decide_eq_false (fun hh=>hh.from_ k3)] at k
  exact k _ _ h
 rw[h.ld 0 rfl F3 (o:=1) (v := .int .i64 m.from_) rfl]
 refine h.ask (fun B2 own base2=>qJ m.from_ 0 2) fun w3 h=>?_
 rw[V8,K5,Q5]
 refine⟨fun k4=>?_,fun k4=>?_⟩
 case refine_2 =>
  rw[decide_eq_false (fun hh=>by rw[decide_eq_true hh.from3.1,decide_eq_true hh.from3.2] at k4;cases k4)] at k
  exact k _ _ h
 rw[Bool.and_eq_true,decide_eq_true_eq,decide_eq_true_eq] at k4
 rw[h.ld 0 rfl F3 (o:=3) (v := .int .i64 m.term) rfl]
 refine h.ask (fun B2 own base2=>qJ m.term 1 1099511627776) fun w4 h=>?_
 rw[V8,K5,Q5]
 refine⟨fun k5=>?_,fun k5=>?_⟩
 case refine_2 =>
  rw[decide_eq_false (fun hh=>by rw[decide_eq_true hh.term.1,decide_eq_true hh.term.2] at k5;cases k5)] at k
  exact k _ _ h
 rw[Bool.and_eq_true,decide_eq_true_eq,decide_eq_true_eq] at k5
 rw[h.ld 0 rfl F3 (o:=4) (v := .int .i64 m.index) rfl]
 refine h.ask (fun B2 own base2=>qJ m.index 0 4000) fun w5 h=>?_
 rw[V8,K5,Q5]
 refine⟨fun k6=>?_,fun k6=>?_⟩
 case refine_2 =>
  rw[decide_eq_false (fun hh=>by rw[decide_eq_true hh.index.1,decide_eq_true hh.index.2] at k6;cases k6)] at k
  exact k _ _ h
 rw[Bool.and_eq_true,decide_eq_true_eq,decide_eq_true_eq] at k6
 rw[h.ld 0 rfl F3 (o:=5) (v := .int .i64 m.prev) rfl,h.ld 0 rfl F3 (o:=3) (v := .int .i64 m.term) rfl]
 refine h.ask (fun B2 own base2=>qJ m.prev 0 m.term) fun w6 h=>?_
 rw[V8,K5,Q5]
 refine⟨fun k7=>?_,fun k7=>?_⟩
 case refine_2 =>
  rw[decide_eq_false (fun hh=>by rw[decide_eq_true hh.prev.1,decide_eq_true hh.prev.2] at k7;cases k7)] at k
  exact k _ _ h
 rw[Bool.and_eq_true,decide_eq_true_eq,decide_eq_true_eq] at k7
 have rest:(m.index=0→m.prev=0)→∀w',Rel B' w' [O1 o U1 (m.raw v).cs.toArray]→J () w':=by
  intro k8 w' h
  refine hJ _ _ ?_
  clear hJ
  rw[h.ld 0 rfl F3 (o:=6) (v := .int .i64 m.commit) rfl]
  refine h.ask (fun B2 own base2=>qJ m.commit 0 4000) fun w7 h=>?_
  rw[Q5]
  refine⟨fun k9=>?_,fun k9=>?_⟩
  case refine_2 =>
   rw[decide_eq_false (fun hh=>by rw[decide_eq_true hh.commit.1,decide_eq_true hh.commit.2] at k9;cases k9)] at k
   exact k _ _ h
  rw[Bool.and_eq_true,decide_eq_true_eq,decide_eq_true_eq] at k9
  rw[h.ld 0 rfl O5 (o:=8) (v:=v.1) rfl,Q4.len q U5,gD,K3]
  refine⟨fun k10=>?_,fun k10=>?_⟩
  case refine_2 =>
   rw[decide_eq_false (fun hh=>k10 (by have:=hh.few;omega))] at k
   exact k _ _ h
  rw[h.ld 0 rfl F3 (o:=4) (v := .int .i64 m.index) rfl,h.ld 0 rfl O5 (o:=8) (v:=v.1) rfl,Q4.len q U5,V5,D5 (by omega) (by omega),gD,K3]
  refine⟨fun k11=>?_,fun k11=>?_⟩
  case refine_2 =>
   rw[decide_eq_false (fun hh=>k11 hh.room)] at k
   exact k _ _ h
  rw[h.ld 0 rfl O5 (o:=8) (v:=v.1) rfl,h.ld 0 rfl F3 (o:=5) (v := .int .i64 m.prev) rfl,kL,h.ld 0 rfl F3 (o:=3) (v := .int .i64 m.term) rfl]
  refine h.ask (fun B2 own base2=>Sx0 (base2 q) (by omega) (max 1 m.prev) m.term) fun w8 h=>?_
  have e:decide (gI r m)=LA m.recs (max 1 m.prev) m.term:=by
   rw[Bool.eq_iff_iff,decide_eq_true_eq]
   exact⟨fun hh=>hh.sound,fun hh=>⟨k1,k2,k3,k4,k5,k6,k7,k8,k9,by omega,k11,hh⟩⟩
  rw[e] at k
  exact k _ _ h
 rw[h.ld 0 rfl F3 (o:=4) (v := .int .i64 m.index) rfl,O6,K3]
 refine⟨fun i0=>?_,fun i0=>rest (fun hh=>absurd hh i0) _ h⟩
 rw[h.ld 0 rfl F3 (o:=5) (v := .int .i64 m.prev) rfl,X7,K5,K3]
 refine⟨fun p0=>rest (fun _=>p0) _ h,fun p0=>?_⟩
 rw[decide_eq_false (fun hh=>p0 (hh.zero i0))] at k
 exact k _ _ h
set_option maxHeartbeats 1000000 in
theorem LM0(hk:H8 r){m:U8}{v:SV}:Does prog B (U_ p r) (Z0 VI #[ptr p,(m.raw v).v]) fun u e' τ=>e'=U_ p (Ec0 r m).1∧τ=[rG u (Ec0 r m).2]:=by
 refine Does.intro fun B' w K base h k=>?_
 refine SG.up ?_
 unfold SG.pt
 obtain⟨lv,h⟩:=U_.open h
 have h:Rel B' w [O1 p I1 (P_ r lv.1),V3 U3 lv.1 r.log]:=h
 have hlen:=hk.len
 refine h.box fun o w1 h=>?_
 have h:Rel B' w1 [O1 p I1 (P_ r lv.1),V3 U3 lv.1 r.log,O1 o U1 (m.raw v).cs.toArray]:=h
 refine h.alloc BF fun t w2 h=>?_
 simp -zeta only[y5,U0 x_,U0 y_,U0 UC,U0 QV,U0 xN,U0 JK,U0 rF,U0 yN,Nat.zero_add,Nat.add_zero]
 rw[h.ld 2 rfl F3 (o:=1) (v := .int .i64 m.from_) rfl]
 refine h.ask (fun B2 own base2=>kY (BJ.of lv.2 (own (i:=0) rfl) (V3.read (own (i:=1) rfl))) 1 m.from_) fun w3 h=>?_
 refine h.r9 (ds:=((wM r m false).raw ⟨.slice none 0 0,rfl⟩).cs.toArray) JJ rfl Q8 rfl (fun v hv=>Enc.one ((wM r m false).raw ⟨.slice none 0 0,rfl⟩) v hv) fun a w4 h=>?_
 simp -zeta only[U0 LK,Nat.zero_add]
 have h:Rel B' w4 [O1 p I1 (P_ r lv.1),V3 U3 lv.1 r.log,O1 o U1 (m.raw v).cs.toArray,O1 t Y2 (g_ o0 (.slice none 0 0) (.slice none 0 0)),O1 a U1 ((wM r m false).raw ⟨.slice none 0 0,rfl⟩).cs.toArray]:=h
 rw[h.ld 0 rfl O5 (o:=3) (v:=lv.1) rfl,Q4.len (V3.read (h.here (i:=1) rfl)) U5]
 refine h.ask (fun B2 own base2=>pY (BJ.of lv.2 (own (i:=0) rfl) (V3.read (own (i:=1) rfl))) (by omega) ⟨by omega,by omega⟩) fun w5 h=>?_
 have fin:∀(yes:Bool) (r':H7) (w':World),(if CZ r m then({ r with hard:=⟨r.hard.term,m.from_⟩ },{ o0 with send:=[wM r m true] }) else(r,{ o0 with send:=[wM r m false] }))=(r',{ o0 with send:=[wM r m yes] })→r'.log=r.log →
   Rel B' w' [O1 p I1 (P_ r' lv.1),V3 U3 lv.1 r.log,O1 o U1 (m.raw v).cs.toArray,O1 t Y2 (g_ o0 (.slice none 0 0) (.slice none 0 0)),O1 a U1 ((wM r m yes).raw ⟨.slice none 0 0,rfl⟩).cs.toArray] →
   Y0 prog (X0 U1 (.pointer (some ⟨a,0,none⟩))) w' fun t75=>upK prog (Z0 D_ #[t75]) w' fun t76 w9=>upK prog (F4 Y2 (.pointer (some ⟨t,0,none⟩)) t76) w9 fun tu_1 w10 =>
    S9 prog (do loadVar Y2 (←asAddr (.pointer (some ⟨t,0,none⟩)))) w10 fun t4_1=>K t4_1 w10:=by
  intro yes r' w' e1 elog h
  rw[h.Q9 4 rfl Q8 rfl]
  refine h.make (fun B2 own base2=>Ah0 (m:=wM r m yes) (v:=⟨.slice none 0 0,rfl⟩) LY) fun u τ w9 hp h=>?_
  obtain⟨s,rfl,rfl⟩:=hp
  refine h.xI 3 rfl SC rfl rfl (UE rfl s.2) fun w10 h=>?_
  rw[CJ h 3 rfl SC rfl]
  have e2:Ec0 r m=(r',{ o0 with send:=[wM r m yes] }):=e1
  have h:=h.pick [0,1,5] (by decide)
  have h:Rel B' w10 ([O1 p I1 (P_ r' lv.1),V3 U3 lv.1 r.log]++[V3 U1 s.1 [(wM r m yes).raw ⟨.slice none 0 0,rfl⟩]]):=h
  have h:=h.wrap (c:=rG (.agg (g_ { o0 with send:=[wM r m yes] } (.slice none 0 0) s.1)) { o0 with send:=[wM r m yes] }) fun B2 own=>rG.of rfl s.2 LY (qb0 (V3.read (own (i:=0) rfl)) LY)
  refine k _ _ _ _ ⟨rfl,rfl⟩ ?_
  rw[e2]
  refine U_.close lv ?_
  unfold oF0
  rw[elog]
  exact h
 refine Q6 fun J1 hJ1=>?_
 replace hJ1:∀(b:Bool) (w':World),b=decide (ti0 r m)→Rel B' w' [O1 p I1 (P_ r lv.1),V3 U3 lv.1 r.log,O1 o U1 (m.raw v).cs.toArray,O1 t Y2 (g_ o0 (.slice none 0 0) (.slice none 0 0)),O1 a U1 ((wM r m false).raw ⟨.slice none 0 0,rfl⟩).cs.toArray]→J1 (.bool b,()) w':=by
  intro b w' hb h
  refine hJ1 _ _ ?_
  clear hJ1
  refine Q6 fun J2 hJ2=>?_
  replace hJ2:∀(yes:Bool) (r':H7) (w':World),(if CZ r m then({ r with hard:=⟨r.hard.term,m.from_⟩ },{ o0 with send:=[wM r m true] }) else(r,{ o0 with send:=[wM r m false] }))=(r',{ o0 with send:=[wM r m yes] })→r'.log=r.log →
   Rel B' w' [O1 p I1 (P_ r' lv.1),V3 U3 lv.1 r.log,O1 o U1 (m.raw v).cs.toArray,O1 t Y2 (g_ o0 (.slice none 0 0) (.slice none 0 0)),O1 a U1 ((wM r m yes).raw ⟨.slice none 0 0,rfl⟩).cs.toArray]→J2 () w':=fun yes r' w' e1 e2 h=>hJ2 _ _ (fin yes r' w' e1 e2 h)
  refine Q6 fun J3 hJ3=>?_
  replace hJ3:∀(b:Bool) (w':World),b=decide (CZ r m)→Rel B' w' [O1 p I1 (P_ r lv.1),V3 U3 lv.1 r.log,O1 o U1 (m.raw v).cs.toArray,O1 t Y2 (g_ o0 (.slice none 0 0) (.slice none 0 0)),O1 a U1 ((wM r m false).raw ⟨.slice none 0 0,rfl⟩).cs.toArray]→J3 (.bool b,()) w':=by
   intro b w' hb h
   refine hJ3 _ _ ?_
   show ifB (.bool b) _ _
   rw[hb,K3]
   refine⟨fun c=>?_,fun c=>?_⟩
   ·have h:=h.tick
    generalize tick w'=w' at *
    rw[h.ld 2 rfl F3 (o:=1) (v := .int .i64 m.from_) rfl]
    refine h.st 4 rfl RB (o:=7) (show 7<9 by omega) rfl fun w12 h=>?_
    refine⟨h.is 2 rfl F3 (o:=1) rfl,?_⟩
    refine h.st 0 rfl F3 (o:=2) (show 2<15 by omega) rfl fun w13 h=>?_
    exact hJ2 true { r with hard:=⟨r.hard.term,m.from_⟩ } _ (if_pos c) rfl h
   ·exact hJ2 false r _ (if_neg c) rfl h
  have h:=h.tick
  generalize tick w'=w' at *
  rw[h.ld 2 rfl F3 (o:=3) (v := .int .i64 m.term) rfl,h.ld 0 rfl F3 (o:=1) (v := .int .i64 r.hard.term) rfl,O6,K3]
  refine⟨fun c1=>?_,fun c1=>hJ3 false _ (decide_eq_false fun hh=>c1 hh.1).symm h⟩
  have hv:decide (r.hard.C_ = -1∨r.hard.C_=m.from_)=true→b=decide (CZ r m):=fun hv=>by
   rw[hb]
   exact decide_eq_decide.2 ⟨fun hf=>⟨c1,of_decide_eq_true hv,hf⟩,fun hh=>hh.2.2⟩
  rw[h.ld 0 rfl F3 (o:=1+1) (v := .int .i64 r.hard.C_) rfl,O6,K3]
  refine⟨fun c2=>hJ3 b _ (hv (decide_eq_true (.inl c2))) h,fun c2=>?_⟩
  rw[h.ld 0 rfl F3 (o:=1+1) (v := .int .i64 r.hard.C_) rfl,h.ld 2 rfl F3 (o:=1) (v := .int .i64 m.from_) rfl,O6,K3]
  exact⟨fun c3=>hJ3 b _ (hv (decide_eq_true (.inr c3))) h,fun c3=>hJ3 false _ (decide_eq_false fun hh=>hh.2.1.elim c2 c3).symm h⟩
 clear fin
 have h:=h.tick
 generalize tick w5=w5 at *
 rw[h.ld 2 rfl F3 (o:=5) (v := .int .i64 m.prev) rfl,A_,K3]
 refine⟨fun c1=>hJ1 true _ (decide_eq_true (.inl c1)).symm h,fun c1=>?_⟩
 rw[h.ld 2 rfl F3 (o:=5) (v := .int .i64 m.prev) rfl,O6,K3]
 refine⟨fun c2=>?_,fun c2=>hJ1 false _ (decide_eq_false fun hh=>hh.elim c1 fun h=>c2 h.1).symm h⟩
 rw[h.ld 2 rfl F3 (o:=4) (v := .int .i64 m.index) rfl,h.ld 0 rfl O5 (o:=3) (v:=lv.1) rfl,Q4.len (V3.read (h.here (i:=1) rfl)) U5,LD]
 refine hJ1 _ _ ?_ h
 exact decide_eq_decide.2 ⟨fun hh => .inr ⟨c2,by omega⟩,fun hh=>hh.elim (fun h=>absurd h c1) fun h=>by omega⟩
end
def YB:SV:=⟨.slice none 0 0,rfl⟩
theorem bd3{K:Value→Prop}:M0 prog (G6 iI #[]) K=K (.agg #[.bool false,.bool false,.bool false]):=V4 fun w=>by kernel_rfl
theorem eN0:agB prog iI 3=true:=by kernel_rfl
section
variable {B:Base} {w:World} {σ τ:List Dat} {p:Nat} {r:H7} {K:PtK}
theorem SK{t i:Nat}{cs ds:Array Value}(h:Rel B w σ)(hi:σ[i]? = some (O1 t Y2 cs))(hc:cs.size=6)(hd:ds.size=6)(h1:∀v∈ds.toList,v.oneCell'=true)(k:∀w',Rel B w' (σ.set i (O1 t Y2 ds))→K (.agg ds) w') :
  upK prog (F4 Y2 (.pointer (some ⟨t,0,none⟩)) (.agg ds)) w fun _ w'=>S9 prog (do loadVar Y2 (←asAddr (.pointer (some ⟨t,0,none⟩)))) w' fun v=>K v w':=by
 refine h.xI i hi SC hd hc h1 fun w' h=>?_
 have hlt:i<σ.length:=(List.getElem?_eq_some_iff.1 hi).1
 rw[CJ h i (by rw[List.getElem?_set_self hlt]) SC hd]
 exact k w' h
theorem pJ{t i:Nat}{cs:Array Value}(h:Rel B w σ)(hi:σ[i]? = some (O1 t Y2 cs))(hc:cs.size=6)(k:∀w',Rel B w' (σ.set i (O1 t Y2 (g_ o0 (.slice none 0 0) (.slice none 0 0))))→K (.agg (g_ o0 (.slice none 0 0) (.slice none 0 0))) w') :
  M0 prog (G6 Y2 #[]) fun x=>upK prog (F4 Y2 (.pointer (some ⟨t,0,none⟩)) x) w fun _ w'=>S9 prog (do loadVar Y2 (←asAddr (.pointer (some ⟨t,0,none⟩)))) w' fun v=>K v w':=by
 rw[tp0]
 exact SK h hi hc rfl (UE (o:=o0) (rv := .slice none 0 0) (sv := .slice none 0 0) rfl rfl) k
theorem yi0{lv:Value}(h:O1 p I1 (P_ r lv) B):F6 p 1 r.hard.cs B:=O1.sub h rfl
theorem Ng0{lv:Value}{Kp:Value→Prop}(h:(O1 p I1 (P_ r lv)).here w):Y0 prog (X0 H5 (.pointer (some ⟨p,1,none⟩))) w Kp=Kp (.agg r.hard.cs.toArray):=F6.Q9 (yi0 h) uC rfl
theorem UH0{lv:Value}(h:(O1 p I1 (P_ r lv)).here w):Is prog (X0 H5 (.pointer (some ⟨p,1,none⟩))) (.agg r.hard.cs.toArray) w:=F6.uX (yi0 h) uC rfl
theorem cc0{o:LC}{sv:Value}{lv:SV}{l:List J7}(h1:sv.oneCell'=true)(ho:o.recs=[])(h:Rel B w [O1 p I1 (P_ r lv.1),V3 U3 lv.1 l,GN sv o.send])(hl:r.log=l):Rel B w [U_ p r,rG (.agg (g_ o (.slice none 0 0) sv)) o]:=by
 have h:Rel B w ([O1 p I1 (P_ r lv.1),V3 U3 lv.1 l]++[GN sv o.send]):=h
 have h:=h.wrap (c:=rG (.agg (g_ o (.slice none 0 0) sv)) o) fun B2 own=>rG.of rfl h1 (by rw[ho];exact LY) (own (i:=0) rfl)
 subst hl
 exact U_.close lv h
theorem FD{lv:SV}{l:List J7}(h:Rel B w [O1 p I1 (P_ r lv.1),V3 U3 lv.1 l])(hl:r.log=l):Rel B w [U_ p r,rG (.agg (g_ o0 (.slice none 0 0) (.slice none 0 0))) o0] :=
 cc0 rfl rfl (h.Mm0 fun B=>zE0) hl
theorem lF0{L:List U8}(h:∀m∈L,m.recs=[]){v:Value}(hr:Q4 v (L.map fun m=>m.raw YB) B):GN v L B:=by
 refine⟨L.map fun _=>YB,List.length_map ..,?_,fun q hq=>?_⟩
 ·have e:List.zipWith U8.raw L (L.map fun _=>YB)=L.map fun m=>m.raw YB:=by
   rw[List.zipWith_map_right]
   exact List.zipWith_self (f:=fun(m:U8) (_:U8)=>m.raw YB) ..
  rw[e]
  exact hr
 ·obtain⟨h1,h2⟩:=List.of_mem_zip hq
  obtain⟨q1,q2⟩:=q
  obtain⟨_,_,e⟩:=List.mem_map.1 h2
  have e:YB=q2:=e
  subst e
  have e1:q1.recs=[]:=h q1 h1
  show Q4 _ q1.recs B
  rw[e1]
  exact LY
set_option maxHeartbeats 2000000 in
theorem CM0(hk:H8 r):Does prog B (U_ p r) (Z0 eO #[ptr p]) fun u e' τ=>e'=U_ p (uF r).1∧τ=[rG u (uF r).2]:=by
 refine Does.intro fun B' w K base h k=>?_
 refine QG.up ?_
 unfold QG.pt
 obtain⟨lv,h⟩:=U_.open h
 have h:Rel B' w [O1 p I1 (P_ r lv.1),V3 U3 lv.1 r.log]:=h
 have hlen:=hk.len
 have hterm:=hk.term
 have hid:=hk.id
 unfold uF at k
 refine h.alloc BF fun t w1 h=>?_
 have h:Rel B' w1 [O1 p I1 (P_ r lv.1),V3 U3 lv.1 r.log,O1 t Y2 (g_ o0 (.slice none 0 0) (.slice none 0 0))]:=h
 simp -zeta only[y5,U0 vH,U0 x_,U0 y_,U0 dD,U0 qR,U0 UC,Nat.zero_add,Nat.add_zero]
 rw[h.ld 0 rfl F3 (o:=4) (v := .int .i64 r.role) rfl,O6,K3]
 refine⟨fun c1=>?_,fun c1=>?_⟩
 ·rw[if_pos c1] at k
  refine h.make (fun B2 own base2=>Uv0 (BJ.of lv.2 (own (i:=0) rfl) (V3.read (own (i:=1) rfl))) hk c1) fun u τ w2 hp h=>?_
  obtain⟨rfl,x,n,c,rfl⟩:=hp
  rw[KV]
  refine SK (i:=2) h rfl rfl rfl (UE (o:={ o0 with send:=zR r }) rfl (rfl:(Value.slice x n c).oneCell'=true)) fun w3 h=>?_
  exact k _ _ _ _ ⟨rfl,rfl⟩ (cc0 (o:={ o0 with send:=zR r }) rfl rfl (h.pick [0,1,3] (by decide)) rfl)
 rw[if_neg c1] at k
 rw[h.ld 0 rfl F3 (o:=1) (v := .int .i64 r.hard.term) rfl,O6,K3]
 refine⟨fun c2=>?_,fun c2=>?_⟩
 ·rw[if_pos c2] at k
  refine pJ (i:=2) h rfl rfl fun w3 h=>?_
  exact k _ _ _ _ ⟨rfl,rfl⟩ (FD (h.pick [0,1] (by decide)) rfl)
 rw[if_neg c2] at k
 have h:=h.tick
 generalize tick w1=w1 at *
 rw[h.ld 0 rfl F3 (o:=1) (v := .int .i64 r.hard.term) rfl,V5,D5 (by omega) (by omega),h.ld 0 rfl F3 (o:=0) (v := .int .i64 r.id) rfl,XQ]
 refine h.Av0 0 (n:=2) (o:=1) rfl uC rfl (show 1+2≤15 by omega) (fun v hv=>?_) fun w2 h=>?_
 ·have hv:v∈[Value.int .i64 (r.hard.term+1),.int .i64 r.id]:=hv
  simp only[List.mem_cons,List.not_mem_nil,or_false] at hv
  rcases hv with rfl | rfl<;>rfl
 rw[bd3]
 refine h.st 0 rfl F3 (o:=4) (show 4<15 by omega) rfl fun w3 h=>?_
 refine h.Av0 0 (n:=3) (o:=6) rfl eN0 rfl (show 6+3≤15 by omega) (fun v hv=>?_) fun w4 h=>?_
 ·have hv:v∈[Value.bool false,.bool false,.bool false]:=hv
  simp only[List.mem_cons,List.not_mem_nil,or_false] at hv
  rcases hv with rfl | rfl | rfl<;>rfl
 have h:Rel B' w4 [O1 p I1 (P_ { r with hard:=⟨r.hard.term+1,r.id⟩,role:=1,votes:=⟨false,false,false⟩ } lv.1),V3 U3 lv.1 r.log,O1 t Y2 (g_ o0 (.slice none 0 0) (.slice none 0 0))]:=h
 have h:=h.tick
 generalize tick w4=w4 at *
 rw[h.ld 0 rfl F3 (o:=0) (v := .int .i64 r.id) rfl,qK0 hid]
 refine h.st 0 rfl RB (o:=6+r.id.toNat) (show 6+r.id.toNat<15 by unfold I3 at hid;omega) rfl fun w5 h=>?_
 rw[(pW (r:={ r with hard:=⟨r.hard.term+1,r.id⟩,role:=1,votes:=⟨false,false,false⟩ }) (lv:=lv.1) hid 0 true).2.2] at h
 have h:Rel B' w5 [O1 p I1 (P_ (UO r) lv.1),V3 U3 lv.1 r.log,O1 t Y2 (g_ o0 (.slice none 0 0) (.slice none 0 0))]:=h
 have hlog:(UO r).log=r.log:=rfl
 have hrid:(UO r).id=r.id:=rfl
 have hht:(UO r).hard.term=r.hard.term+1:=rfl
 generalize UO r=r' at *
 rw[Ng0 (h.here (i:=0) rfl),show (Value.agg r'.hard.cs.toArray) = .agg #[.int .i64 r'.hard.term,.int .i64 r'.hard.C_] from rfl,Gh0]
 refine h.r9 (ds:=g_ { o0 with save:=true,hard:=r'.hard } (.slice none 0 0) (.slice none 0 0)) BF rfl SC rfl (UE rfl rfl) fun o3 w6 h=>?_
 refine h.make (fun B2 own base2=>ij0 (r:=r') (BJ.of lv.2 (own (i:=0) rfl) (by rw[hlog];exact V3.read (own (i:=1) rfl)))) fun ov τ w7 hp h=>?_
 subst hp
 have ho3:=rT r.id
 rw[hrid] at h
 have h:=h.oG dp0 U1
 have h:Rel B' w7 [O1 p I1 (P_ r' lv.1),V3 U3 lv.1 r.log,O1 t Y2 (g_ o0 (.slice none 0 0) (.slice none 0 0)),O1 o3 Y2 (g_ { o0 with save:=true,hard:=r'.hard } (.slice none 0 0) (.slice none 0 0)),V3 Q0 ov (Q7 r.id),V3 U1 (.slice none 0 0) ([]:List dp0)]:=h
 rw[Q4.len (V3.read (h.here (i:=4) rfl)) C9]
 refine M6 (fun z w'=>∃(i:Nat) (sv:SV),i≤(Q7 r.id).length∧z=(.int .i64 i,())∧Rel B' w' [O1 p I1 (P_ r' lv.1),V3 U3 lv.1 r.log,O1 t Y2 (g_ o0 (.slice none 0 0) (.slice none 0 0)),O1 o3 Y2 (g_ { o0 with save:=true,hard:=r'.hard } (.slice none 0 0) sv.1),V3 Q0 ov (Q7 r.id),V3 U1 sv.1 ((((Q7 r.id).take i).map (Wf0 r')).map fun m=>m.raw YB)])
  (fun z _=>(Q7 r.id).length-(match z.1 with | .int _ n=>n.toNat | _=>0)) ⟨0,YB,Nat.zero_le _,rfl,h⟩ ?_
 clear h
 rintro z w8 ⟨i,sv,hi,rfl,h⟩ next hnext
 simp -zeta only[D6,K3]
 refine⟨fun hlt=>?_,fun hge=>?_⟩
 case refine_2 =>
  have:i=(Q7 r.id).length:=by omega
  subst this
  rw[List.take_length] at h
  rw[h.Q9 3 rfl SC rfl]
  refine SK (i:=2) h rfl rfl rfl (UE rfl sv.2) fun w9 h=>?_
  have h:Rel B' w9 ([O1 p I1 (P_ r' lv.1),V3 U3 lv.1 r.log]++[V3 U1 sv.1 (((Q7 r.id).map (Wf0 r')).map fun m=>m.raw YB)]):=h.pick [0,1,5] (by decide)
  have h:=h.wrap (c:=GN sv.1 ((Q7 r.id).map (Wf0 r'))) fun B2 own=>lF0 (fun m hm=>by obtain⟨j,_,rfl⟩:=List.mem_map.1 hm;rfl) (V3.read (own (i:=0) rfl))
  exact k _ _ _ _ ⟨rfl,rfl⟩ (cc0 (o:={ o0 with save:=true,hard:=r'.hard,send:=(Q7 r.id).map (Wf0 r') }) sv.2 rfl h hlog)
 have hil:i<(Q7 r.id).length:=by omega
 obtain⟨g,o,hx,hc⟩:=Q4.idx (V3.read (h.here (i:=4) rfl)) C9 (P:=prog) hil
 rw[hx,F6.ld0 hc F3 (v := .int .i64 (Q7 r.id)[i]) rfl]
 clear hc hx
 have htk:(((Q7 r.id).take (i+1)).map (Wf0 r')).map (fun m=>m.raw YB)=(((Q7 r.id).take i).map (Wf0 r')).map (fun m=>m.raw YB)++[(Wf0 r' (Q7 r.id)[i]).raw YB]:=by
  rw[List.take_succ_eq_append_getElem hil,List.map_append,List.map_append]
  rfl
 have hll:((((Q7 r.id).take i).map (Wf0 r')).map fun m=>m.raw YB).length=i:=by rw[List.length_map,List.length_map,List.length_take];omega
 generalize (((Q7 r.id).take i).map (Wf0 r')).map (fun m=>m.raw YB)=L at *
 generalize (Q7 r.id)[i]=to_ at *
 refine h.ask (fun B2 own base2=>kY (r:=r') (BJ.of lv.2 (own (i:=0) rfl) (by rw[hlog];exact V3.read (own (i:=1) rfl))) 0 to_) fun w9 h=>?_
 have hm0:dM0 0 r'.id to_ r'.hard.term 0 0 0 false (.slice none 0 0)=((⟨0,r'.id,to_,r'.hard.term,0,0,0,false,[]⟩:U8).raw YB).v:=rfl
 rw[hm0]
 refine h.r9 (ds:=((⟨0,r'.id,to_,r'.hard.term,0,0,0,false,[]⟩:U8).raw YB).cs.toArray) JJ rfl Q8 rfl (fun v hv=>Enc.one ((⟨0,r'.id,to_,r'.hard.term,0,0,0,false,[]⟩:U8).raw YB) v hv) fun m6 w10 h=>?_
 have h:=h.tick
 generalize tick w10=w10 at *
 simp -zeta only[U0 rF,U0 yN,U0 kX,Nat.zero_add]
 rw[h.ld 0 rfl O5 (o:=3) (v:=lv.1) rfl,Q4.len (V3.read (h.here (i:=1) rfl)) U5,h.ld 0 rfl O5 (o:=3) (v:=lv.1) rfl,Q4.len (V3.read (h.here (i:=1) rfl)) U5]
 refine h.ask (fun B2 own base2=>pY (r:=r') (n:=r.log.length) (BJ.of lv.2 (own (i:=0) rfl) (by rw[hlog];exact V3.read (own (i:=1) rfl))) (by rw[hlog];omega) ⟨by omega,by rw[hlog];omega⟩) fun w11 h=>?_
 have isl:Is prog (J5 .len #[O3] Q0 #[false] #[lv.1]) (.int .i64 r.log.length) w11:=by
  have:=Q4.len (P:=prog) (w:=w11) (T:=O3) (U:=Q0) (bs:=#[false]) (Kp:=fun x=>x = .int .i64 r.log.length) (V3.read (h.here (i:=1) rfl)) U5
  obtain⟨x,h1,rfl⟩:=this.mpr rfl
  exact h1
 refine⟨isl,h.is 0 rfl O5 (o:=3) rfl,?_⟩
 refine h.st 6 rfl F3 (o:=4) (show 4<9 by omega) rfl fun w12 h=>?_
 refine h.st 6 rfl F3 (o:=5) (show 5<9 by omega) rfl fun w13 h=>?_
 rw[h.ld 3 rfl aS (o:=5) (v:=sv.1) rfl,h.Q9 6 rfl Q8 rfl]
 refine h.Df0 (α:=dp0) 5 rfl ((Wf0 r' to_).raw YB) EL (by decide) (by omega) (by omega) (hx:=by unfold Wf0;rw[hlog];rfl) fun v' w14 h=>?_
 ·have hv1:v'.oneCell'=true:=h.oneCell (i:=5) rfl
  refine h.st 3 rfl aS (o:=5) (show 5<6 by omega) hv1 fun w15 h=>?_
  rw[V5,D5 (by omega) (by omega)]
  refine hnext _ _ ⟨i+1,⟨v',hv1⟩,hil,rfl,?_⟩ (by simp only;omega)
  rw[htk]
  exact h.take 6
end
def LV(t:T3 Bool):Nat→Nat
 | 0=>0
 | 1=>if t.a then 1 else 0
 | 2=>(if t.a then 1 else 0)+(if t.b then 1 else 0)
 | _=>xU t
def yf0(r:H7):Nat→H7
 | 0=>{ r with role:=2 }
 | i+1=>{ yf0 r i with next:=(yf0 r i).next.set i (r.log.length+1),mtch:=(yf0 r i).mtch.set i 0 }
theorem cM0(r:H7):yf0 r 3=yX r:=rfl
theorem Oi0{r:H7}(hk:H8 r):H8 (yX r) where
 id:=hk.id
 term:=hk.term
 C_:=hk.C_
 len:=hk.len
 sound:=hk.sound
 role := .inr (.inr rfl)
 commit:=hk.commit
 next:=fun _ i hi=>by
  rcases hi.cases with rfl | rfl | rfl<;>(show 1≤((r.log.length:Int)+1)∧((r.log.length:Int)+1)≤(r.log.length:Int)+1;omega)
 mtch:=fun _ i hi=>by
  rcases hi.cases with rfl | rfl | rfl<;>(show (0:Int)≤0∧(0:Int)≤(r.log.length:Int);omega)
theorem Gc0{r:H7}(hk:H8 r)(t:T3 Bool):H8 { r with votes:=t }:=⟨hk.id,hk.term,hk.C_,hk.len,hk.sound,hk.role,hk.commit,hk.next,hk.mtch⟩
def dU(r:H7):Int:=(Q7 r.id).foldl (fun a i=>max a (r.mtch.get i)) 0
def KF(r:H7):H7:=if r.commit<dU r∧YE r.log (dU r)=r.hard.term then { r with commit:=dU r } else r
theorem ri0{f:Int→Int}{n:Int}:∀{l:List Int} {a:Int},(∀i∈l,f i≤n)→0≤a→a≤n→0≤l.foldl (fun a i=>max a (f i)) a∧l.foldl (fun a i=>max a (f i)) a≤n
 | [],_,_,h0,h1=>⟨h0,h1⟩
 | i :: l,a,h,h0,h1=>by
  have:=h i (List.mem_cons_self ..)
  exact ri0 (l:=l) (fun j hj=>h j (List.mem_cons_of_mem _ hj)) (show 0≤max a (f i) by omega) (show max a (f i)≤n by omega)
theorem JZ{r:H7}(hk:H8 r)(hl:r.role=2):0≤dU r∧dU r≤r.log.length :=
 ri0 (fun i hi=>(hk.mtch hl i (zP hi)).2) (Int.le_refl 0) (by omega)
theorem SL0{Kp:Value→Prop}{a b c:Bool}:M0 prog (RZ iI (.agg #[.bool a,.bool b,.bool c]) (.int .i64 (0:Nat))) Kp=Kp (.bool a)∧M0 prog (RZ iI (.agg #[.bool a,.bool b,.bool c]) (.int .i64 (1:Nat))) Kp=Kp (.bool b)∧M0 prog (RZ iI (.agg #[.bool a,.bool b,.bool c]) (.int .i64 (2:Nat))) Kp=Kp (.bool c) :=
 ⟨V4 fun w=>by kernel_rfl,V4 fun w=>by kernel_rfl,V4 fun w=>by kernel_rfl⟩
section
variable {B:Base} {w:World} {σ τ:List Dat} {p:Nat} {r:H7} {K:PtK}
theorem Ns0{lv:Value}(h:O1 p I1 (P_ r lv) B):F6 p 6 [Value.bool r.votes.a,.bool r.votes.b,.bool r.votes.c] B:=O1.sub h rfl
theorem zG0{lv:Value}{Kp:Value→Prop}(h:(O1 p I1 (P_ r lv)).here w):Y0 prog (X0 iI (.pointer (some ⟨p,6,none⟩))) w Kp=Kp (.agg #[.bool r.votes.a,.bool r.votes.b,.bool r.votes.c]):=F6.Q9 (Ns0 h) eN0 rfl
set_option maxHeartbeats 2000000 in
theorem TJ0(hk:H8 r){m:U8}{v:SV}(hf:I3 m.from_):Does prog B (U_ p r) (Z0 fI #[ptr p,(m.raw v).v]) fun u e' τ=>e'=U_ p (NU r m).1∧τ=[rG u (NU r m).2]:=by
 refine Does.intro fun B' w K base h k=>?_
 refine gG.up ?_
 unfold gG.pt
 obtain⟨lv,h⟩:=U_.open h
 have h:Rel B' w [O1 p I1 (P_ r lv.1),V3 U3 lv.1 r.log]:=h
 have hlen:=hk.len
 refine h.box fun o w1 h=>?_
 have h:Rel B' w1 [O1 p I1 (P_ r lv.1),V3 U3 lv.1 r.log,O1 o U1 (m.raw v).cs.toArray]:=h
 refine h.alloc BF fun t w2 h=>?_
 have h:Rel B' w2 [O1 p I1 (P_ r lv.1),V3 U3 lv.1 r.log,O1 o U1 (m.raw v).cs.toArray,O1 t Y2 (g_ o0 (.slice none 0 0) (.slice none 0 0))]:=h
 have h:=h.tick
 generalize tick w2=w2 at *
 unfold NU at k
 simp -zeta only[y5,U0 x_,U0 y_,U0 dD,U0 qR,U0 ZL,U0 aM,U0 UC,U0 xN,U0 JK,U0 LK,Nat.zero_add,Nat.add_zero]
 rw[h.ld 0 rfl F3 (o:=4) (v := .int .i64 r.role) rfl,X7,K5,K3]
 refine⟨fun c1=>?_,fun c1=>?_⟩
 case refine_2 =>
  rw[if_pos (.inl c1)] at k
  refine pJ (i:=3) h rfl rfl fun w3 h=>?_
  exact k _ _ _ _ ⟨rfl,rfl⟩ (FD (h.pick [0,1] (by decide)) rfl)
 rw[h.ld 2 rfl F3 (o:=3) (v := .int .i64 m.term) rfl,h.ld 0 rfl F3 (o:=1) (v := .int .i64 r.hard.term) rfl,X7,K5,K3]
 refine⟨fun c2=>?_,fun c2=>?_⟩
 case refine_2 =>
  rw[if_pos (.inr (.inl c2))] at k
  refine pJ (i:=3) h rfl rfl fun w3 h=>?_
  exact k _ _ _ _ ⟨rfl,rfl⟩ (FD (h.pick [0,1] (by decide)) rfl)
 rw[h.ld 2 rfl RB (o:=7) (v := .bool m.yes) rfl,V8,K5,Q5]
 refine⟨fun c3=>?_,fun c3=>?_⟩
 case refine_2 =>
  rw[if_pos (.inr (.inr c3))] at k
  refine pJ (i:=3) h rfl rfl fun w3 h=>?_
  exact k _ _ _ _ ⟨rfl,rfl⟩ (FD (h.pick [0,1] (by decide)) rfl)
 rw[if_neg (fun hh=>hh.elim (fun h=>h c1) fun hh=>hh.elim (fun h=>h c2) fun h=>by rw[c3] at h;cases h)] at k
 have h:=h.tick
 generalize tick w2=w2 at *
 rw[h.ld 2 rfl F3 (o:=1) (v := .int .i64 m.from_) rfl,qK0 hf]
 refine h.st 0 rfl RB (o:=6+m.from_.toNat) (show 6+m.from_.toNat<15 by unfold I3 at hf;omega) rfl fun w5 h=>?_
 rw[(pW (r:=r) (lv:=lv.1) hf 0 true).2.2] at h
 have hk:H8 { r with votes:=r.votes.set m.from_ true }:=Gc0 hk _
 have hlog:r.log={ r with votes:=r.votes.set m.from_ true }.log:=rfl
 have h:Rel B' w5 [O1 p I1 (P_ { r with votes:=r.votes.set m.from_ true } lv.1),V3 U3 lv.1 r.log,O1 o U1 (m.raw v).cs.toArray,O1 t Y2 (g_ o0 (.slice none 0 0) (.slice none 0 0))]:=h
 have hct:xU (r.votes.set m.from_ true)=xU { r with votes:=r.votes.set m.from_ true }.votes:=rfl
 rw[hct] at k
 clear hct
 rw[hlog] at h hlen
 clear hlog
 generalize { r with votes:=r.votes.set m.from_ true }=r at *
 rw[zG0 (h.here (i:=0) rfl)]
 refine M6 (fun z w'=>∃i:Nat,i≤3∧z=(.int .i64 (LV r.votes i),.int .i64 i,())∧Rel B' w' [O1 p I1 (P_ r lv.1),V3 U3 lv.1 r.log,O1 o U1 (m.raw v).cs.toArray,O1 t Y2 (g_ o0 (.slice none 0 0) (.slice none 0 0))])
  (fun z _=>3-(match z.2.1 with | .int _ n=>n.toNat | _=>0)) ⟨0,by omega,rfl,h⟩ ?_
 clear h
 rintro z w6 ⟨i,hi,rfl,h⟩ next hnext
 simp -zeta only[D6,K3]
 refine⟨fun hlt=>?_,fun hge=>?_⟩
 ·refine Q6 fun J hJ=>?_
  replace hJ:∀w',Rel B' w' [O1 p I1 (P_ r lv.1),V3 U3 lv.1 r.log,O1 o U1 (m.raw v).cs.toArray,O1 t Y2 (g_ o0 (.slice none 0 0) (.slice none 0 0))]→J (.int .i64 (LV r.votes (i+1)),()) w':=by
   intro w' h
   refine hJ _ _ ?_
   rw[V5,D5 (by omega) (by omega)]
   exact hnext _ _ ⟨i+1,by omega,rfl,h⟩ (by simp only;omega)
  clear hnext
  have hi3:i=0∨i=1∨i=2:=by omega
  rcases hi3 with rfl | rfl | rfl
  ·rw[SL0.1,Q5]
   refine⟨fun c=>?_,fun c=>?_⟩
   ·rw[V5]
    have e:IntKind.wrap .i64 ((LV r.votes 0:Nat)+1)=((LV r.votes (0+1):Nat):Int):=by
     unfold LV
     rw[if_pos c]
     rfl
    rw[e]
    exact hJ _ h
   ·have e:LV r.votes (0+1)=LV r.votes 0:=by
     show (if r.votes.a=true then 1 else 0)=0
     rw[if_neg (by rw[c];decide)]
    rw[e] at hJ
    exact hJ _ h
  ·rw[SL0.2.1,Q5]
   refine⟨fun c=>?_,fun c=>?_⟩
   ·rw[V5]
    have e:IntKind.wrap .i64 ((LV r.votes 1:Nat)+1)=((LV r.votes (1+1):Nat):Int):=by
     show IntKind.wrap .i64 (((if r.votes.a=true then 1 else 0:Nat):Int)+1)=(((if r.votes.a=true then 1 else 0)+(if r.votes.b=true then 1 else 0):Nat):Int)
     rw[if_pos c]
     generalize r.votes.a=x
     cases x<;>rfl
    rw[e]
    exact hJ _ h
   ·have e:LV r.votes (1+1)=LV r.votes 1:=by
     show (if r.votes.a=true then 1 else 0)+(if r.votes.b=true then 1 else 0)=(if r.votes.a=true then 1 else 0)
     rw[if_neg (c:=r.votes.b=true) (by rw[c];decide),Nat.add_zero]
    rw[e] at hJ
    exact hJ _ h
  ·rw[SL0.2.2,Q5]
   refine⟨fun c=>?_,fun c=>?_⟩
   ·rw[V5]
    have e:IntKind.wrap .i64 ((LV r.votes 2:Nat)+1)=((LV r.votes (2+1):Nat):Int):=by
     show IntKind.wrap .i64 ((((if r.votes.a=true then 1 else 0)+(if r.votes.b=true then 1 else 0):Nat):Int)+1)=(((if r.votes.a=true then 1 else 0)+(if r.votes.b=true then 1 else 0)+(if r.votes.c=true then 1 else 0):Nat):Int)
     rw[if_pos (c:=r.votes.c=true) c]
     generalize r.votes.a=x
     generalize r.votes.b=y
     cases x<;>cases y<;>rfl
    rw[e]
    exact hJ _ h
   ·have e:LV r.votes (2+1)=LV r.votes 2:=by
     show (if r.votes.a=true then 1 else 0)+(if r.votes.b=true then 1 else 0)+(if r.votes.c=true then 1 else 0)=(if r.votes.a=true then 1 else 0)+(if r.votes.b=true then 1 else 0)
     rw[if_neg (c:=r.votes.c=true) (by rw[c];decide),Nat.add_zero]
    rw[e] at hJ
    exact hJ _ h
 have:i=3:=by omega
 subst this
 refine⟨fun c4=>?_,fun c4=>?_⟩
 ·have c4:xU r.votes<2:=by
   have:((LV r.votes 3:Nat):Int)<2:=c4
   have e:LV r.votes 3=xU r.votes:=rfl
   omega
  rw[if_pos c4] at k
  refine pJ (i:=3) h rfl rfl fun w3 h=>?_
  exact k _ _ _ _ ⟨rfl,rfl⟩ (FD (h.pick [0,1] (by decide)) rfl)
 have c4:¬xU r.votes<2:=by
  have:¬((LV r.votes 3:Nat):Int)<2:=c4
  have e:LV r.votes 3=xU r.votes:=rfl
  omega
 rw[if_neg c4] at k
 refine h.st 0 rfl F3 (o:=4) (show 4<15 by omega) rfl fun w7 h=>?_
 refine M6 (fun z w'=>∃i:Nat,i≤3∧z=(.int .i64 i,())∧Rel B' w' [O1 p I1 (P_ (yf0 r i) lv.1),V3 U3 lv.1 r.log,O1 o U1 (m.raw v).cs.toArray,O1 t Y2 (g_ o0 (.slice none 0 0) (.slice none 0 0))])
  (fun z _=>3-(match z.1 with | .int _ n=>n.toNat | _=>0)) ⟨0,by omega,rfl,h⟩ ?_
 clear h
 rintro z w8 ⟨i,hi,rfl,h⟩ next hnext
 simp -zeta only[D6,K3]
 refine⟨fun hlt=>?_,fun hge=>?_⟩
 ·have h:=h.tick
  generalize tick w8=w8 at *
  have hi3:I3 (i:Int):=by unfold I3;omega
  rw[h.ld 0 rfl O5 (o:=3) (v:=lv.1) rfl,Q4.len (V3.read (h.here (i:=1) rfl)) U5,V5,D5 (by omega) (by omega),Dz0 hi3]
  refine h.st 0 rfl F3 (o:=9+(i:Int).toNat) (show 9+(i:Int).toNat<15 by omega) rfl fun w9 h=>?_
  rw[(pW (r:=yf0 r i) (lv:=lv.1) hi3 (r.log.length+1) true).1] at h
  rw[Dz0 hi3]
  refine h.st 0 rfl F3 (o:=12+(i:Int).toNat) (show 12+(i:Int).toNat<15 by omega) rfl fun w9 h=>?_
  rw[(pW (r:={ yf0 r i with next:=(yf0 r i).next.set i (r.log.length+1) }) (lv:=lv.1) hi3 0 true).2.1] at h
  rw[V5,D5 (by omega) (by omega)]
  exact hnext _ _ ⟨i+1,by omega,rfl,h⟩ (by simp only;omega)
 have:i=3:=by omega
 subst this
 rw[cM0] at h
 have hll:(yX r).log=r.log:=rfl
 refine h.make (fun B2 own base2=>Uv0 (BJ.of lv.2 (own (i:=0) rfl) (V3.read (own (i:=1) rfl))) (Oi0 hk) rfl) fun u τ w2 hp h=>?_
 obtain⟨rfl,x,n,c,rfl⟩:=hp
 rw[KV]
 refine SK (i:=3) h rfl rfl rfl (UE (o:={ o0 with send:=zR (yX r) }) rfl (rfl:(Value.slice x n c).oneCell'=true)) fun w3 h=>?_
 exact k _ _ _ _ ⟨rfl,rfl⟩ (cc0 (o:={ o0 with send:=zR (yX r) }) rfl rfl (h.pick [0,1,4] (by decide)) rfl)
set_option maxHeartbeats 1000000 in
theorem vy0(hk:H8 r)(hl:r.role=2):Does prog B (U_ p r) (Z0 mG #[ptr p]) fun _ e' τ=>e'=U_ p (KF r)∧τ=[]:=by
 refine Does.intro fun B' w K base h k=>?_
 refine yE.up ?_
 unfold yE.pt
 obtain⟨lv,h⟩:=U_.open h
 have h:Rel B' w [O1 p I1 (P_ r lv.1),V3 U3 lv.1 r.log]:=h
 have hlen:=hk.len
 have hmr:=JZ hk hl
 have fin:∀(r':H7) (z:Value) (w':World),KF r=r'→r'.log=r.log→Rel B' w' [O1 p I1 (P_ r' lv.1),V3 U3 lv.1 r.log]→K z w':=by
  intro r' z w' e elog h
  refine k z _ [] w' ⟨rfl,rfl⟩ ?_
  rw[e]
  refine U_.close lv ?_
  unfold oF0
  rw[elog]
  exact h
 clear k
 unfold KF at fin
 refine h.make (fun B2 own base2=>ij0 (BJ.of lv.2 (own (i:=0) rfl) (V3.read (own (i:=1) rfl)))) fun ov τ w1 hp h=>?_
 subst hp
 have h:Rel B' w1 [O1 p I1 (P_ r lv.1),V3 U3 lv.1 r.log,V3 Q0 ov (Q7 r.id)]:=h
 have ho3:=rT r.id
 rw[Q4.len (V3.read (h.here (i:=2) rfl)) C9]
 refine M6 (fun z w'=>∃i:Nat,i≤(Q7 r.id).length∧z=(.int .i64 (((Q7 r.id).take i).foldl (fun a i=>max a (r.mtch.get i)) 0),.int .i64 i,())∧Rel B' w' [O1 p I1 (P_ r lv.1),V3 U3 lv.1 r.log,V3 Q0 ov (Q7 r.id)])
  (fun z _=>(Q7 r.id).length-(match z.2.1 with | .int _ n=>n.toNat | _=>0)) ⟨0,Nat.zero_le _,rfl,h⟩ ?_
 clear h
 rintro z w2 ⟨i,hi,rfl,h⟩ next hnext
 simp -zeta only[D6,K3]
 refine⟨fun hlt=>?_,fun hge=>?_⟩
 ·have hil:i<(Q7 r.id).length:=by omega
  have hmem:=zP (List.getElem_mem hil)
  obtain⟨g,o,hx,hc⟩:=Q4.idx (V3.read (h.here (i:=2) rfl)) C9 (P:=prog) hil
  rw[hx,F6.ld0 hc F3 (v := .int .i64 (Q7 r.id)[i]) rfl]
  clear hc hx
  simp -zeta only[y5,U0 aM,Nat.zero_add]
  rw[Dz0 hmem,h.ld 0 rfl F3 (o:=12+((Q7 r.id)[i]).toNat) (TV hmem).2.1,kL,V5,D5 (by omega) (by omega)]
  refine hnext _ _ ⟨i+1,hil,?_,h⟩ (by simp only;omega)
  rw[List.take_succ_eq_append_getElem hil,List.foldl_append]
  rfl
 have:i=(Q7 r.id).length:=by omega
 subst this
 rw[List.take_length]
 have em:(Q7 r.id).foldl (fun a i=>max a (r.mtch.get i)) 0=dU r:=rfl
 rw[em]
 have h:=h.tick
 generalize tick w2=w2 at *
 simp -zeta only[y5,U0 x_,U0 wH,U0 UC,Nat.zero_add,Nat.add_zero]
 rw[h.ld 0 rfl F3 (o:=5) (v := .int .i64 r.commit) rfl,A_,K3]
 refine⟨fun c1=>?_,fun c1=>?_⟩
 case refine_2 =>
  rw[if_neg (fun hh=>c1 hh.1)] at fin
  exact fin r _ _ rfl rfl (h.pick [0,1] (by decide))
 rw[h.ld 0 rfl F3 (o:=1) (v := .int .i64 r.hard.term) rfl]
 refine h.ask (fun B2 own base2=>pY (BJ.of lv.2 (own (i:=0) rfl) (V3.read (own (i:=1) rfl))) (by omega) hmr) fun w3 h=>?_
 refine⟨h.is 0 rfl F3 (o:=1) rfl,?_⟩
 rw[O6,K3]
 refine⟨fun c2=>?_,fun c2=>?_⟩
 case refine_2 =>
  rw[if_neg (fun hh=>c2 hh.2)] at fin
  exact fin r _ _ rfl rfl (h.pick [0,1] (by decide))
 refine h.st 0 rfl F3 (o:=5) (show 5<15 by omega) rfl fun w4 h=>?_
 rw[if_pos ⟨c1,c2⟩] at fin
 exact fin _ _ _ rfl rfl (h.pick [0,1] (by decide))
end
end Go.Proofs.YtngbebnhegcokaaGreatDoor
