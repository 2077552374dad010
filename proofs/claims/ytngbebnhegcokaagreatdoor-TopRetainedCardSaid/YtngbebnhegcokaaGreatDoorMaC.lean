/-
  Part 3 of the proof that TopRetained holds, for the parts that follow; made small by program out of longer texts. No condition.
-/
import Derived.Deep.DeepHandedRow
import Derived.Deep.Slices
import Derived.Deep.Strs
import Derived.Ground.GgzProg
import Derived.Ground.Names2Prog
import Derived.Ground.NamesProg
import Derived.JoinedCond
import Derived.KernelRfl
import Derived.Laws.BytesString
import Derived.Laws.Externs
import Derived.Lib.AtoiAll
import Derived.Lib.AtoiAllCases
import Derived.Lib.ItoaNum
import Derived.Lib.LaidTab
import Derived.Lib.RowBridge
import Derived.Maps.RangeRun
import Derived.OpenShut
import Derived.OrdersHeld
import Derived.ProofKit
import Derived.Scope
import Derived.Shelf.Lay
import Derived.Shelf.SlIterI.Nil
import Derived.Shelf.SlMaps.Clone
import Derived.Shelf.Slices.CompactI
import Derived.Shelf.Slices.In.SortNone
import Derived.Shelf.Small.Strs
import Derived.Shelf.Small.Wraps
import Derived.Shelf.Sort.Plain
import Derived.Shelf.Strconv.AtoiAll
import Derived.Shelf.Strconv.Itoa3
import Derived.Shelf.Strings.BuilderK
import Derived.Test.YtngbebnhegcokaaGreatDoorCards
import Derived.Test.YtngbebnhegcokaaGreatDoorProg
import Derived.Test.YtngbebnhegcokaaGreatDoorRows
import Derived.Test.YtngbebnhegcokaaGreatDoorTie
import Derived.WalkKit
import Derived.WideLaws
import Derived.Test.YtngbebnhegcokaaGreatDoorMaB
namespace Go.Proofs.YtngbebnhegcokaaGreatDoor
set_option linter.unusedVariables false
set_option maxRecDepth 100000
def VQ.pt(s0 n1:Value)(w:World)(K:Value→World→Prop):Prop :=
 upK Tryz.prog (Z0 S_ #[s0]) w fun t11 w1 =>
 kD (X:=Value×Unit) (fun jv1 w2 =>
  upK Tryz.prog (Z0 m_ #[t11]) w2 fun t34 w3 =>
  ifB t34
  (Y0 Tryz.prog (M5 .len #[Z4] Q0 #[false] #[jv1.1]) w3 fun t37 =>
  M0 Tryz.prog (V3 .eql Q0 (.tmp 37) (.tmp 38) t37 n1) fun t39 =>
  ifB t39
  (upK Tryz.prog (Z0 oK #[jv1.1]) w3 fun t43 w4 =>
   M0 Tryz.prog (V3 .eql M3 (.tmp 43) (.tmp 44) t43 s0) fun t45 =>
   K (.tuple #[jv1.1,t45]) w4)
  (K (.tuple #[jv1.1,(.bool false)]) w3))
  (K (.tuple #[jv1.1,(.bool false)]) w3))
 (fun J1 =>
  LOOP (X:=Value×Unit) (fun lv5 w5 next5 =>
  Y0 Tryz.prog (M5 .len #[Z4] Q0 #[false] #[lv5.1]) w5 fun t13 =>
  M0 Tryz.prog (V3 .lss Q0 (.tmp 13) (.tmp 14) t13 n1) fun t15 =>
  ifB t15
  (upK Tryz.prog (Z0 qB #[t11]) w5 fun t17 w6 =>
   upK Tryz.prog (Z0 y8 #[t11]) w6 fun t19 w7 =>
   upK Tryz.prog (Z0 qB #[t11]) w7 fun t21 w8 =>
   M0 Tryz.prog (V3 .geq Q0 (.tmp 21) (.tmp 22) t21 t17) fun t23 =>
   ifB t23
   (J1 (lv5.1,()) w8)
   (M0 Tryz.prog (V3 .eql Q0 (.tmp 25) (.const (.int .i64 0)) t17 (.int .i64 0)) fun t26 =>
   ifB t26
   (J1 (lv5.1,()) w8)
   (upK Tryz.prog (J6 Z4 1 #[(0,t19)]) w8 fun t30 w9 =>
    upK Tryz.prog (M5 .append #[Z4,Z4] Z4 #[false,false] #[lv5.1,t30]) w9 fun t31 w10 =>
    next5 (t31,()) w10)))
  (J1 (lv5.1,()) w5))
  ((.slice none 0 0),()) w1)
theorem VQ.up{s0 n1:Value}{w:World}{K:Value→World→Prop}(h:VQ.pt s0 n1 w K):upK Tryz.prog (Z0 ER #[s0,n1]) w K :=
 upF [4,5] (.node none .leaf (.node none (.node none .leaf (.node none .leaf (.node none .leaf (.node (some [7]) .leaf .leaf)))) .leaf)) [s0,n1] Tryz.func155 ⟨by kernel_rfl,by kernel_rfl,by kernel_rfl,by kernel_rfl⟩ h
def NM.pt(n0 a1 b2:Value)(w:World)(K:Value→World→Prop):Prop :=
 M0 Tryz.prog (V3 .geq Q0 (.tmp 7) (.tmp 8) n0 a1) fun t9 =>
 ifB t9
 (M0 Tryz.prog (V3 .leq Q0 (.tmp 11) (.tmp 12) n0 b2) fun t13 =>
  K t13 w)
 (K (.bool false) w)
theorem NM.up{n0 a1 b2:Value}{w:World}{K:Value→World→Prop}(h:NM.pt n0 a1 b2 w K):upK Tryz.prog (Z0 D_ #[n0,a1,b2]) w K :=
 upF [6] .leaf [n0,a1,b2] Tryz.func156 ⟨by kernel_rfl,by kernel_rfl,by kernel_rfl,by kernel_rfl⟩ h
def LP.pt(l0 least1 most2:Value)(w:World)(K:Value→World→Prop):Prop :=
 Y0 Tryz.prog (M5 .len #[U3] Q0 #[false] #[l0]) w fun t10 =>
 LOOP (X:=Value×Value×Unit) (fun lv1 w1 next1 =>
  M0 Tryz.prog (V3 .lss Q0 (.tmp 11) (.tmp 10) lv1.2.1 t10) fun t12 =>
  ifB t12
  (M0 Tryz.prog (I5 U3 l0 lv1.2.1) fun t13 =>
  Y0 Tryz.prog (X0 X3 t13) w1 fun t14 =>
  upK Tryz.prog (A7 X3) w1 fun x8 w2 =>
  upK Tryz.prog (I4 X3 x8 t14) w2 fun tu w3 =>
  M0 Tryz.prog (O0 X3 x8 0) fun t15 =>
  Y0 Tryz.prog (X0 Q0 t15) w3 fun t16 =>
  M0 Tryz.prog (V3 .lss Q0 (.tmp 16) (.tmp 17) t16 lv1.1) fun t18 =>
  ifB t18
  (K (.bool false) w3)
  (M0 Tryz.prog (O0 X3 x8 0) fun t20 =>
   Y0 Tryz.prog (X0 Q0 t20) w3 fun t21 =>
   M0 Tryz.prog (V3 .gtr Q0 (.tmp 21) (.tmp 22) t21 most2) fun t23 =>
   ifB t23
   (K (.bool false) w3)
   (M0 Tryz.prog (O0 X3 x8 1) fun t26 =>
   Y0 Tryz.prog (X0 M3 t26) w3 fun t27 =>
   Y0 Tryz.prog (M5 .len #[M3] Q0 #[false] #[t27]) w3 fun t28 =>
   M0 Tryz.prog (V3 .gtr Q0 (.tmp 28) (.const (.int .i64 2000)) t28 (.int .i64 2000)) fun t29 =>
   ifB t29
   (K (.bool false) w3)
   (M0 Tryz.prog (O0 X3 x8 0) fun t31 =>
    Y0 Tryz.prog (X0 Q0 t31) w3 fun t32 =>
    M0 Tryz.prog (V3 .add Q0 (.tmp 11) (.const (.int .i64 1)) lv1.2.1 (.int .i64 1)) fun t33 =>
    next1 (t32,t33,()) w3))))
  (K (.bool true) w1))
 (least1,(.int .i64 0),()) w
theorem LP.up{l0 least1 most2:Value}{w:World}{K:Value→World→Prop}(h:LP.pt l0 least1 most2 w K):upK Tryz.prog (Z0 BM #[l0,least1,most2]) w K :=
 upF [6] .leaf [l0,least1,most2] Tryz.func157 ⟨by kernel_rfl,by kernel_rfl,by kernel_rfl,by kernel_rfl⟩ h
def CB.pt(s0:Value)(w:World)(K:Value→World→Prop):Prop :=
 M0 Tryz.prog (V3 .eql U3 (.tmp 3) (.const (.slice none 0 0)) s0 (.slice none 0 0)) fun t4 =>
 ifB t4
 (K (.slice none 0 0) w)
 (upK Tryz.prog (J6 U3 0 #[]) w fun t5 w1 =>
  upK Tryz.prog (M5 .append #[U3,U3] U3 #[false,false] #[t5,s0]) w1 fun t7 w2 =>
  K t7 w2)
theorem CB.up{s0:Value}{w:World}{K:Value→World→Prop}(h:CB.pt s0 w K):upK Tryz.prog (Z0 X8 #[s0]) w K :=
 upF [2] .leaf [s0] Tryz.func158 ⟨by kernel_rfl,by kernel_rfl,by kernel_rfl,by kernel_rfl⟩ h
def rP.pt(c0:Value)(w:World)(K:Value→World→Prop):Prop :=
 M0 Tryz.prog (D5 c0) fun t5 =>
 M0 Tryz.prog (O0 U4 t5 3) fun t6 =>
 Y0 Tryz.prog (X0 M3 t6) (tick w) fun t7 =>
 M0 Tryz.prog (D5 c0) fun t9 =>
 M0 Tryz.prog (O0 U4 t9 2) fun t10 =>
 Y0 Tryz.prog (X0 Q0 t10) (tick w) fun t11 =>
 M0 Tryz.prog (V3 .gtr Q0 (.tmp 11) (.const (.int .i64 0)) t11 (.int .i64 0)) fun t12 =>
 K (.tuple #[t7,t12]) (tick w)
theorem rP.up{c0:Value}{w:World}{K:Value→World→Prop}(h:rP.pt c0 w K):upK Tryz.prog (Z0 vM #[c0]) w K :=
 upF [2,3] .leaf [c0] Tryz.func159 ⟨by kernel_rfl,by kernel_rfl,by kernel_rfl,by kernel_rfl⟩ h
def wH.pt(j0:Value)(w:World)(K:Value→World→Prop):Prop :=
 M0 Tryz.prog (D5 j0) fun t5 =>
 M0 Tryz.prog (O0 Y4 t5 3) fun t6 =>
 Y0 Tryz.prog (X0 Z4 t6) w fun t7 =>
 Y0 Tryz.prog (M5 .len #[Z4] Q0 #[false] #[t7]) w fun t8 =>
 upK Tryz.prog (uM Z4 t8 t8) w fun t9 w1 =>
 M0 Tryz.prog (D5 j0) fun t12 =>
 M0 Tryz.prog (O0 Y4 t12 3) fun t13 =>
 Y0 Tryz.prog (X0 Z4 t13) w1 fun t14 =>
 upK Tryz.prog (M5 .copy #[Z4,Z4] Q0 #[false,false] #[t9,t14]) w1 fun t15 w2 =>
 K t9 w2
theorem wH.up{j0:Value}{w:World}{K:Value→World→Prop}(h:wH.pt j0 w K):upK Tryz.prog (Z0 AJ #[j0]) w K :=
 upF [2] .leaf [j0] Tryz.func160 ⟨by kernel_rfl,by kernel_rfl,by kernel_rfl,by kernel_rfl⟩ h
def MM.pt(s0:Value)(w:World)(K:Value→World→Prop):Prop :=
 upK Tryz.prog (A7 X3) w fun t2 w1 =>
 upK Tryz.prog (Z0 S_ #[s0]) w1 fun t7 w2 =>
 upK Tryz.prog (Z0 Q4 #[t7]) w2 fun t9 w3 =>
 upK Tryz.prog (Z0 y8 #[t7]) w3 fun t11 w4 =>
 M0 Tryz.prog (H6 X3 #[(0,t9),(1,t11)]) fun t12 =>
 upK Tryz.prog (A7 X3) w4 fun x5 w5 =>
 upK Tryz.prog (I4 X3 x5 t12) w5 fun tu w6 =>
 upK Tryz.prog (Z0 m_ #[t7]) w6 fun t14 w7 =>
 M0 Tryz.prog (sUn .not t14) fun t15 =>
 ifB t15
 (M0 Tryz.prog (H6 X3 #[]) fun t16 =>
  upK Tryz.prog (I4 X3 t2 t16) w7 fun tu_1 w8 =>
  U9 Tryz.prog (do loadVar X3 (←asAddr t2)) w8 fun t2_1 =>
  K (.tuple #[t2_1,(.bool false)]) w8)
 (Y0 Tryz.prog (X0 X3 x5) w7 fun t17 =>
  upK Tryz.prog (I4 X3 t2 t17) w7 fun tu_2 w9 =>
  U9 Tryz.prog (do loadVar X3 (←asAddr t2)) w9 fun t2_2 =>
  K (.tuple #[t2_2,(.bool true)]) w9)
theorem MM.up{s0:Value}{w:World}{K:Value→World→Prop}(h:MM.pt s0 w K):upK Tryz.prog (Z0 NN #[s0]) w K :=
 upF [3] .leaf [s0] Tryz.func161 ⟨by kernel_rfl,by kernel_rfl,by kernel_rfl,by kernel_rfl⟩ h
def VE.pt(r0:Value)(w:World)(K:Value→World→Prop):Prop :=
 upK Tryz.prog (oC J7 r0) w fun r1 w1 =>
 upK Tryz.prog (J6 R6 3 #[(0,(.int .i64 0)),(1,(.int .i64 1)),(2,(.int .i64 2))]) w1 fun t3 w2 =>
 M0 Tryz.prog (GH (.func sF) #[] #[r1]) fun t4 =>
 upK Tryz.prog (Z0 ED #[t3,t4]) w2 fun t5 w3 =>
 K t5 w3
theorem VE.up{r0:Value}{w:World}{K:Value→World→Prop}(h:VE.pt r0 w K):upK Tryz.prog (Z0 RB #[r0]) w K :=
 upF [2] .leaf [r0] Tryz.func162 ⟨by kernel_rfl,by kernel_rfl,by kernel_rfl,by kernel_rfl⟩ h
def jE.pt(r0 kind1 to2:Value)(w:World)(K:Value→World→Prop):Prop :=
 upK Tryz.prog (A7 Y1) w fun t6 w1 =>
 M0 Tryz.prog (D5 r0) fun t9 =>
 M0 Tryz.prog (O0 I1 t9 0) fun t10 =>
 Y0 Tryz.prog (X0 Q0 t10) (tick w1) fun t11 =>
 M0 Tryz.prog (D5 r0) fun t14 =>
 M0 Tryz.prog (O0 I1 t14 1) fun t15 =>
 M0 Tryz.prog (O0 O5 t15 0) fun t16 =>
 Y0 Tryz.prog (X0 Q0 t16) (tick w1) fun t17 =>
 M0 Tryz.prog (H6 Y1 #[(0,kind1),(1,t11),(2,to2),(3,t17)]) fun t18 =>
 upK Tryz.prog (I4 Y1 t6 t18) (tick w1) fun tu w2 =>
 U9 Tryz.prog (do loadVar Y1 (←asAddr t6)) w2 fun t6_1 =>
 K t6_1 w2
theorem jE.up{r0 kind1 to2:Value}{w:World}{K:Value→World→Prop}(h:jE.pt r0 kind1 to2 w K):upK Tryz.prog (Z0 zA #[r0,kind1,to2]) w K :=
 upF [] .leaf [r0,kind1,to2] Tryz.func163 ⟨by kernel_rfl,by kernel_rfl,by kernel_rfl,by kernel_rfl⟩ h
def LG.pt(r0 n1:Value)(w:World)(K:Value→World→Prop):Prop :=
 M0 Tryz.prog (V3 .eql Q0 (.tmp 5) (.const (.int .i64 0)) n1 (.int .i64 0)) fun t6 =>
 ifB t6
 (K (.int .i64 0) w)
 (M0 Tryz.prog (D5 r0) fun t8 =>
  M0 Tryz.prog (O0 I1 t8 2) fun t9 =>
  Y0 Tryz.prog (X0 U3 t9) w fun t10 =>
  M0 Tryz.prog (V3 .sub Q0 (.tmp 11) (.const (.int .i64 1)) n1 (.int .i64 1)) fun t12 =>
  M0 Tryz.prog (I5 U3 t10 t12) fun t13 =>
  M0 Tryz.prog (O0 X3 t13 0) fun t14 =>
  Y0 Tryz.prog (X0 Q0 t14) w fun t15 =>
  K t15 w)
theorem LG.up{r0 n1:Value}{w:World}{K:Value→World→Prop}(h:LG.pt r0 n1 w K):upK Tryz.prog (Z0 C_ #[r0,n1]) w K :=
 upF [4] .leaf [r0,n1] Tryz.func164 ⟨by kernel_rfl,by kernel_rfl,by kernel_rfl,by kernel_rfl⟩ h
def YQ.pt(n0 i1:Value)(w:World)(K:Value→World→Prop):Prop :=
 upK Tryz.prog (A7 K5) w fun t4 w1 =>
 M0 Tryz.prog (V3 .lss Q0 (.tmp 7) (.const (.int .i64 0)) i1 (.int .i64 0)) fun t8 =>
 ifB t8
 (M0 Tryz.prog (H6 K5 #[]) fun t18 =>
  upK Tryz.prog (I4 K5 t4 t18) w1 fun tu w2 =>
  U9 Tryz.prog (do loadVar K5 (←asAddr t4)) w2 fun t4_1 =>
  K (.tuple #[t4_1,(.bool false)]) w2)
 (M0 Tryz.prog (D5 n0) fun t12 =>
  M0 Tryz.prog (O0 UA t12 0) fun t13 =>
  Y0 Tryz.prog (X0 X6 t13) w1 fun t14 =>
  Y0 Tryz.prog (M5 .len #[X6] Q0 #[false] #[t14]) w1 fun t15 =>
  M0 Tryz.prog (V3 .geq Q0 (.tmp 10) (.tmp 15) i1 t15) fun t16 =>
  ifB t16
  (M0 Tryz.prog (H6 K5 #[]) fun t18_1 =>
  upK Tryz.prog (I4 K5 t4 t18_1) w1 fun tu_1 w3 =>
  U9 Tryz.prog (do loadVar K5 (←asAddr t4)) w3 fun t4_2 =>
  K (.tuple #[t4_2,(.bool false)]) w3)
  (M0 Tryz.prog (D5 n0) fun t20 =>
  M0 Tryz.prog (O0 UA t20 0) fun t21 =>
  Y0 Tryz.prog (X0 X6 t21) w1 fun t22 =>
  M0 Tryz.prog (I5 X6 t22 i1) fun t24 =>
  Y0 Tryz.prog (X0 K5 t24) w1 fun t25 =>
  upK Tryz.prog (A7 K5) w1 fun p6 w4 =>
  upK Tryz.prog (I4 K5 p6 t25) w4 fun tu_2 w5 =>
  M0 Tryz.prog (D5 n0) fun t28 =>
  M0 Tryz.prog (O0 UA t28 0) fun t29 =>
  Y0 Tryz.prog (X0 X6 t29) w5 fun t30 =>
  M0 Tryz.prog (V3 .add Q0 (.tmp 32) (.const (.int .i64 1)) i1 (.int .i64 1)) fun t33 =>
  upK Tryz.prog (Z0 eB #[t30,i1,t33]) w5 fun t34 w6 =>
  M0 Tryz.prog (D5 n0) fun t35 =>
  M0 Tryz.prog (O0 UA t35 0) fun t36 =>
  upK Tryz.prog (I4 X6 t36 t34) w6 fun tu_3 w7 =>
  Y0 Tryz.prog (X0 K5 p6) w7 fun t37 =>
  upK Tryz.prog (I4 K5 t4 t37) w7 fun tu_4 w8 =>
  U9 Tryz.prog (do loadVar K5 (←asAddr t4)) w8 fun t4_3 =>
  K (.tuple #[t4_3,(.bool true)]) w8))
theorem YQ.up{n0 i1:Value}{w:World}{K:Value→World→Prop}(h:YQ.pt n0 i1 w K):upK Tryz.prog (Z0 GR #[n0,i1]) w K :=
 upF [5] .leaf [n0,i1] Tryz.func165 ⟨by kernel_rfl,by kernel_rfl,by kernel_rfl,by kernel_rfl⟩ h
def WQ.pt(n0 a1 b2:Value)(w:World)(K:Value→World→Prop):Prop :=
 upK Tryz.prog (Z0 uR #[a1]) (tick w) fun t8 w1 =>
 ifB t8
 (upK Tryz.prog (Z0 uR #[b2]) w1 fun t11 w2 =>
  ifB t11
  (M0 Tryz.prog (D5 n0) fun t15 =>
  M0 Tryz.prog (O0 UA t15 1) fun t16 =>
  Y0 Tryz.prog (X0 Q0 t16) w2 fun t17 =>
  M0 Tryz.prog (V3 .shr Q0 (.tmp 17) (.tmp 18) t17 a1) fun t19 =>
  M0 Tryz.prog (V3 .and Q0 (.tmp 19) (.const (.int .i64 1)) t19 (.int .i64 1)) fun t20 =>
  M0 Tryz.prog (D5 n0) fun t22 =>
  M0 Tryz.prog (O0 UA t22 1) fun t23 =>
  Y0 Tryz.prog (X0 Q0 t23) w2 fun t24 =>
  M0 Tryz.prog (V3 .shr Q0 (.tmp 24) (.tmp 25) t24 b2) fun t26 =>
  M0 Tryz.prog (V3 .and Q0 (.tmp 26) (.const (.int .i64 1)) t26 (.int .i64 1)) fun t27 =>
  M0 Tryz.prog (V3 .eql Q0 (.tmp 20) (.tmp 27) t20 t27) fun t28 =>
  K t28 w2)
  (K (.bool false) w2))
 (K (.bool false) w1)
theorem WQ.up{n0 a1 b2:Value}{w:World}{K:Value→World→Prop}(h:WQ.pt n0 a1 b2 w K):upK Tryz.prog (Z0 MN #[n0,a1,b2]) w K :=
 upF [6] .leaf [n0,a1,b2] Tryz.func166 ⟨by kernel_rfl,by kernel_rfl,by kernel_rfl,by kernel_rfl⟩ h
def QF.pt(r0 m1:Value)(w:World)(K:Value→World→Prop):Prop :=
 upK Tryz.prog (oC Y1 m1) w fun m3 w1 =>
 kD (X:=Unit) (fun jv1 w2 =>
  M0 Tryz.prog (O0 Y1 m3 6) fun t63 =>
  Y0 Tryz.prog (X0 Q0 t63) w2 fun t64 =>
  upK Tryz.prog (Z0 D_ #[t64,(.int .i64 0),(.int .i64 4000)]) w2 fun t65 w3 =>
  ifB t65
  (M0 Tryz.prog (O0 Y1 m3 8) fun t67 =>
  Y0 Tryz.prog (X0 U3 t67) w3 fun t68 =>
  Y0 Tryz.prog (M5 .len #[U3] Q0 #[false] #[t68]) w3 fun t69 =>
  M0 Tryz.prog (V3 .leq Q0 (.tmp 69) (.const (.int .i64 8)) t69 (.int .i64 8)) fun t70 =>
  ifB t70
  (M0 Tryz.prog (O0 Y1 m3 4) fun t73 =>
   Y0 Tryz.prog (X0 Q0 t73) w3 fun t74 =>
   M0 Tryz.prog (O0 Y1 m3 8) fun t75 =>
   Y0 Tryz.prog (X0 U3 t75) w3 fun t76 =>
   Y0 Tryz.prog (M5 .len #[U3] Q0 #[false] #[t76]) w3 fun t77 =>
   M0 Tryz.prog (V3 .add Q0 (.tmp 74) (.tmp 77) t74 t77) fun t78 =>
   M0 Tryz.prog (V3 .leq Q0 (.tmp 78) (.const (.int .i64 4000)) t78 (.int .i64 4000)) fun t79 =>
   ifB t79
   (M0 Tryz.prog (O0 Y1 m3 8) fun t82 =>
   Y0 Tryz.prog (X0 U3 t82) w3 fun t83 =>
   M0 Tryz.prog (O0 Y1 m3 5) fun t84 =>
   Y0 Tryz.prog (X0 Q0 t84) w3 fun t85 =>
   M0 Tryz.prog (M5 .max #[Q0,Q0] Q0 #[true,false] #[(.int .i64 1),t85]) fun t86 =>
   M0 Tryz.prog (O0 Y1 m3 3) fun t87 =>
   Y0 Tryz.prog (X0 Q0 t87) w3 fun t88 =>
   upK Tryz.prog (Z0 BM #[t83,t86,t88]) w3 fun t89 w4 =>
   K t89 w4)
   (K (.bool false) w3))
  (K (.bool false) w3))
  (K (.bool false) w3))
 (fun J1 =>
  M0 Tryz.prog (O0 Y1 m3 0) fun t6 =>
  Y0 Tryz.prog (X0 Q0 t6) (tick w1) fun t7 =>
  upK Tryz.prog (Z0 D_ #[t7,(.int .i64 0),(.int .i64 3)]) (tick w1) fun t8 w5 =>
  M0 Tryz.prog (sUn .not t8) fun t9 =>
  ifB t9
  (K (.bool false) w5)
  (M0 Tryz.prog (O0 Y1 m3 2) fun t11 =>
  Y0 Tryz.prog (X0 Q0 t11) w5 fun t12 =>
  M0 Tryz.prog (D5 r0) fun t14 =>
  M0 Tryz.prog (O0 I1 t14 0) fun t15 =>
  Y0 Tryz.prog (X0 Q0 t15) w5 fun t16 =>
  M0 Tryz.prog (V3 .neq Q0 (.tmp 12) (.tmp 16) t12 t16) fun t17 =>
  ifB t17
  (K (.bool false) w5)
  (M0 Tryz.prog (O0 Y1 m3 1) fun t20 =>
   Y0 Tryz.prog (X0 Q0 t20) w5 fun t21 =>
   M0 Tryz.prog (D5 r0) fun t23 =>
   M0 Tryz.prog (O0 I1 t23 0) fun t24 =>
   Y0 Tryz.prog (X0 Q0 t24) w5 fun t25 =>
   M0 Tryz.prog (V3 .eql Q0 (.tmp 21) (.tmp 25) t21 t25) fun t26 =>
   ifB t26
   (K (.bool false) w5)
   (M0 Tryz.prog (O0 Y1 m3 1) fun t29 =>
   Y0 Tryz.prog (X0 Q0 t29) w5 fun t30 =>
   upK Tryz.prog (Z0 D_ #[t30,(.int .i64 0),(.int .i64 2)]) w5 fun t31 w6 =>
   M0 Tryz.prog (sUn .not t31) fun t32 =>
   ifB t32
   (K (.bool false) w6)
   (M0 Tryz.prog (O0 Y1 m3 3) fun t35 =>
    Y0 Tryz.prog (X0 Q0 t35) w6 fun t36 =>
    upK Tryz.prog (Z0 D_ #[t36,(.int .i64 1),(.int .i64 1099511627776)]) w6 fun t37 w7 =>
    M0 Tryz.prog (sUn .not t37) fun t38 =>
    ifB t38
    (K (.bool false) w7)
    (M0 Tryz.prog (O0 Y1 m3 4) fun t40 =>
    Y0 Tryz.prog (X0 Q0 t40) w7 fun t41 =>
    upK Tryz.prog (Z0 D_ #[t41,(.int .i64 0),(.int .i64 4000)]) w7 fun t42 w8 =>
    M0 Tryz.prog (sUn .not t42) fun t43 =>
    ifB t43
    (K (.bool false) w8)
    (M0 Tryz.prog (O0 Y1 m3 5) fun t46 =>
     Y0 Tryz.prog (X0 Q0 t46) w8 fun t47 =>
     M0 Tryz.prog (O0 Y1 m3 3) fun t48 =>
     Y0 Tryz.prog (X0 Q0 t48) w8 fun t49 =>
     upK Tryz.prog (Z0 D_ #[t47,(.int .i64 0),t49]) w8 fun t50 w9 =>
     M0 Tryz.prog (sUn .not t50) fun t51 =>
     ifB t51
     (K (.bool false) w9)
     (M0 Tryz.prog (O0 Y1 m3 4) fun t54 =>
     Y0 Tryz.prog (X0 Q0 t54) w9 fun t55 =>
     M0 Tryz.prog (V3 .eql Q0 (.tmp 55) (.const (.int .i64 0)) t55 (.int .i64 0)) fun t56 =>
     ifB t56
     (M0 Tryz.prog (O0 Y1 m3 5) fun t58 =>
      Y0 Tryz.prog (X0 Q0 t58) w9 fun t59 =>
      M0 Tryz.prog (V3 .neq Q0 (.tmp 59) (.const (.int .i64 0)) t59 (.int .i64 0)) fun t60 =>
      ifB t60
      (K (.bool false) w9)
      (J1 (()) w9))
     (J1 (()) w9)))))))))
theorem QF.up{r0 m1:Value}{w:World}{K:Value→World→Prop}(h:QF.pt r0 m1 w K):upK Tryz.prog (Z0 QH #[r0,m1]) w K :=
 upF [4] (.node none .leaf (.node (some []) .leaf .leaf)) [r0,m1] Tryz.func167 ⟨by kernel_rfl,by kernel_rfl,by kernel_rfl,by kernel_rfl⟩ h
def MG.pt(r0 m1:Value)(w:World)(K:Value→World→Prop):Prop :=
 upK Tryz.prog (oC Y1 m1) w fun m3 w1 =>
 upK Tryz.prog (A7 F3) w1 fun t4 w2 =>
 M0 Tryz.prog (O0 Y1 m3 1) fun t9 =>
 Y0 Tryz.prog (X0 Q0 t9) w2 fun t10 =>
 upK Tryz.prog (Z0 zA #[r0,(.int .i64 1),t10]) w2 fun t11 w3 =>
 upK Tryz.prog (A7 Y1) w3 fun a5 w4 =>
 upK Tryz.prog (I4 Y1 a5 t11) w4 fun tu w5 =>
 M0 Tryz.prog (D5 r0) fun t14 =>
 M0 Tryz.prog (O0 I1 t14 2) fun t15 =>
 Y0 Tryz.prog (X0 U3 t15) w5 fun t16 =>
 Y0 Tryz.prog (M5 .len #[U3] Q0 #[false] #[t16]) w5 fun t17 =>
 upK Tryz.prog (Z0 C_ #[r0,t17]) w5 fun t18 w6 =>
 kD (X:=Value×Unit) (fun jv1 w7 =>
  kD (X:=Unit) (fun jv2 w8 =>
  Y0 Tryz.prog (X0 Y1 a5) w8 fun t75 =>
  upK Tryz.prog (Z0 A_ #[t75]) w8 fun t76 w9 =>
  upK Tryz.prog (I4 F3 t4 t76) w9 fun tu_1 w10 =>
  U9 Tryz.prog (do loadVar F3 (←asAddr t4)) w10 fun t4_1 =>
  K t4_1 w10)
  (fun J2 =>
  kD (X:=Value×Unit) (fun jv3 w11 =>
   ifB jv3.1
   (M0 Tryz.prog (O0 Y1 m3 1) fun t69 =>
   Y0 Tryz.prog (X0 Q0 t69) (tick w11) fun t70 =>
   M0 Tryz.prog (O0 Y1 a5 7) fun t71 =>
   upK Tryz.prog (I4 SB t71 (.bool true)) (tick w11) fun tu_2 w12 =>
   Is Tryz.prog (X0 Q0 t69) t70 w12∧M0 Tryz.prog (D5 r0) fun t72 =>
   M0 Tryz.prog (O0 I1 t72 1) fun t73 =>
   M0 Tryz.prog (O0 O5 t73 1) fun t74 =>
   upK Tryz.prog (I4 Q0 t74 t70) w12 fun tu_3 w13 =>
   J2 (()) w13)
   (J2 (()) w11))
  (fun J3 =>
   M0 Tryz.prog (O0 Y1 m3 3) fun t39 =>
   Y0 Tryz.prog (X0 Q0 t39) (tick w7) fun t40 =>
   M0 Tryz.prog (D5 r0) fun t42 =>
   M0 Tryz.prog (O0 I1 t42 1) fun t43 =>
   M0 Tryz.prog (O0 O5 t43 0) fun t44 =>
   Y0 Tryz.prog (X0 Q0 t44) (tick w7) fun t45 =>
   M0 Tryz.prog (V3 .eql Q0 (.tmp 40) (.tmp 45) t40 t45) fun t46 =>
   ifB t46
   (M0 Tryz.prog (D5 r0) fun t49 =>
   M0 Tryz.prog (O0 I1 t49 1) fun t50 =>
   M0 Tryz.prog (O0 O5 t50 1) fun t51 =>
   Y0 Tryz.prog (X0 Q0 t51) (tick w7) fun t52 =>
   M0 Tryz.prog (V3 .eql Q0 (.tmp 52) (.const (.int .i64 (-1))) t52 (.int .i64 (-1))) fun t53 =>
   ifB t53
   (J3 (jv1.1,()) (tick w7))
   (M0 Tryz.prog (D5 r0) fun t56 =>
    M0 Tryz.prog (O0 I1 t56 1) fun t57 =>
    M0 Tryz.prog (O0 O5 t57 1) fun t58 =>
    Y0 Tryz.prog (X0 Q0 t58) (tick w7) fun t59 =>
    M0 Tryz.prog (O0 Y1 m3 1) fun t60 =>
    Y0 Tryz.prog (X0 Q0 t60) (tick w7) fun t61 =>
    M0 Tryz.prog (V3 .eql Q0 (.tmp 59) (.tmp 61) t59 t61) fun t62 =>
    ifB t62
    (J3 (jv1.1,()) (tick w7))
    (J3 ((.bool false),()) (tick w7))))
   (J3 ((.bool false),()) (tick w7)))))
 (fun J1 =>
  M0 Tryz.prog (O0 Y1 m3 5) fun t19 =>
  Y0 Tryz.prog (X0 Q0 t19) (tick w6) fun t20 =>
  M0 Tryz.prog (V3 .gtr Q0 (.tmp 20) (.tmp 21) t20 t18) fun t22 =>
  ifB t22
  (J1 ((.bool true),()) (tick w6))
  (M0 Tryz.prog (O0 Y1 m3 5) fun t24 =>
  Y0 Tryz.prog (X0 Q0 t24) (tick w6) fun t25 =>
  M0 Tryz.prog (V3 .eql Q0 (.tmp 25) (.tmp 26) t25 t18) fun t27 =>
  ifB t27
  (M0 Tryz.prog (O0 Y1 m3 4) fun t29 =>
   Y0 Tryz.prog (X0 Q0 t29) (tick w6) fun t30 =>
   M0 Tryz.prog (D5 r0) fun t32 =>
   M0 Tryz.prog (O0 I1 t32 2) fun t33 =>
   Y0 Tryz.prog (X0 U3 t33) (tick w6) fun t34 =>
   Y0 Tryz.prog (M5 .len #[U3] Q0 #[false] #[t34]) (tick w6) fun t35 =>
   M0 Tryz.prog (V3 .geq Q0 (.tmp 30) (.tmp 35) t30 t35) fun t36 =>
   J1 (t36,()) (tick w6))
  (J1 ((.bool false),()) (tick w6))))
theorem MG.up{r0 m1:Value}{w:World}{K:Value→World→Prop}(h:MG.pt r0 m1 w K):upK Tryz.prog (Z0 DI #[r0,m1]) w K :=
 upF [] (.node none .leaf (.node none .leaf (.node none .leaf (.node (some [7]) .leaf (.node (some []) (.node (some [67]) .leaf .leaf) .leaf))))) [r0,m1] Tryz.func168 ⟨by kernel_rfl,by kernel_rfl,by kernel_rfl,by kernel_rfl⟩ h
def RF.pt(r0 m1:Value)(w:World)(K:Value→World→Prop):Prop :=
 upK Tryz.prog (oC Y1 m1) w fun m3 w1 =>
 upK Tryz.prog (A7 F3) w1 fun t4 w2 =>
 M0 Tryz.prog (D5 r0) fun t10 =>
 M0 Tryz.prog (O0 I1 t10 3) fun t11 =>
 Y0 Tryz.prog (X0 Q0 t11) (tick w2) fun t12 =>
 M0 Tryz.prog (V3 .neq Q0 (.tmp 12) (.const (.int .i64 1)) t12 (.int .i64 1)) fun t13 =>
 ifB t13
 (M0 Tryz.prog (H6 F3 #[]) fun t29 =>
  upK Tryz.prog (I4 F3 t4 t29) (tick w2) fun tu w3 =>
  U9 Tryz.prog (do loadVar F3 (←asAddr t4)) w3 fun t4_1 =>
  K t4_1 w3)
 (M0 Tryz.prog (O0 Y1 m3 3) fun t15 =>
  Y0 Tryz.prog (X0 Q0 t15) (tick w2) fun t16 =>
  M0 Tryz.prog (D5 r0) fun t18 =>
  M0 Tryz.prog (O0 I1 t18 1) fun t19 =>
  M0 Tryz.prog (O0 O5 t19 0) fun t20 =>
  Y0 Tryz.prog (X0 Q0 t20) (tick w2) fun t21 =>
  M0 Tryz.prog (V3 .neq Q0 (.tmp 16) (.tmp 21) t16 t21) fun t22 =>
  ifB t22
  (M0 Tryz.prog (H6 F3 #[]) fun t29_1 =>
  upK Tryz.prog (I4 F3 t4 t29_1) (tick w2) fun tu_1 w4 =>
  U9 Tryz.prog (do loadVar F3 (←asAddr t4)) w4 fun t4_2 =>
  K t4_2 w4)
  (M0 Tryz.prog (O0 Y1 m3 7) fun t25 =>
  Y0 Tryz.prog (X0 SB t25) (tick w2) fun t26 =>
  M0 Tryz.prog (sUn .not t26) fun t27 =>
  ifB t27
  (M0 Tryz.prog (H6 F3 #[]) fun t29_2 =>
   upK Tryz.prog (I4 F3 t4 t29_2) (tick w2) fun tu_2 w5 =>
   U9 Tryz.prog (do loadVar F3 (←asAddr t4)) w5 fun t4_3 =>
   K t4_3 w5)
  (M0 Tryz.prog (O0 Y1 m3 1) fun t31 =>
   Y0 Tryz.prog (X0 Q0 t31) (tick (tick w2)) fun t32 =>
   M0 Tryz.prog (D5 r0) fun t33 =>
   M0 Tryz.prog (O0 I1 t33 5) fun t34 =>
   M0 Tryz.prog (I5 VH t34 t32) fun t35 =>
   upK Tryz.prog (I4 SB t35 (.bool true)) (tick (tick w2)) fun tu_3 w6 =>
   M0 Tryz.prog (D5 r0) fun t37 =>
   M0 Tryz.prog (O0 I1 t37 5) fun t38 =>
   Y0 Tryz.prog (X0 VH t38) w6 fun t39 =>
   LOOP (X:=Value×Value×Unit) (fun lv7 w7 next7 =>
   M0 Tryz.prog (V3 .lss Q0 (.tmp 40) (.const (.int .i64 3)) lv7.2.1 (.int .i64 3)) fun t41 =>
   ifB t41
   (kD (X:=Value×Unit) (fun jv1 w8 =>
    M0 Tryz.prog (V3 .add Q0 (.tmp 40) (.const (.int .i64 1)) lv7.2.1 (.int .i64 1)) fun t46 =>
    next7 (jv1.1,t46,()) w8)
    (fun J1 =>
    M0 Tryz.prog (IY VH t39 lv7.2.1) fun t42 =>
    ifB t42
    (M0 Tryz.prog (V3 .add Q0 (.tmp 44) (.const (.int .i64 1)) lv7.1 (.int .i64 1)) fun t45 =>
     J1 (t45,()) w7)
    (J1 (lv7.1,()) w7)))
   (M0 Tryz.prog (V3 .lss Q0 (.tmp 47) (.const (.int .i64 2)) lv7.1 (.int .i64 2)) fun t48 =>
    ifB t48
    (M0 Tryz.prog (H6 F3 #[]) fun t49 =>
    upK Tryz.prog (I4 F3 t4 t49) w7 fun tu_4 w9 =>
    U9 Tryz.prog (do loadVar F3 (←asAddr t4)) w9 fun t4_4 =>
    K t4_4 w9)
    (M0 Tryz.prog (D5 r0) fun t51 =>
    M0 Tryz.prog (O0 I1 t51 3) fun t52 =>
    upK Tryz.prog (I4 Q0 t52 (.int .i64 2)) w7 fun tu_5 w10 =>
    LOOP (X:=Value×Unit) (fun lv11 w11 next11 =>
     M0 Tryz.prog (V3 .lss Q0 (.tmp 53) (.const (.int .i64 3)) lv11.1 (.int .i64 3)) fun t54 =>
     ifB t54
     (M0 Tryz.prog (D5 r0) fun t61 =>
     M0 Tryz.prog (O0 I1 t61 2) fun t62 =>
     Y0 Tryz.prog (X0 U3 t62) (tick w11) fun t63 =>
     Y0 Tryz.prog (M5 .len #[U3] Q0 #[false] #[t63]) (tick w11) fun t64 =>
     M0 Tryz.prog (V3 .add Q0 (.tmp 64) (.const (.int .i64 1)) t64 (.int .i64 1)) fun t65 =>
     M0 Tryz.prog (D5 r0) fun t66 =>
     M0 Tryz.prog (O0 I1 t66 6) fun t67 =>
     M0 Tryz.prog (I5 FM t67 lv11.1) fun t68 =>
     M0 Tryz.prog (D5 r0) fun t69 =>
     M0 Tryz.prog (O0 I1 t69 7) fun t70 =>
     upK Tryz.prog (I4 Q0 t68 t65) (tick w11) fun tu_6 w12 =>
     M0 Tryz.prog (I5 FM t70 lv11.1) fun t71 =>
     upK Tryz.prog (I4 Q0 t71 (.int .i64 0)) w12 fun tu_7 w13 =>
     M0 Tryz.prog (V3 .add Q0 (.tmp 53) (.const (.int .i64 1)) lv11.1 (.int .i64 1)) fun t72 =>
     next11 (t72,()) w13)
     (upK Tryz.prog (Z0 QB #[r0]) w11 fun t74 w14 =>
     M0 Tryz.prog (H6 F3 #[(4,t74)]) fun t75 =>
     upK Tryz.prog (I4 F3 t4 t75) w14 fun tu_8 w15 =>
     U9 Tryz.prog (do loadVar F3 (←asAddr t4)) w15 fun t4_5 =>
     K t4_5 w15))
    ((.int .i64 0),()) w10)))
   ((.int .i64 0),(.int .i64 0),()) w6)))
theorem RF.up{r0 m1:Value}{w:World}{K:Value→World→Prop}(h:RF.pt r0 m1 w K):upK Tryz.prog (Z0 RH #[r0,m1]) w K :=
 upF [] (.node none .leaf (.node none .leaf (.node none .leaf (.node none .leaf (.node none (.node none .leaf (.node none (.node none (.node none .leaf (.node none .leaf (.node (some [5]) .leaf .leaf))) .leaf) .leaf)) .leaf))))) [r0,m1] Tryz.func169 ⟨by kernel_rfl,by kernel_rfl,by kernel_rfl,by kernel_rfl⟩ h
def UE.pt(r0 m1:Value)(w:World)(K:Value→World→Prop):Prop :=
 upK Tryz.prog (oC Y1 m1) w fun m3 w1 =>
 upK Tryz.prog (A7 F3) w1 fun t4 w2 =>
 M0 Tryz.prog (O0 Y1 m3 1) fun t11 =>
 Y0 Tryz.prog (X0 Q0 t11) w2 fun t12 =>
 upK Tryz.prog (Z0 zA #[r0,(.int .i64 3),t12]) w2 fun t13 w3 =>
 upK Tryz.prog (A7 Y1) w3 fun a5 w4 =>
 upK Tryz.prog (I4 Y1 a5 t13) w4 fun tu w5 =>
 M0 Tryz.prog (O0 Y1 m3 3) fun t14 =>
 Y0 Tryz.prog (X0 Q0 t14) (tick w5) fun t15 =>
 M0 Tryz.prog (D5 r0) fun t17 =>
 M0 Tryz.prog (O0 I1 t17 1) fun t18 =>
 M0 Tryz.prog (O0 O5 t18 0) fun t19 =>
 Y0 Tryz.prog (X0 Q0 t19) (tick w5) fun t20 =>
 M0 Tryz.prog (V3 .lss Q0 (.tmp 15) (.tmp 20) t15 t20) fun t21 =>
 ifB t21
 (Y0 Tryz.prog (X0 Y1 a5) (tick w5) fun t22 =>
  upK Tryz.prog (Z0 A_ #[t22]) (tick w5) fun t23 w6 =>
  upK Tryz.prog (I4 F3 t4 t23) w6 fun tu_1 w7 =>
  U9 Tryz.prog (do loadVar F3 (←asAddr t4)) w7 fun t4_1 =>
  K t4_1 w7)
 (M0 Tryz.prog (D5 r0) fun t25 =>
  M0 Tryz.prog (O0 I1 t25 3) fun t26 =>
  Y0 Tryz.prog (X0 Q0 t26) (tick w5) fun t27 =>
  M0 Tryz.prog (V3 .eql Q0 (.tmp 27) (.const (.int .i64 2)) t27 (.int .i64 2)) fun t28 =>
  ifB t28
  (M0 Tryz.prog (H6 F3 #[]) fun t29 =>
  upK Tryz.prog (I4 F3 t4 t29) (tick w5) fun tu_2 w8 =>
  U9 Tryz.prog (do loadVar F3 (←asAddr t4)) w8 fun t4_2 =>
  K t4_2 w8)
  (M0 Tryz.prog (D5 r0) fun t31 =>
  M0 Tryz.prog (O0 I1 t31 3) fun t32 =>
  upK Tryz.prog (I4 Q0 t32 (.int .i64 0)) (tick w5) fun tu_3 w9 =>
  M0 Tryz.prog (O0 Y1 m3 4) fun t33 =>
  Y0 Tryz.prog (X0 Q0 t33) (tick w9) fun t34 =>
  M0 Tryz.prog (D5 r0) fun t36 =>
  M0 Tryz.prog (O0 I1 t36 2) fun t37 =>
  Y0 Tryz.prog (X0 U3 t37) (tick w9) fun t38 =>
  Y0 Tryz.prog (M5 .len #[U3] Q0 #[false] #[t38]) (tick w9) fun t39 =>
  M0 Tryz.prog (V3 .gtr Q0 (.tmp 34) (.tmp 39) t34 t39) fun t40 =>
  ifB t40
  (M0 Tryz.prog (D5 r0) fun t51 =>
   M0 Tryz.prog (O0 I1 t51 2) fun t52 =>
   Y0 Tryz.prog (X0 U3 t52) (tick (tick w9)) fun t53 =>
   Y0 Tryz.prog (M5 .len #[U3] Q0 #[false] #[t53]) (tick (tick w9)) fun t54 =>
   M0 Tryz.prog (O0 Y1 m3 4) fun t55 =>
   Y0 Tryz.prog (X0 Q0 t55) (tick (tick w9)) fun t56 =>
   M0 Tryz.prog (V3 .sub Q0 (.tmp 56) (.const (.int .i64 1)) t56 (.int .i64 1)) fun t57 =>
   M0 Tryz.prog (M5 .min #[Q0,Q0] Q0 #[false,false] #[t54,t57]) fun t58 =>
   M0 Tryz.prog (O0 Y1 a5 4) fun t59 =>
   upK Tryz.prog (I4 Q0 t59 t58) (tick (tick w9)) fun tu_4 w10 =>
   Y0 Tryz.prog (X0 Y1 a5) w10 fun t60 =>
   upK Tryz.prog (Z0 A_ #[t60]) w10 fun t61 w11 =>
   upK Tryz.prog (I4 F3 t4 t61) w11 fun tu_5 w12 =>
   U9 Tryz.prog (do loadVar F3 (←asAddr t4)) w12 fun t4_3 =>
   K t4_3 w12)
  (M0 Tryz.prog (O0 Y1 m3 4) fun t43 =>
   Y0 Tryz.prog (X0 Q0 t43) (tick w9) fun t44 =>
   M0 Tryz.prog (O0 Y1 m3 5) fun t46 =>
   Y0 Tryz.prog (X0 Q0 t46) (tick w9) fun t47 =>
   upK Tryz.prog (Z0 C_ #[r0,t44]) (tick w9) fun t45 w13 =>
   Is Tryz.prog (X0 Q0 t46) t47 w13∧M0 Tryz.prog (V3 .neq Q0 (.tmp 45) (.tmp 47) t45 t47) fun t48 =>
   ifB t48
   (M0 Tryz.prog (D5 r0) fun t51_1 =>
   M0 Tryz.prog (O0 I1 t51_1 2) fun t52_1 =>
   Y0 Tryz.prog (X0 U3 t52_1) (tick w13) fun t53_1 =>
   Y0 Tryz.prog (M5 .len #[U3] Q0 #[false] #[t53_1]) (tick w13) fun t54_1 =>
   M0 Tryz.prog (O0 Y1 m3 4) fun t55_1 =>
   Y0 Tryz.prog (X0 Q0 t55_1) (tick w13) fun t56_1 =>
   M0 Tryz.prog (V3 .sub Q0 (.tmp 56) (.const (.int .i64 1)) t56_1 (.int .i64 1)) fun t57_1 =>
   M0 Tryz.prog (M5 .min #[Q0,Q0] Q0 #[false,false] #[t54_1,t57_1]) fun t58_1 =>
   M0 Tryz.prog (O0 Y1 a5 4) fun t59_1 =>
   upK Tryz.prog (I4 Q0 t59_1 t58_1) (tick w13) fun tu_6 w14 =>
   Y0 Tryz.prog (X0 Y1 a5) w14 fun t60_1 =>
   upK Tryz.prog (Z0 A_ #[t60_1]) w14 fun t61_1 w15 =>
   upK Tryz.prog (I4 F3 t4 t61_1) w15 fun tu_7 w16 =>
   U9 Tryz.prog (do loadVar F3 (←asAddr t4)) w16 fun t4_4 =>
   K t4_4 w16)
   (upK Tryz.prog (A7 F3) w13 fun o6 w17 =>
   kD (X:=Unit) (fun jv1 w18 =>
    M0 Tryz.prog (O0 Y1 m3 4) fun t120 =>
    Y0 Tryz.prog (X0 Q0 t120) (tick w18) fun t121 =>
    M0 Tryz.prog (O0 Y1 m3 8) fun t122 =>
    Y0 Tryz.prog (X0 U3 t122) (tick w18) fun t123 =>
    Y0 Tryz.prog (M5 .len #[U3] Q0 #[false] #[t123]) (tick w18) fun t124 =>
    M0 Tryz.prog (V3 .add Q0 (.tmp 121) (.tmp 124) t121 t124) fun t125 =>
    M0 Tryz.prog (O0 Y1 a5 7) fun t126 =>
    upK Tryz.prog (I4 SB t126 (.bool true)) (tick w18) fun tu_8 w19 =>
    Is Tryz.prog (M5 .len #[U3] Q0 #[false] #[t123]) t124 w19∧Is Tryz.prog (X0 U3 t122) t123 w19∧Is Tryz.prog (X0 Q0 t120) t121 w19∧M0 Tryz.prog (O0 Y1 a5 4) fun t127 =>
    upK Tryz.prog (I4 Q0 t127 t125) w19 fun tu_9 w20 =>
    M0 Tryz.prog (D5 r0) fun t130 =>
    M0 Tryz.prog (O0 I1 t130 4) fun t131 =>
    Y0 Tryz.prog (X0 Q0 t131) (tick w20) fun t132 =>
    M0 Tryz.prog (O0 Y1 m3 6) fun t133 =>
    Y0 Tryz.prog (X0 Q0 t133) (tick w20) fun t134 =>
    M0 Tryz.prog (O0 Y1 a5 4) fun t135 =>
    Y0 Tryz.prog (X0 Q0 t135) (tick w20) fun t136 =>
    M0 Tryz.prog (M5 .min #[Q0,Q0] Q0 #[false,false] #[t134,t136]) fun t137 =>
    M0 Tryz.prog (M5 .max #[Q0,Q0] Q0 #[false,false] #[t132,t137]) fun t138 =>
    M0 Tryz.prog (D5 r0) fun t139 =>
    M0 Tryz.prog (O0 I1 t139 4) fun t140 =>
    upK Tryz.prog (I4 Q0 t140 t138) (tick w20) fun tu_10 w21 =>
    Y0 Tryz.prog (X0 Y1 a5) w21 fun t141 =>
    upK Tryz.prog (J6 U_ 1 #[(0,t141)]) w21 fun t142 w22 =>
    M0 Tryz.prog (O0 F3 o6 4) fun t143 =>
    upK Tryz.prog (I4 U_ t143 t142) w22 fun tu_11 w23 =>
    Y0 Tryz.prog (X0 F3 o6) w23 fun t144 =>
    upK Tryz.prog (I4 F3 t4 t144) w23 fun tu_12 w24 =>
    U9 Tryz.prog (do loadVar F3 (←asAddr t4)) w24 fun t4_5 =>
    K t4_5 w24)
   (fun J1 =>
    M0 Tryz.prog (O0 Y1 m3 8) fun t62 =>
    Y0 Tryz.prog (X0 U3 t62) w17 fun t63 =>
    Y0 Tryz.prog (M5 .len #[U3] Q0 #[false] #[t63]) w17 fun t64 =>
    LOOP (X:=Value×Unit) (fun lv25 w25 next25 =>
    M0 Tryz.prog (V3 .lss Q0 (.tmp 65) (.tmp 64) lv25.1 t64) fun t66 =>
    ifB t66
    (M0 Tryz.prog (I5 U3 t63 lv25.1) fun t68 =>
     Y0 Tryz.prog (X0 X3 t68) w25 fun t69 =>
     upK Tryz.prog (A7 X3) w25 fun x8 w26 =>
     upK Tryz.prog (I4 X3 x8 t69) w26 fun tu_13 w27 =>
     M0 Tryz.prog (O0 Y1 m3 4) fun t70 =>
     Y0 Tryz.prog (X0 Q0 t70) w27 fun t71 =>
     M0 Tryz.prog (V3 .add Q0 (.tmp 71) (.tmp 72) t71 lv25.1) fun t73 =>
     M0 Tryz.prog (V3 .add Q0 (.tmp 73) (.const (.int .i64 1)) t73 (.int .i64 1)) fun t74 =>
     kD (X:=Unit) (fun jv2 w28 =>
     M0 Tryz.prog (D5 r0) fun t92 =>
     M0 Tryz.prog (O0 I1 t92 4) fun t93 =>
     Y0 Tryz.prog (X0 Q0 t93) w28 fun t94 =>
     M0 Tryz.prog (V3 .leq Q0 (.tmp 90) (.tmp 94) t74 t94) fun t95 =>
     ifB t95
     (M0 Tryz.prog (H6 F3 #[]) fun t96 =>
      upK Tryz.prog (I4 F3 t4 t96) w28 fun tu_14 w29 =>
      U9 Tryz.prog (do loadVar F3 (←asAddr t4)) w29 fun t4_6 =>
      K t4_6 w29)
     (M0 Tryz.prog (O0 Y1 m3 8) fun t98 =>
      Y0 Tryz.prog (X0 U3 t98) w28 fun t99 =>
      M0 Tryz.prog (y9 U3 t99 (some lv25.1) none none) fun t101 =>
      upK Tryz.prog (Z0 X8 #[t101]) w28 fun t102 w30 =>
      M0 Tryz.prog (O0 F3 o6 2) fun t103 =>
      upK Tryz.prog (I4 Q0 t103 t74) w30 fun tu_15 w31 =>
      M0 Tryz.prog (O0 F3 o6 3) fun t104 =>
      upK Tryz.prog (I4 U3 t104 t102) w31 fun tu_16 w32 =>
      M0 Tryz.prog (D5 r0) fun t107 =>
      M0 Tryz.prog (O0 I1 t107 2) fun t108 =>
      Y0 Tryz.prog (X0 U3 t108) (tick w32) fun t109 =>
      M0 Tryz.prog (V3 .sub Q0 (.tmp 110) (.const (.int .i64 1)) t74 (.int .i64 1)) fun t111 =>
      M0 Tryz.prog (y9 U3 t109 none (some t111) none) fun t112 =>
      M0 Tryz.prog (O0 F3 o6 3) fun t114 =>
      Y0 Tryz.prog (X0 U3 t114) (tick w32) fun t115 =>
      upK Tryz.prog (Z0 X8 #[t112]) (tick w32) fun t113 w33 =>
      Is Tryz.prog (X0 U3 t114) t115 w33∧upK Tryz.prog (M5 .append #[U3,U3] U3 #[false,false] #[t113,t115]) w33 fun t116 w34 =>
      M0 Tryz.prog (D5 r0) fun t117 =>
      M0 Tryz.prog (O0 I1 t117 2) fun t118 =>
      upK Tryz.prog (I4 U3 t118 t116) w34 fun tu_17 w35 =>
      J1 (()) w35))
     (fun J2 =>
     M0 Tryz.prog (D5 r0) fun t77 =>
     M0 Tryz.prog (O0 I1 t77 2) fun t78 =>
     Y0 Tryz.prog (X0 U3 t78) (tick w27) fun t79 =>
     Y0 Tryz.prog (M5 .len #[U3] Q0 #[false] #[t79]) (tick w27) fun t80 =>
     M0 Tryz.prog (V3 .leq Q0 (.tmp 75) (.tmp 80) t74 t80) fun t81 =>
     ifB t81
     (M0 Tryz.prog (O0 X3 x8 0) fun t86 =>
      Y0 Tryz.prog (X0 Q0 t86) (tick w27) fun t87 =>
      upK Tryz.prog (Z0 C_ #[r0,t74]) (tick w27) fun t85 w36 =>
      Is Tryz.prog (X0 Q0 t86) t87 w36∧M0 Tryz.prog (V3 .eql Q0 (.tmp 85) (.tmp 87) t85 t87) fun t88 =>
      ifB t88
      (M0 Tryz.prog (V3 .add Q0 (.tmp 65) (.const (.int .i64 1)) lv25.1 (.int .i64 1)) fun t119 =>
      next25 (t119,()) w36)
      (J2 (()) w36))
     (J2 (()) (tick w27))))
    (J1 (()) w25))
    ((.int .i64 0),()) w17)))))
theorem UE.up{r0 m1:Value}{w:World}{K:Value→World→Prop}(h:UE.pt r0 m1 w K):upK Tryz.prog (Z0 SG #[r0,m1]) w K :=
 upF [] (.node none .leaf (.node none .leaf (.node none .leaf (.node none .leaf (.node none .leaf (.node none .leaf (.node none .leaf (.node (some []) (.node none .leaf (.node none (.node none (.node none .leaf (.node none .leaf (.node none (.node none (.node none .leaf (.node none .leaf (.node (some []) .leaf .leaf))) .leaf) .leaf))) .leaf) .leaf)) .leaf)))))))) [r0,m1] Tryz.func170 ⟨by kernel_rfl,by kernel_rfl,by kernel_rfl,by kernel_rfl⟩ h
def vD.pt(r0 m1:Value)(w:World)(K:Value→World→Prop):Prop :=
 upK Tryz.prog (oC Y1 m1) w fun m3 w1 =>
 upK Tryz.prog (A7 F3) w1 fun t4 w2 =>
 kD (X:=Unit) (fun jv1 w3 =>
  M0 Tryz.prog (O0 Y1 m3 1) fun t38 =>
  Y0 Tryz.prog (X0 Q0 t38) (tick w3) fun t39 =>
  M0 Tryz.prog (D5 r0) fun t40 =>
  M0 Tryz.prog (O0 I1 t40 6) fun t41 =>
  M0 Tryz.prog (I5 FM t41 t39) fun t42 =>
  M0 Tryz.prog (O0 Y1 m3 1) fun t44 =>
  Y0 Tryz.prog (X0 Q0 t44) (tick w3) fun t45 =>
  M0 Tryz.prog (D5 r0) fun t46 =>
  M0 Tryz.prog (O0 I1 t46 7) fun t47 =>
  M0 Tryz.prog (I5 FM t47 t45) fun t48 =>
  M0 Tryz.prog (O0 Y1 m3 7) fun t49 =>
  Y0 Tryz.prog (X0 SB t49) (tick w3) fun t50 =>
  M0 Tryz.prog (sUn .not t50) fun t51 =>
  ifB t51
  (M0 Tryz.prog (D5 t48) fun t54 =>
  Y0 Tryz.prog (X0 Q0 t54) (tick (tick w3)) fun t55 =>
  M0 Tryz.prog (V3 .add Q0 (.tmp 55) (.const (.int .i64 1)) t55 (.int .i64 1)) fun t56 =>
  M0 Tryz.prog (D5 t42) fun t58 =>
  Y0 Tryz.prog (X0 Q0 t58) (tick (tick w3)) fun t59 =>
  M0 Tryz.prog (V3 .sub Q0 (.tmp 59) (.const (.int .i64 1)) t59 (.int .i64 1)) fun t60 =>
  M0 Tryz.prog (O0 Y1 m3 4) fun t61 =>
  Y0 Tryz.prog (X0 Q0 t61) (tick (tick w3)) fun t62 =>
  M0 Tryz.prog (V3 .add Q0 (.tmp 62) (.const (.int .i64 1)) t62 (.int .i64 1)) fun t63 =>
  M0 Tryz.prog (M5 .min #[Q0,Q0] Q0 #[false,false] #[t60,t63]) fun t64 =>
  M0 Tryz.prog (M5 .max #[Q0,Q0] Q0 #[false,false] #[t56,t64]) fun t65 =>
  M0 Tryz.prog (D5 t42) fun t66 =>
  upK Tryz.prog (I4 Q0 t66 t65) (tick (tick w3)) fun tu w4 =>
  M0 Tryz.prog (O0 Y1 m3 1) fun t68 =>
  Y0 Tryz.prog (X0 Q0 t68) w4 fun t69 =>
  upK Tryz.prog (Z0 yA #[r0,t69]) w4 fun t70 w5 =>
  upK Tryz.prog (Z0 A_ #[t70]) w5 fun t71 w6 =>
  upK Tryz.prog (I4 F3 t4 t71) w6 fun tu_1 w7 =>
  U9 Tryz.prog (do loadVar F3 (←asAddr t4)) w7 fun t4_1 =>
  K t4_1 w7)
  (M0 Tryz.prog (D5 t48) fun t74 =>
  Y0 Tryz.prog (X0 Q0 t74) (tick (tick w3)) fun t75 =>
  M0 Tryz.prog (O0 Y1 m3 4) fun t76 =>
  Y0 Tryz.prog (X0 Q0 t76) (tick (tick w3)) fun t77 =>
  M0 Tryz.prog (M5 .max #[Q0,Q0] Q0 #[false,false] #[t75,t77]) fun t78 =>
  M0 Tryz.prog (D5 t48) fun t79 =>
  upK Tryz.prog (I4 Q0 t79 t78) (tick (tick w3)) fun tu_2 w8 =>
  M0 Tryz.prog (D5 t48) fun t82 =>
  Y0 Tryz.prog (X0 Q0 t82) w8 fun t83 =>
  M0 Tryz.prog (V3 .add Q0 (.tmp 83) (.const (.int .i64 1)) t83 (.int .i64 1)) fun t84 =>
  M0 Tryz.prog (D5 t42) fun t85 =>
  upK Tryz.prog (I4 Q0 t85 t84) w8 fun tu_3 w9 =>
  upK Tryz.prog (Z0 ZF #[r0]) w9 fun t87 w10 =>
  M0 Tryz.prog (D5 t42) fun t89 =>
  Y0 Tryz.prog (X0 Q0 t89) (tick w10) fun t90 =>
  M0 Tryz.prog (D5 r0) fun t92 =>
  M0 Tryz.prog (O0 I1 t92 2) fun t93 =>
  Y0 Tryz.prog (X0 U3 t93) (tick w10) fun t94 =>
  Y0 Tryz.prog (M5 .len #[U3] Q0 #[false] #[t94]) (tick w10) fun t95 =>
  M0 Tryz.prog (V3 .leq Q0 (.tmp 90) (.tmp 95) t90 t95) fun t96 =>
  ifB t96
  (M0 Tryz.prog (O0 Y1 m3 1) fun t98 =>
   Y0 Tryz.prog (X0 Q0 t98) (tick w10) fun t99 =>
   upK Tryz.prog (Z0 yA #[r0,t99]) (tick w10) fun t100 w11 =>
   upK Tryz.prog (Z0 A_ #[t100]) w11 fun t101 w12 =>
   upK Tryz.prog (I4 F3 t4 t101) w12 fun tu_4 w13 =>
   U9 Tryz.prog (do loadVar F3 (←asAddr t4)) w13 fun t4_2 =>
   K t4_2 w13)
  (M0 Tryz.prog (H6 F3 #[]) fun t102 =>
   upK Tryz.prog (I4 F3 t4 t102) (tick w10) fun tu_5 w14 =>
   U9 Tryz.prog (do loadVar F3 (←asAddr t4)) w14 fun t4_3 =>
   K t4_3 w14)))
 (fun J1 =>
  M0 Tryz.prog (D5 r0) fun t8 =>
  M0 Tryz.prog (O0 I1 t8 3) fun t9 =>
  Y0 Tryz.prog (X0 Q0 t9) (tick w2) fun t10 =>
  M0 Tryz.prog (V3 .neq Q0 (.tmp 10) (.const (.int .i64 2)) t10 (.int .i64 2)) fun t11 =>
  ifB t11
  (M0 Tryz.prog (H6 F3 #[]) fun t36 =>
  upK Tryz.prog (I4 F3 t4 t36) (tick w2) fun tu_6 w15 =>
  U9 Tryz.prog (do loadVar F3 (←asAddr t4)) w15 fun t4_4 =>
  K t4_4 w15)
  (M0 Tryz.prog (O0 Y1 m3 3) fun t13 =>
  Y0 Tryz.prog (X0 Q0 t13) (tick w2) fun t14 =>
  M0 Tryz.prog (D5 r0) fun t16 =>
  M0 Tryz.prog (O0 I1 t16 1) fun t17 =>
  M0 Tryz.prog (O0 O5 t17 0) fun t18 =>
  Y0 Tryz.prog (X0 Q0 t18) (tick w2) fun t19 =>
  M0 Tryz.prog (V3 .neq Q0 (.tmp 14) (.tmp 19) t14 t19) fun t20 =>
  ifB t20
  (M0 Tryz.prog (H6 F3 #[]) fun t36_1 =>
   upK Tryz.prog (I4 F3 t4 t36_1) (tick w2) fun tu_7 w16 =>
   U9 Tryz.prog (do loadVar F3 (←asAddr t4)) w16 fun t4_5 =>
   K t4_5 w16)
  (M0 Tryz.prog (O0 Y1 m3 7) fun t23 =>
   Y0 Tryz.prog (X0 SB t23) (tick w2) fun t24 =>
   ifB t24
   (M0 Tryz.prog (O0 Y1 m3 4) fun t26 =>
   Y0 Tryz.prog (X0 Q0 t26) (tick w2) fun t27 =>
   M0 Tryz.prog (D5 r0) fun t29 =>
   M0 Tryz.prog (O0 I1 t29 2) fun t30 =>
   Y0 Tryz.prog (X0 U3 t30) (tick w2) fun t31 =>
   Y0 Tryz.prog (M5 .len #[U3] Q0 #[false] #[t31]) (tick w2) fun t32 =>
   M0 Tryz.prog (V3 .gtr Q0 (.tmp 27) (.tmp 32) t27 t32) fun t33 =>
   ifB t33
   (M0 Tryz.prog (H6 F3 #[]) fun t36_2 =>
    upK Tryz.prog (I4 F3 t4 t36_2) (tick w2) fun tu_8 w17 =>
    U9 Tryz.prog (do loadVar F3 (←asAddr t4)) w17 fun t4_6 =>
    K t4_6 w17)
   (J1 (()) (tick w2)))
   (J1 (()) (tick w2)))))
theorem vD.up{r0 m1:Value}{w:World}{K:Value→World→Prop}(h:vD.pt r0 m1 w K):upK Tryz.prog (Z0 rF #[r0,m1]) w K :=
 upF [] (.node none .leaf (.node (some []) .leaf .leaf)) [r0,m1] Tryz.func171 ⟨by kernel_rfl,by kernel_rfl,by kernel_rfl,by kernel_rfl⟩ h
def lZ.pt(s0 at1 t2:Value)(w:World)(K:Value→World→Prop):Prop :=
 M0 Tryz.prog (V3 .eql M3 (.tmp 8) (.const (.string ⟨#[]⟩)) t2 (.string ⟨#[]⟩)) fun t9 =>
 ifB t9
 (K s0 w)
 (Y0 Tryz.prog (M5 .len #[M3] Q0 #[false] #[s0]) w fun t12 =>
  Y0 Tryz.prog (M5 .len #[M3] Q0 #[false] #[t2]) w fun t15 =>
  M0 Tryz.prog (V3 .add Q0 (.tmp 13) (.tmp 15) at1 t15) fun t16 =>
  M0 Tryz.prog (M5 .max #[Q0,Q0] Q0 #[false,false] #[t12,t16]) fun t17 =>
  upK Tryz.prog (uM WA t17 t17) w fun t18 w1 =>
  upK Tryz.prog (M5 .copy #[WA,M3] Q0 #[false,false] #[t18,s0]) w1 fun t21 w2 =>
  M0 Tryz.prog (y9 WA t18 (some at1) none none) fun t24 =>
  upK Tryz.prog (M5 .copy #[WA,M3] Q0 #[false,false] #[t24,t2]) w2 fun t26 w3 =>
  upK Tryz.prog (bT WA M3 t18) w3 fun t28 w4 =>
  K t28 w4)
theorem lZ.up{s0 at1 t2:Value}{w:World}{K:Value→World→Prop}(h:lZ.pt s0 at1 t2 w K):upK Tryz.prog (Z0 DU #[s0,at1,t2]) w K :=
 upF [6] .leaf [s0,at1,t2] Tryz.func172 ⟨by kernel_rfl,by kernel_rfl,by kernel_rfl,by kernel_rfl⟩ h
def WE.pt(s0:Value)(w:World)(K:Value→World→Prop):Prop :=
 M0 Tryz.prog (V3 .eql R6 (.tmp 3) (.const (.slice none 0 0)) s0 (.slice none 0 0)) fun t4 =>
 ifB t4
 (K (.slice none 0 0) w)
 (upK Tryz.prog (J6 R6 0 #[]) w fun t5 w1 =>
  upK Tryz.prog (M5 .append #[R6,R6] R6 #[false,false] #[t5,s0]) w1 fun t7 w2 =>
  K t7 w2)
theorem WE.up{s0:Value}{w:World}{K:Value→World→Prop}(h:WE.pt s0 w K):upK Tryz.prog (Z0 sD #[s0]) w K :=
 upF [2] .leaf [s0] Tryz.func173 ⟨by kernel_rfl,by kernel_rfl,by kernel_rfl,by kernel_rfl⟩ h
def mX.pt(r0:Value)(w:World)(K:Value→World→Prop):Prop :=
 upK Tryz.prog (Z0 uA #[r0,(.func (.func 217) #[] #[])]) w fun t4 w1 =>
 M0 Tryz.prog (sUn .not t4) fun t5 =>
 K t5 w1
theorem mX.up{r0:Value}{w:World}{K:Value→World→Prop}(h:mX.pt r0 w K):upK Tryz.prog (Z0 ac0 #[r0]) w K :=
 upF [2] .leaf [r0] Tryz.func174 ⟨by kernel_rfl,by kernel_rfl,by kernel_rfl,by kernel_rfl⟩ h
theorem strings_IndexByte.up{p0 p1:Value}{w:World}{K:Value→World→Prop}(h:Calls Tryz.prog uE #[p0,p1] w (kP K)):upK Tryz.prog (Z0 uE #[p0,p1]) w K :=
 JH (fn:=Tryz.f175) Tryz.func175 (by kernel_rfl) (by kernel_rfl) h
theorem strconv_Atoi.up{p0:Value}{w:World}{K:Value→World→Prop}(h:Calls Tryz.prog BC #[p0] w (kP K)):upK Tryz.prog (Z0 BC #[p0]) w K :=
 JH (fn:=Tryz.f176) Tryz.func176 (by kernel_rfl) (by kernel_rfl) h
theorem strings_CutPrefix.up{p0 p1:Value}{w:World}{K:Value→World→Prop}(h:Calls Tryz.prog rE #[p0,p1] w (kP K)):upK Tryz.prog (Z0 rE #[p0,p1]) w K :=
 JH (fn:=Tryz.f177) Tryz.func177 (by kernel_rfl) (by kernel_rfl) h
def OP.pt(l0 one1:Value)(w:World)(K:Value→World→Prop):Prop :=
 upK Tryz.prog (A7 V5) w fun b5 w1 =>
 Y0 Tryz.prog (M5 .len #[R6] Q0 #[false] #[l0]) w1 fun t9 =>
 upK Tryz.prog (Z0 FD #[t9]) w1 fun t10 w2 =>
 M0 Tryz.prog (V3 .add M3 (.tmp 10) (.const (.string ⟨#[91]⟩)) t10 (.string ⟨#[91]⟩)) fun t11 =>
 upK Tryz.prog (Z0 G7 #[b5,t11]) w2 fun t12 w3 =>
 Y0 Tryz.prog (M5 .len #[R6] Q0 #[false] #[l0]) w3 fun t14 =>
 LOOP (X:=Value×Unit) (fun lv4 w4 next4 =>
  M0 Tryz.prog (V3 .lss Q0 (.tmp 15) (.tmp 14) lv4.1 t14) fun t16 =>
  ifB t16
  (M0 Tryz.prog (I5 R6 l0 lv4.1) fun t17 =>
  Y0 Tryz.prog (X0 Q0 t17) w4 fun t18 =>
  upK Tryz.prog (dA one1 #[t18]) w4 fun t21 w5 =>
  upK Tryz.prog (Z0 G7 #[b5,t21]) w5 fun t22 w6 =>
  M0 Tryz.prog (V3 .add Q0 (.tmp 15) (.const (.int .i64 1)) lv4.1 (.int .i64 1)) fun t23 =>
  next4 (t23,()) w6)
  (upK Tryz.prog (Z0 I9 #[b5]) w4 fun t24 w7 =>
  M0 Tryz.prog (V3 .add M3 (.tmp 24) (.const (.string ⟨#[93]⟩)) t24 (.string ⟨#[93]⟩)) fun t25 =>
  K t25 w7))
 ((.int .i64 0),()) w3
theorem OP.up{l0 one1:Value}{w:World}{K:Value→World→Prop}(h:OP.pt l0 one1 w K):upK Tryz.prog (Z0 mQ #[l0,one1]) w K :=
 upF [4] .leaf [l0,one1] Tryz.func179 ⟨by kernel_rfl,by kernel_rfl,by kernel_rfl,by kernel_rfl⟩ h
def AO.pt(r0 one1:Value)(w:World)(K:Value→World→Prop):Prop :=
 kD (X:=Value×Unit) (fun jv1 w1 =>
  upK Tryz.prog (Z0 dH #[r0,(.string ⟨#[93]⟩)]) w1 fun t26 w2 =>
  M0 Tryz.prog (D5 r0) fun t28 =>
  M0 Tryz.prog (O0 C8 t28 1) fun t29 =>
  Y0 Tryz.prog (X0 SB t29) w2 fun t30 =>
  ifB t30
  (K (.slice none 0 0) w2)
  (K jv1.1 w2))
 (fun J1 =>
  upK Tryz.prog (Z0 dC #[r0,(.int .u8 91),(.int .i64 0)]) w fun t8 w3 =>
  LOOP (X:=Value×Value×Unit) (fun lv4 w4 next4 =>
  M0 Tryz.prog (V3 .gtr Q0 (.tmp 9) (.const (.int .i64 0)) lv4.2.1 (.int .i64 0)) fun t10 =>
  ifB t10
  (M0 Tryz.prog (D5 r0) fun t13 =>
   M0 Tryz.prog (O0 C8 t13 1) fun t14 =>
   Y0 Tryz.prog (X0 SB t14) w4 fun t15 =>
   M0 Tryz.prog (sUn .not t15) fun t16 =>
   ifB t16
   (upK Tryz.prog (dA one1 #[]) w4 fun t22 w5 =>
   upK Tryz.prog (J6 R6 1 #[(0,t22)]) w5 fun t23 w6 =>
   upK Tryz.prog (M5 .append #[R6,R6] R6 #[false,false] #[lv4.1,t23]) w6 fun t24 w7 =>
   M0 Tryz.prog (V3 .sub Q0 (.tmp 18) (.const (.int .i64 1)) lv4.2.1 (.int .i64 1)) fun t19 =>
   next4 (t24,t19,()) w7)
   (J1 (lv4.1,()) w4))
  (J1 (lv4.1,()) w4))
  ((.slice none 0 0),t8,()) w3)
theorem AO.up{r0 one1:Value}{w:World}{K:Value→World→Prop}(h:AO.pt r0 one1 w K):upK Tryz.prog (Z0 VO #[r0,one1]) w K :=
 upF [4] (.node none .leaf (.node none .leaf (.node (some [5]) .leaf .leaf))) [r0,one1] Tryz.func184 ⟨by kernel_rfl,by kernel_rfl,by kernel_rfl,by kernel_rfl⟩ h
def EP.pt(p0:Value)(w:World)(K:Value→World→Prop):Prop :=
 upK Tryz.prog (oC U2 p0) w fun p1 w1 =>
 M0 Tryz.prog (O0 U2 p1 0) fun t5 =>
 Y0 Tryz.prog (X0 Q0 t5) w1 fun t6 =>
 upK Tryz.prog (Z0 qD #[t6]) w1 fun t7 w2 =>
 M0 Tryz.prog (sUn .not t7) fun t8 =>
 ifB t8
 (K (.bool false) w2)
 (M0 Tryz.prog (O0 U2 p1 1) fun t10 =>
  Y0 Tryz.prog (X0 Q0 t10) w2 fun t11 =>
  upK Tryz.prog (Z0 qD #[t11]) w2 fun t12 w3 =>
  M0 Tryz.prog (sUn .not t12) fun t13 =>
  ifB t13
  (K (.bool false) w3)
  (M0 Tryz.prog (O0 U2 p1 2) fun t16 =>
  Y0 Tryz.prog (X0 Q0 t16) w3 fun t17 =>
  upK Tryz.prog (Z0 qD #[t17]) w3 fun t18 w4 =>
  M0 Tryz.prog (sUn .not t18) fun t19 =>
  ifB t19
  (K (.bool false) w4)
  (M0 Tryz.prog (O0 U2 p1 3) fun t22 =>
   Y0 Tryz.prog (X0 R6 t22) w4 fun t23 =>
   Y0 Tryz.prog (M5 .len #[R6] Q0 #[false] #[t23]) w4 fun t24 =>
   M0 Tryz.prog (O0 U2 p1 2) fun t25 =>
   Y0 Tryz.prog (X0 Q0 t25) w4 fun t26 =>
   M0 Tryz.prog (M5 .min #[Q0,Q0] Q0 #[false,true] #[t26,(.int .i64 20)]) fun t27 =>
   M0 Tryz.prog (V3 .neq Q0 (.tmp 24) (.tmp 27) t24 t27) fun t28 =>
   ifB t28
   (K (.bool false) w4)
   (M0 Tryz.prog (O0 U2 p1 3) fun t30 =>
   Y0 Tryz.prog (X0 R6 t30) w4 fun t31 =>
   Y0 Tryz.prog (M5 .len #[R6] Q0 #[false] #[t31]) w4 fun t32 =>
   LOOP (X:=Value×Unit) (fun lv5 w5 next5 =>
    M0 Tryz.prog (V3 .lss Q0 (.tmp 33) (.tmp 32) lv5.1 t32) fun t34 =>
    ifB t34
    (kD (X:=Unit) (fun jv1 w6 =>
     M0 Tryz.prog (V3 .add Q0 (.tmp 33) (.const (.int .i64 1)) lv5.1 (.int .i64 1)) fun t55 =>
     next5 (t55,()) w6)
    (fun J1 =>
     M0 Tryz.prog (I5 R6 t31 lv5.1) fun t36 =>
     Y0 Tryz.prog (X0 Q0 t36) w5 fun t37 =>
     upK Tryz.prog (Z0 qD #[t37]) w5 fun t39 w7 =>
     M0 Tryz.prog (sUn .not t39) fun t40 =>
     ifB t40
     (K (.bool false) w7)
     (M0 Tryz.prog (V3 .gtr Q0 (.tmp 42) (.const (.int .i64 0)) lv5.1 (.int .i64 0)) fun t43 =>
     ifB t43
     (M0 Tryz.prog (O0 U2 p1 3) fun t46 =>
      Y0 Tryz.prog (X0 R6 t46) w7 fun t47 =>
      M0 Tryz.prog (V3 .sub Q0 (.tmp 48) (.const (.int .i64 1)) lv5.1 (.int .i64 1)) fun t49 =>
      M0 Tryz.prog (I5 R6 t47 t49) fun t50 =>
      Y0 Tryz.prog (X0 Q0 t50) w7 fun t51 =>
      M0 Tryz.prog (V3 .leq Q0 (.tmp 45) (.tmp 51) t37 t51) fun t52 =>
      ifB t52
      (K (.bool false) w7)
      (J1 (()) w7))
     (J1 (()) w7))))
    (K (.bool true) w5))
   ((.int .i64 0),()) w4))))
theorem EP.up{p0:Value}{w:World}{K:Value→World→Prop}(h:EP.pt p0 w K):upK Tryz.prog (Z0 lQ #[p0]) w K :=
 upF [2] (.node none .leaf (.node none .leaf (.node none (.node none .leaf (.node none (.node none (.node none .leaf (.node none .leaf (.node (some []) .leaf .leaf))) .leaf) .leaf)) .leaf))) [p0] Tryz.func185 ⟨by kernel_rfl,by kernel_rfl,by kernel_rfl,by kernel_rfl⟩ h
def eH.pt(a0 b1:Value)(w:World)(K:Value→World→Prop):Prop :=
 upK Tryz.prog (oC R3 a0) w fun a2 w1 =>
 upK Tryz.prog (oC R3 b1) w1 fun b3 w2 =>
 M0 Tryz.prog (O0 R3 a2 0) fun t5 =>
 Y0 Tryz.prog (X0 Q0 t5) w2 fun t6 =>
 M0 Tryz.prog (O0 R3 b3 0) fun t7 =>
 Y0 Tryz.prog (X0 Q0 t7) w2 fun t8 =>
 M0 Tryz.prog (V3 .lss Q0 (.tmp 6) (.tmp 8) t6 t8) fun t9 =>
 ifB t9
 (K (.int .i64 (-1)) w2)
 (M0 Tryz.prog (O0 R3 a2 0) fun t10 =>
  Y0 Tryz.prog (X0 Q0 t10) w2 fun t11 =>
  M0 Tryz.prog (O0 R3 b3 0) fun t12 =>
  Y0 Tryz.prog (X0 Q0 t12) w2 fun t13 =>
  M0 Tryz.prog (V3 .gtr Q0 (.tmp 11) (.tmp 13) t11 t13) fun t14 =>
  ifB t14
  (K (.int .i64 1) w2)
  (M0 Tryz.prog (O0 R3 a2 1) fun t15 =>
  Y0 Tryz.prog (X0 Q0 t15) w2 fun t16 =>
  M0 Tryz.prog (O0 R3 b3 1) fun t17 =>
  Y0 Tryz.prog (X0 Q0 t17) w2 fun t18 =>
  M0 Tryz.prog (V3 .lss Q0 (.tmp 16) (.tmp 18) t16 t18) fun t19 =>
  ifB t19
  (K (.int .i64 (-1)) w2)
  (M0 Tryz.prog (O0 R3 a2 1) fun t20 =>
   Y0 Tryz.prog (X0 Q0 t20) w2 fun t21 =>
   M0 Tryz.prog (O0 R3 b3 1) fun t22 =>
   Y0 Tryz.prog (X0 Q0 t22) w2 fun t23 =>
   M0 Tryz.prog (V3 .gtr Q0 (.tmp 21) (.tmp 23) t21 t23) fun t24 =>
   ifB t24
   (K (.int .i64 1) w2)
   (M0 Tryz.prog (O0 R3 a2 2) fun t25 =>
   Y0 Tryz.prog (X0 M3 t25) w2 fun t26 =>
   M0 Tryz.prog (O0 R3 b3 2) fun t27 =>
   Y0 Tryz.prog (X0 M3 t27) w2 fun t28 =>
   M0 Tryz.prog (V3 .lss M3 (.tmp 26) (.tmp 28) t26 t28) fun t29 =>
   ifB t29
   (K (.int .i64 (-1)) w2)
   (M0 Tryz.prog (O0 R3 a2 2) fun t30 =>
    Y0 Tryz.prog (X0 M3 t30) w2 fun t31 =>
    M0 Tryz.prog (O0 R3 b3 2) fun t32 =>
    Y0 Tryz.prog (X0 M3 t32) w2 fun t33 =>
    M0 Tryz.prog (V3 .gtr M3 (.tmp 31) (.tmp 33) t31 t33) fun t34 =>
    ifB t34
    (K (.int .i64 1) w2)
    (K (.int .i64 0) w2))))))
theorem eH.up{a0 b1:Value}{w:World}{K:Value→World→Prop}(h:eH.pt a0 b1 w K):upK Tryz.prog (Z0 wJ #[a0,b1]) w K :=
 upF [4] .leaf [a0,b1] Tryz.func186 ⟨by kernel_rfl,by kernel_rfl,by kernel_rfl,by kernel_rfl⟩ h
def iE.pt(r0 to1:Value)(w:World)(K:Value→World→Prop):Prop :=
 upK Tryz.prog (A7 Y1) w fun t4 w1 =>
 upK Tryz.prog (Z0 zA #[r0,(.int .i64 2),to1]) w1 fun t8 w2 =>
 upK Tryz.prog (A7 Y1) w2 fun m5 w3 =>
 upK Tryz.prog (I4 Y1 m5 t8) w3 fun tu w4 =>
 M0 Tryz.prog (D5 r0) fun t11 =>
 M0 Tryz.prog (O0 I1 t11 6) fun t12 =>
 M0 Tryz.prog (I5 FM t12 to1) fun t13 =>
 Y0 Tryz.prog (X0 Q0 t13) w4 fun t14 =>
 M0 Tryz.prog (V3 .sub Q0 (.tmp 14) (.const (.int .i64 1)) t14 (.int .i64 1)) fun t15 =>
 M0 Tryz.prog (O0 Y1 m5 4) fun t16 =>
 upK Tryz.prog (I4 Q0 t16 t15) w4 fun tu_1 w5 =>
 M0 Tryz.prog (O0 Y1 m5 4) fun t18 =>
 Y0 Tryz.prog (X0 Q0 t18) (tick w5) fun t19 =>
 M0 Tryz.prog (D5 r0) fun t22 =>
 M0 Tryz.prog (O0 I1 t22 4) fun t23 =>
 Y0 Tryz.prog (X0 Q0 t23) (tick w5) fun t24 =>
 upK Tryz.prog (Z0 C_ #[r0,t19]) (tick w5) fun t20 w6 =>
 Is Tryz.prog (X0 Q0 t23) t24 w6∧M0 Tryz.prog (O0 Y1 m5 5) fun t25 =>
 upK Tryz.prog (I4 Q0 t25 t20) w6 fun tu_2 w7 =>
 Is Tryz.prog (X0 Q0 t23) t24 w7∧M0 Tryz.prog (O0 Y1 m5 6) fun t26 =>
 upK Tryz.prog (I4 Q0 t26 t24) w7 fun tu_3 w8 =>
 M0 Tryz.prog (D5 r0) fun t28 =>
 M0 Tryz.prog (O0 I1 t28 2) fun t29 =>
 Y0 Tryz.prog (X0 U3 t29) (tick w8) fun t30 =>
 M0 Tryz.prog (O0 Y1 m5 4) fun t31 =>
 Y0 Tryz.prog (X0 Q0 t31) (tick w8) fun t32 =>
 M0 Tryz.prog (D5 r0) fun t34 =>
 M0 Tryz.prog (O0 I1 t34 2) fun t35 =>
 Y0 Tryz.prog (X0 U3 t35) (tick w8) fun t36 =>
 Y0 Tryz.prog (M5 .len #[U3] Q0 #[false] #[t36]) (tick w8) fun t37 =>
 M0 Tryz.prog (O0 Y1 m5 4) fun t38 =>
 Y0 Tryz.prog (X0 Q0 t38) (tick w8) fun t39 =>
 M0 Tryz.prog (V3 .add Q0 (.tmp 39) (.const (.int .i64 8)) t39 (.int .i64 8)) fun t40 =>
 M0 Tryz.prog (M5 .min #[Q0,Q0] Q0 #[false,false] #[t37,t40]) fun t41 =>
 M0 Tryz.prog (y9 U3 t30 (some t32) (some t41) none) fun t42 =>
 upK Tryz.prog (Z0 X8 #[t42]) (tick w8) fun t43 w9 =>
 M0 Tryz.prog (O0 Y1 m5 8) fun t44 =>
 upK Tryz.prog (I4 U3 t44 t43) w9 fun tu_4 w10 =>
 Y0 Tryz.prog (X0 Y1 m5) w10 fun t45 =>
 upK Tryz.prog (I4 Y1 t4 t45) w10 fun tu_5 w11 =>
 U9 Tryz.prog (do loadVar Y1 (←asAddr t4)) w11 fun t4_1 =>
 K t4_1 w11
theorem iE.up{r0 to1:Value}{w:World}{K:Value→World→Prop}(h:iE.pt r0 to1 w K):upK Tryz.prog (Z0 yA #[r0,to1]) w K :=
 upF [] .leaf [r0,to1] Tryz.func187 ⟨by kernel_rfl,by kernel_rfl,by kernel_rfl,by kernel_rfl⟩ h
def sP.pt(c0 s1:Value)(w:World)(K:Value→World→Prop):Prop :=
 Y0 Tryz.prog (M5 .len #[M3] Q0 #[false] #[s1]) w fun t12 =>
 M0 Tryz.prog (V3 .gtr Q0 (.tmp 12) (.const (.int .i64 65536)) t12 (.int .i64 65536)) fun t13 =>
 ifB t13
 (K (.int .i64 6) w)
 (kD (X:=Unit) (fun jv1 w1 =>
  kD (X:=Value×Unit) (fun jv2 w2 =>
   M0 Tryz.prog (D5 c0) fun t47 =>
   M0 Tryz.prog (O0 U4 t47 0) fun t48 =>
   Y0 Tryz.prog (X0 VA t48) (tick w2) fun t49 =>
   M0 Tryz.prog (D5 c0) fun t51 =>
   M0 Tryz.prog (O0 U4 t51 1) fun t52 =>
   Y0 Tryz.prog (X0 Q0 t52) (tick w2) fun t53 =>
   M0 Tryz.prog (I5 FM (.pointer (some ⟨0,0,none⟩)) jv2.1) fun t55 =>
   Y0 Tryz.prog (X0 Q0 t55) (tick w2) fun t56 =>
   upK Tryz.prog (Z0 mG #[t49,t53,t56,s1]) (tick w2) fun t58 w3 =>
   M0 Tryz.prog (V3 .neq D7 (.tmp 59) (.const (.int .i64 0)) t58 (.int .i64 0)) fun t60 =>
   ifB t60
   (K t58 w3)
   (M0 Tryz.prog (D5 c0) fun t63 =>
   M0 Tryz.prog (O0 U4 t63 0) fun t64 =>
   Y0 Tryz.prog (X0 VA t64) (tick w3) fun t65 =>
   M0 Tryz.prog (D5 c0) fun t67 =>
   M0 Tryz.prog (O0 U4 t67 1) fun t68 =>
   Y0 Tryz.prog (X0 Q0 t68) (tick w3) fun t69 =>
   upK Tryz.prog (Z0 aC #[t65,t69]) (tick w3) fun t70 w4 =>
   M0 Tryz.prog (V3 .neq D7 (.tmp 71) (.const (.int .i64 0)) t70 (.int .i64 0)) fun t72 =>
   ifB t72
   (K t70 w4)
   (M0 Tryz.prog (D5 c0) fun t75 =>
    M0 Tryz.prog (O0 U4 t75 0) fun t76 =>
    Y0 Tryz.prog (X0 VA t76) (tick w4) fun t77 =>
    M0 Tryz.prog (D5 c0) fun t79 =>
    M0 Tryz.prog (O0 U4 t79 1) fun t80 =>
    Y0 Tryz.prog (X0 Q0 t80) (tick w4) fun t81 =>
    upK Tryz.prog (Z0 nP #[jv2.1,s1]) (tick w4) fun t84 w5 =>
    Is Tryz.prog (X0 Q0 t80) t81 w5∧Is Tryz.prog (X0 VA t76) t77 w5∧upK Tryz.prog (Z0 mG #[t77,t81,(.int .i64 0),t84]) w5 fun t85 w6 =>
    M0 Tryz.prog (V3 .neq D7 (.tmp 86) (.const (.int .i64 0)) t85 (.int .i64 0)) fun t87 =>
    ifB t87
    (K t85 w6)
    (M0 Tryz.prog (D5 c0) fun t94 =>
    M0 Tryz.prog (O0 U4 t94 2) fun t95 =>
    upK Tryz.prog (I4 Q0 t95 jv2.1) w6 fun tu w7 =>
    M0 Tryz.prog (D5 c0) fun t96 =>
    M0 Tryz.prog (O0 U4 t96 3) fun t97 =>
    upK Tryz.prog (I4 M3 t97 s1) w7 fun tu_1 w8 =>
    M0 Tryz.prog (D5 c0) fun t98 =>
    M0 Tryz.prog (O0 U4 t98 4) fun t99 =>
    upK Tryz.prog (I4 SB t99 (.bool false)) w8 fun tu_2 w9 =>
    M0 Tryz.prog (D5 c0) fun t101 =>
    M0 Tryz.prog (O0 U4 t101 0) fun t102 =>
    Y0 Tryz.prog (X0 VA t102) (tick w9) fun t103 =>
    M0 Tryz.prog (D5 c0) fun t105 =>
    M0 Tryz.prog (O0 U4 t105 1) fun t106 =>
    Y0 Tryz.prog (X0 Q0 t106) (tick w9) fun t107 =>
    upK Tryz.prog (Z0 aC #[t103,t107]) (tick w9) fun t108 w10 =>
    M0 Tryz.prog (V3 .eql D7 (.tmp 110) (.const (.int .i64 0)) t108 (.int .i64 0)) fun t111 =>
    M0 Tryz.prog (D5 c0) fun t112 =>
    M0 Tryz.prog (O0 U4 t112 4) fun t113 =>
    upK Tryz.prog (I4 SB t113 t111) w10 fun tu_3 w11 =>
    K t108 w11))))
  (fun J2 =>
   M0 Tryz.prog (D5 c0) fun t42 =>
   M0 Tryz.prog (O0 U4 t42 2) fun t43 =>
   Y0 Tryz.prog (X0 Q0 t43) w1 fun t44 =>
   M0 Tryz.prog (V3 .eql Q0 (.tmp 44) (.const (.int .i64 1)) t44 (.int .i64 1)) fun t45 =>
   ifB t45
   (J2 ((.int .i64 2),()) w1)
   (J2 ((.int .i64 1),()) w1)))
  (fun J1 =>
  M0 Tryz.prog (D5 c0) fun t15 =>
  M0 Tryz.prog (O0 U4 t15 4) fun t16 =>
  Y0 Tryz.prog (X0 SB t16) w fun t17 =>
  M0 Tryz.prog (sUn .not t17) fun t18 =>
  ifB t18
  (M0 Tryz.prog (D5 c0) fun t21 =>
   M0 Tryz.prog (O0 U4 t21 2) fun t22 =>
   Y0 Tryz.prog (X0 Q0 t22) w fun t23 =>
   M0 Tryz.prog (V3 .gtr Q0 (.tmp 23) (.const (.int .i64 0)) t23 (.int .i64 0)) fun t24 =>
   ifB t24
   (M0 Tryz.prog (D5 c0) fun t27 =>
   M0 Tryz.prog (O0 U4 t27 0) fun t28 =>
   Y0 Tryz.prog (X0 VA t28) (tick w) fun t29 =>
   M0 Tryz.prog (D5 c0) fun t31 =>
   M0 Tryz.prog (O0 U4 t31 1) fun t32 =>
   Y0 Tryz.prog (X0 Q0 t32) (tick w) fun t33 =>
   upK Tryz.prog (Z0 aC #[t29,t33]) (tick w) fun t34 w12 =>
   M0 Tryz.prog (V3 .neq D7 (.tmp 35) (.const (.int .i64 0)) t34 (.int .i64 0)) fun t36 =>
   ifB t36
   (K t34 w12)
   (M0 Tryz.prog (D5 c0) fun t39 =>
    M0 Tryz.prog (O0 U4 t39 4) fun t40 =>
    upK Tryz.prog (I4 SB t40 (.bool true)) w12 fun tu_4 w13 =>
    J1 (()) w13))
   (J1 (()) w))
  (J1 (()) w)))
theorem sP.up{c0 s1:Value}{w:World}{K:Value→World→Prop}(h:sP.pt c0 s1 w K):upK Tryz.prog (Z0 wM #[c0,s1]) w K :=
 upF [4] (.node none .leaf (.node none .leaf (.node (some []) .leaf (.node none .leaf (.node (some [6]) .leaf .leaf))))) [c0,s1] Tryz.func188 ⟨by kernel_rfl,by kernel_rfl,by kernel_rfl,by kernel_rfl⟩ h
def oL.pt(x0:Value)(w:World)(K:Value→World→Prop):Prop :=
 upK Tryz.prog (oC X3 x0) w fun x1 w1 =>
 M0 Tryz.prog (O0 X3 x1 0) fun t3 =>
 Y0 Tryz.prog (X0 Q0 t3) (tick w1) fun t4 =>
 M0 Tryz.prog (O0 X3 x1 1) fun t6 =>
 Y0 Tryz.prog (X0 M3 t6) (tick w1) fun t7 =>
 upK Tryz.prog (Z0 J8 #[t4]) (tick w1) fun t5 w2 =>
 Is Tryz.prog (X0 M3 t6) t7 w2∧upK Tryz.prog (Z0 ZE #[t7]) w2 fun t8 w3 =>
 M0 Tryz.prog (V3 .add M3 (.tmp 5) (.tmp 8) t5 t8) fun t9 =>
 K t9 w3
theorem oL.up{x0:Value}{w:World}{K:Value→World→Prop}(h:oL.pt x0 w K):upK Tryz.prog (Z0 zI #[x0]) w K :=
 upF [2] .leaf [x0] Tryz.func189 ⟨by kernel_rfl,by kernel_rfl,by kernel_rfl,by kernel_rfl⟩ h
def yG.pt(t0 t1:Value)(w:World)(K:Value→World→Prop):Prop :=
 Y0 Tryz.prog (X0 Y5 t0) (tick w) fun t3 =>
 M0 Tryz.prog (D5 t3) fun t4 =>
 M0 Tryz.prog (O0 y7 t4 1) fun t5 =>
 Y0 Tryz.prog (X0 I7 t5) (tick w) fun t6 =>
 M0 Tryz.prog (O0 F3 t1 2) fun t7 =>
 Y0 Tryz.prog (X0 Q0 t7) (tick w) fun t8 =>
 M0 Tryz.prog (V3 .sub Q0 (.tmp 8) (.const (.int .i64 1)) t8 (.int .i64 1)) fun t9 =>
 Y0 Tryz.prog (X0 Y5 t0) (tick w) fun t10 =>
 M0 Tryz.prog (D5 t10) fun t11 =>
 M0 Tryz.prog (O0 y7 t11 1) fun t12 =>
 Y0 Tryz.prog (X0 I7 t12) (tick w) fun t13 =>
 upK Tryz.prog (Z0 CJ #[t13]) (tick w) fun t14 w1 =>
 Is Tryz.prog (X0 Q0 t7) t8 w1∧Is Tryz.prog (X0 I7 t5) t6 w1∧Is Tryz.prog (X0 Y5 t0) t3 w1∧M0 Tryz.prog (M5 .min #[Q0,Q0] Q0 #[false,false] #[t9,t14]) fun t15 =>
 upK Tryz.prog (Z0 BJ #[t6,t15]) w1 fun t16 w2 =>
 K t16 w2
theorem yG.up{t0 t1:Value}{w:World}{K:Value→World→Prop}(h:yG.pt t0 t1 w K):upK Tryz.prog (Z0 vB #[t0,t1]) w K :=
 upF [2] .leaf [t0,t1] Tryz.func190 ⟨by kernel_rfl,by kernel_rfl,by kernel_rfl,by kernel_rfl⟩ h
def xH.pt(j0 n1:Value)(w:World)(K:Value→World→Prop):Prop :=
 M0 Tryz.prog (D5 j0) fun t9 =>
 M0 Tryz.prog (O0 Y4 t9 5) fun t10 =>
 Y0 Tryz.prog (X0 SB t10) w fun t11 =>
 ifB t11
 (K (.int .i64 7) w)
 (M0 Tryz.prog (V3 .lss Q0 (.tmp 13) (.const (.int .i64 0)) n1 (.int .i64 0)) fun t14 =>
  ifB t14
  (K (.int .i64 1) w)
  (M0 Tryz.prog (D5 j0) fun t18 =>
  M0 Tryz.prog (O0 Y4 t18 3) fun t19 =>
  Y0 Tryz.prog (X0 Z4 t19) w fun t20 =>
  Y0 Tryz.prog (M5 .len #[Z4] Q0 #[false] #[t20]) w fun t21 =>
  M0 Tryz.prog (V3 .gtr Q0 (.tmp 16) (.tmp 21) n1 t21) fun t22 =>
  ifB t22
  (K (.int .i64 1) w)
  (M0 Tryz.prog (D5 j0) fun t27 =>
   M0 Tryz.prog (O0 Y4 t27 3) fun t28 =>
   Y0 Tryz.prog (X0 Z4 t28) w fun t29 =>
   Y0 Tryz.prog (M5 .len #[Z4] Q0 #[false] #[t29]) w fun t30 =>
   M0 Tryz.prog (V3 .eql Q0 (.tmp 25) (.tmp 30) n1 t30) fun t31 =>
   ifB t31
   (K (.int .i64 0) w)
   (M0 Tryz.prog (D5 j0) fun t33 =>
   M0 Tryz.prog (O0 Y4 t33 3) fun t34 =>
   Y0 Tryz.prog (X0 Z4 t34) w fun t35 =>
   M0 Tryz.prog (y9 Z4 t35 none (some n1) none) fun t37 =>
   upK Tryz.prog (Z0 oK #[t37]) w fun t38 w1 =>
   Y0 Tryz.prog (M5 .len #[M3] Q0 #[false] #[t38]) w1 fun t39 =>
   upK Tryz.prog (Z0 KE #[j0,t39,n1]) w1 fun t43 w2 =>
   M0 Tryz.prog (V3 .neq D7 (.tmp 44) (.const (.int .i64 0)) t43 (.int .i64 0)) fun t45 =>
   ifB t45
   (K t43 w2)
   (M0 Tryz.prog (D5 j0) fun t50 =>
    M0 Tryz.prog (O0 Y4 t50 3) fun t51 =>
    Y0 Tryz.prog (X0 Z4 t51) w2 fun t52 =>
    M0 Tryz.prog (y9 Z4 t52 none (some n1) (some n1)) fun t55 =>
    M0 Tryz.prog (D5 j0) fun t57 =>
    M0 Tryz.prog (O0 Y4 t57 3) fun t58 =>
    upK Tryz.prog (I4 Z4 t58 t55) w2 fun tu w3 =>
    M0 Tryz.prog (D5 j0) fun t59 =>
    M0 Tryz.prog (O0 Y4 t59 4) fun t60 =>
    upK Tryz.prog (I4 Q0 t60 t39) w3 fun tu_1 w4 =>
    K (.int .i64 0) w4)))))
theorem xH.up{j0 n1:Value}{w:World}{K:Value→World→Prop}(h:xH.pt j0 n1 w K):upK Tryz.prog (Z0 BJ #[j0,n1]) w K :=
 upF [4] .leaf [j0,n1] Tryz.func191 ⟨by kernel_rfl,by kernel_rfl,by kernel_rfl,by kernel_rfl⟩ h
def yH.pt(j0:Value)(w:World)(K:Value→World→Prop):Prop :=
 M0 Tryz.prog (D5 j0) fun t4 =>
 M0 Tryz.prog (O0 Y4 t4 3) fun t5 =>
 Y0 Tryz.prog (X0 Z4 t5) w fun t6 =>
 Y0 Tryz.prog (M5 .len #[Z4] Q0 #[false] #[t6]) w fun t7 =>
 K t7 w
theorem yH.up{j0:Value}{w:World}{K:Value→World→Prop}(h:yH.pt j0 w K):upK Tryz.prog (Z0 CJ #[j0]) w K :=
 upF [2] .leaf [j0] Tryz.func192 ⟨by kernel_rfl,by kernel_rfl,by kernel_rfl,by kernel_rfl⟩ h
def zG.pt(t0 t1:Value)(w:World)(K:Value→World→Prop):Prop :=
 Y0 Tryz.prog (X0 Y5 t0) (tick w) fun t3 =>
 M0 Tryz.prog (D5 t3) fun t4 =>
 M0 Tryz.prog (O0 y7 t4 1) fun t5 =>
 Y0 Tryz.prog (X0 I7 t5) (tick w) fun t6 =>
 Y0 Tryz.prog (X0 Z4 t1) (tick w) fun t7 =>
 upK Tryz.prog (Z0 RG #[t6,t7]) (tick w) fun t8 w1 =>
 K t8 w1
theorem zG.up{t0 t1:Value}{w:World}{K:Value→World→Prop}(h:zG.pt t0 t1 w K):upK Tryz.prog (Z0 wB #[t0,t1]) w K :=
 upF [2] .leaf [t0,t1] Tryz.func193 ⟨by kernel_rfl,by kernel_rfl,by kernel_rfl,by kernel_rfl⟩ h
def SE.pt(j0 l1:Value)(w:World)(K:Value→World→Prop):Prop :=
 upK Tryz.prog (Z0 oK #[l1]) w fun t9 w1 =>
 M0 Tryz.prog (D5 j0) fun t12 =>
 M0 Tryz.prog (O0 Y4 t12 5) fun t13 =>
 Y0 Tryz.prog (X0 SB t13) w1 fun t14 =>
 ifB t14
 (K (.int .i64 7) w1)
 (Y0 Tryz.prog (M5 .len #[Z4] Q0 #[false] #[l1]) w1 fun t17 =>
  M0 Tryz.prog (V3 .eql Q0 (.tmp 17) (.const (.int .i64 0)) t17 (.int .i64 0)) fun t18 =>
  ifB t18
  (K (.int .i64 0) w1)
  (M0 Tryz.prog (D5 j0) fun t21 =>
  M0 Tryz.prog (O0 Y4 t21 4) fun t22 =>
  Y0 Tryz.prog (X0 Q0 t22) w1 fun t23 =>
  Y0 Tryz.prog (M5 .len #[M3] Q0 #[false] #[t9]) w1 fun t25 =>
  M0 Tryz.prog (V3 .add Q0 (.tmp 23) (.tmp 25) t23 t25) fun t26 =>
  M0 Tryz.prog (V3 .gtr Q0 (.tmp 26) (.const (.int .i64 1048576)) t26 (.int .i64 1048576)) fun t27 =>
  ifB t27
  (K (.int .i64 6) w1)
  (M0 Tryz.prog (D5 j0) fun t29 =>
   M0 Tryz.prog (O0 Y4 t29 0) fun t30 =>
   Y0 Tryz.prog (X0 VA t30) (tick w1) fun t31 =>
   M0 Tryz.prog (D5 j0) fun t33 =>
   M0 Tryz.prog (O0 Y4 t33 1) fun t34 =>
   Y0 Tryz.prog (X0 Q0 t34) (tick w1) fun t35 =>
   M0 Tryz.prog (D5 j0) fun t37 =>
   M0 Tryz.prog (O0 Y4 t37 4) fun t38 =>
   Y0 Tryz.prog (X0 Q0 t38) (tick w1) fun t39 =>
   upK Tryz.prog (Z0 mG #[t31,t35,t39,t9]) (tick w1) fun t41 w2 =>
   kD (X:=Value×Unit) (fun jv1 w3 =>
   M0 Tryz.prog (V3 .neq D7 (.tmp 53) (.const (.int .i64 0)) jv1.1 (.int .i64 0)) fun t54 =>
   ifB t54
   (M0 Tryz.prog (D5 j0) fun t56 =>
    M0 Tryz.prog (O0 Y4 t56 5) fun t57 =>
    upK Tryz.prog (I4 SB t57 (.bool true)) w3 fun tu w4 =>
    K jv1.1 w4)
   (M0 Tryz.prog (D5 j0) fun t61 =>
    M0 Tryz.prog (O0 Y4 t61 4) fun t62 =>
    Y0 Tryz.prog (X0 Q0 t62) (tick w3) fun t63 =>
    Y0 Tryz.prog (M5 .len #[M3] Q0 #[false] #[t9]) (tick w3) fun t65 =>
    M0 Tryz.prog (V3 .add Q0 (.tmp 63) (.tmp 65) t63 t65) fun t66 =>
    M0 Tryz.prog (D5 j0) fun t68 =>
    M0 Tryz.prog (O0 Y4 t68 3) fun t69 =>
    Y0 Tryz.prog (X0 Z4 t69) (tick w3) fun t70 =>
    Y0 Tryz.prog (M5 .len #[Z4] Q0 #[false] #[t70]) (tick w3) fun t71 =>
    Y0 Tryz.prog (M5 .len #[Z4] Q0 #[false] #[l1]) (tick w3) fun t73 =>
    M0 Tryz.prog (V3 .add Q0 (.tmp 71) (.tmp 73) t71 t73) fun t74 =>
    upK Tryz.prog (Z0 KE #[j0,t66,t74]) (tick w3) fun t75 w5 =>
    M0 Tryz.prog (V3 .neq D7 (.tmp 76) (.const (.int .i64 0)) t75 (.int .i64 0)) fun t77 =>
    ifB t77
    (K t75 w5)
    (M0 Tryz.prog (D5 j0) fun t82 =>
    M0 Tryz.prog (O0 Y4 t82 3) fun t83 =>
    Y0 Tryz.prog (X0 Z4 t83) (tick w5) fun t84 =>
    M0 Tryz.prog (D5 j0) fun t88 =>
    M0 Tryz.prog (O0 Y4 t88 4) fun t89 =>
    Y0 Tryz.prog (X0 Q0 t89) (tick w5) fun t90 =>
    Y0 Tryz.prog (M5 .len #[M3] Q0 #[false] #[t9]) (tick w5) fun t92 =>
    M0 Tryz.prog (V3 .add Q0 (.tmp 90) (.tmp 92) t90 t92) fun t93 =>
    upK Tryz.prog (M5 .append #[Z4,Z4] Z4 #[false,false] #[t84,l1]) (tick w5) fun t86 w6 =>
    Is Tryz.prog (M5 .len #[M3] Q0 #[false] #[t9]) t92 w6∧Is Tryz.prog (X0 Q0 t89) t90 w6∧M0 Tryz.prog (D5 j0) fun t94 =>
    M0 Tryz.prog (O0 Y4 t94 3) fun t95 =>
    upK Tryz.prog (I4 Z4 t95 t86) w6 fun tu_1 w7 =>
    Is Tryz.prog (M5 .len #[M3] Q0 #[false] #[t9]) t92 w7∧M0 Tryz.prog (D5 j0) fun t96 =>
    M0 Tryz.prog (O0 Y4 t96 4) fun t97 =>
    upK Tryz.prog (I4 Q0 t97 t93) w7 fun tu_2 w8 =>
    K (.int .i64 0) w8)))
   (fun J1 =>
   M0 Tryz.prog (V3 .eql D7 (.tmp 42) (.const (.int .i64 0)) t41 (.int .i64 0)) fun t43 =>
   ifB t43
   (M0 Tryz.prog (D5 j0) fun t45 =>
    M0 Tryz.prog (O0 Y4 t45 0) fun t46 =>
    Y0 Tryz.prog (X0 VA t46) (tick w2) fun t47 =>
    M0 Tryz.prog (D5 j0) fun t49 =>
    M0 Tryz.prog (O0 Y4 t49 1) fun t50 =>
    Y0 Tryz.prog (X0 Q0 t50) (tick w2) fun t51 =>
    upK Tryz.prog (Z0 aC #[t47,t51]) (tick w2) fun t52 w9 =>
    J1 (t52,()) w9)
   (J1 (t41,()) w2)))))
theorem SE.up{j0 l1:Value}{w:World}{K:Value→World→Prop}(h:SE.pt j0 l1 w K):upK Tryz.prog (Z0 RG #[j0,l1]) w K :=
 upF [4] (.node none .leaf (.node none .leaf (.node none .leaf (.node none .leaf (.node (some [6]) .leaf .leaf))))) [j0,l1] Tryz.func194 ⟨by kernel_rfl,by kernel_rfl,by kernel_rfl,by kernel_rfl⟩ h
def Sd0.pt(a0:Value)(w:World)(K:Value→World→Prop):Prop :=
 M0 Tryz.prog (V3 .geq Q0 (.tmp 3) (.const (.int .i64 0)) a0 (.int .i64 0)) fun t4 =>
 ifB t4
 (M0 Tryz.prog (V3 .lss Q0 (.tmp 6) (.const (.int .i64 16)) a0 (.int .i64 16)) fun t7 =>
  K t7 w)
 (K (.bool false) w)
theorem Sd0.up{a0:Value}{w:World}{K:Value→World→Prop}(h:Sd0.pt a0 w K):upK Tryz.prog (Z0 uR #[a0]) w K :=
 upF [2] .leaf [a0] Tryz.func195 ⟨by kernel_rfl,by kernel_rfl,by kernel_rfl,by kernel_rfl⟩ h
def TE.pt(r0:Value)(w:World)(K:Value→World→Prop):Prop :=
 M0 Tryz.prog (D5 r0) fun t4 =>
 M0 Tryz.prog (O0 I1 t4 4) fun t5 =>
 Y0 Tryz.prog (X0 Q0 t5) w fun t6 =>
 K t6 w
theorem TE.up{r0:Value}{w:World}{K:Value→World→Prop}(h:TE.pt r0 w K):upK Tryz.prog (Z0 rD #[r0]) w K :=
 upF [2] .leaf [r0] Tryz.func196 ⟨by kernel_rfl,by kernel_rfl,by kernel_rfl,by kernel_rfl⟩ h
def BH.pt(r0:Value)(w:World)(K:Value→World→Prop):Prop :=
 M0 Tryz.prog (D5 r0) fun t4 =>
 M0 Tryz.prog (O0 I1 t4 2) fun t5 =>
 Y0 Tryz.prog (X0 U3 t5) w fun t6 =>
 upK Tryz.prog (Z0 X8 #[t6]) w fun t7 w1 =>
 K t7 w1
theorem BH.up{r0:Value}{w:World}{K:Value→World→Prop}(h:BH.pt r0 w K):upK Tryz.prog (Z0 DJ #[r0]) w K :=
 upF [2] .leaf [r0] Tryz.func197 ⟨by kernel_rfl,by kernel_rfl,by kernel_rfl,by kernel_rfl⟩ h
def BP.pt(s0 e1:Value)(w:World)(K:Value→World→Prop):Prop :=
 upK Tryz.prog (oC U1 e1) w fun e3 w1 =>
 M0 Tryz.prog (O0 U1 e3 1) fun t11 =>
 Y0 Tryz.prog (X0 Q0 t11) w1 fun t12 =>
 M0 Tryz.prog (O0 U1 e3 2) fun t13 =>
 Y0 Tryz.prog (X0 Q0 t13) w1 fun t14 =>
 M0 Tryz.prog (O0 U1 e3 3) fun t15 =>
 Y0 Tryz.prog (X0 Q0 t15) w1 fun t16 =>
 upK Tryz.prog (J6 R6 3 #[(0,t12),(1,t14),(2,t16)]) w1 fun t17 w2 =>
 Y0 Tryz.prog (M5 .len #[R6] Q0 #[false] #[t17]) w2 fun t18 =>
 LOOP (X:=Value×Unit) (fun lv3 w3 next3 =>
  M0 Tryz.prog (V3 .lss Q0 (.tmp 19) (.tmp 18) lv3.1 t18) fun t20 =>
  ifB t20
  (M0 Tryz.prog (I5 R6 t17 lv3.1) fun t21 =>
  Y0 Tryz.prog (X0 Q0 t21) w3 fun t22 =>
  upK Tryz.prog (Z0 qD #[t22]) w3 fun t24 w4 =>
  M0 Tryz.prog (sUn .not t24) fun t25 =>
  ifB t25
  (K (.tuple #[(.int .i64 0),(.int .i64 1)]) w4)
  (M0 Tryz.prog (V3 .eql Q0 (.tmp 27) (.const (.int .i64 1099511627776)) t22 (.int .i64 1099511627776)) fun t28 =>
   ifB t28
   (K (.tuple #[(.int .i64 0),(.int .i64 1)]) w4)
   (M0 Tryz.prog (V3 .add Q0 (.tmp 19) (.const (.int .i64 1)) lv3.1 (.int .i64 1)) fun t30 =>
   next3 (t30,()) w4)))
  (M0 Tryz.prog (O0 U1 e3 1) fun t33 =>
  Y0 Tryz.prog (X0 Q0 t33) w3 fun t34 =>
  upK Tryz.prog (Z0 jJ #[s0,t34]) w3 fun t35 w5 =>
  M0 Tryz.prog (U5 t35 0) fun t36 =>
  M0 Tryz.prog (U5 t35 1) fun t37 =>
  upK Tryz.prog (A7 U2) w5 fun p8 w6 =>
  upK Tryz.prog (I4 U2 p8 t36) w6 fun tu w7 =>
  kD (X:=Unit) (fun jv1 w8 =>
   M0 Tryz.prog (O0 U2 p8 3) fun t70 =>
   Y0 Tryz.prog (X0 R6 t70) w8 fun t71 =>
   Y0 Tryz.prog (M5 .len #[R6] Q0 #[false] #[t71]) w8 fun t72 =>
   M0 Tryz.prog (O0 U2 p8 2) fun t73 =>
   Y0 Tryz.prog (X0 Q0 t73) w8 fun t74 =>
   M0 Tryz.prog (O0 U1 e3 3) fun t75 =>
   Y0 Tryz.prog (X0 Q0 t75) w8 fun t76 =>
   M0 Tryz.prog (V3 .sub Q0 (.tmp 74) (.tmp 76) t74 t76) fun t77 =>
   M0 Tryz.prog (V3 .sub Q0 (.tmp 72) (.tmp 77) t72 t77) fun t78 =>
   M0 Tryz.prog (V3 .geq Q0 (.tmp 79) (.const (.int .i64 0)) t78 (.int .i64 0)) fun t80 =>
   ifB t80
   (M0 Tryz.prog (O0 U2 p8 3) fun t81 =>
   Y0 Tryz.prog (X0 R6 t81) w8 fun t82 =>
   M0 Tryz.prog (I5 R6 t82 t78) fun t84 =>
   Y0 Tryz.prog (X0 Q0 t84) w8 fun t85 =>
   K (.tuple #[t85,(.int .i64 5)]) w8)
   (K (.tuple #[(.int .i64 (-1)),(.int .i64 5)]) w8))
  (fun J1 =>
   M0 Tryz.prog (O0 U1 e3 2) fun t39 =>
   Y0 Tryz.prog (X0 Q0 t39) w7 fun t40 =>
   M0 Tryz.prog (O0 U2 p8 1) fun t41 =>
   Y0 Tryz.prog (X0 Q0 t41) w7 fun t42 =>
   M0 Tryz.prog (V3 .lss Q0 (.tmp 40) (.tmp 42) t40 t42) fun t43 =>
   ifB t43
   (K (.tuple #[(.int .i64 0),(.int .i64 18)]) w7)
   (M0 Tryz.prog (O0 U1 e3 2) fun t45 =>
   Y0 Tryz.prog (X0 Q0 t45) w7 fun t46 =>
   M0 Tryz.prog (O0 U2 p8 1) fun t47 =>
   Y0 Tryz.prog (X0 Q0 t47) w7 fun t48 =>
   M0 Tryz.prog (V3 .gtr Q0 (.tmp 46) (.tmp 48) t46 t48) fun t49 =>
   ifB t49
   (K (.tuple #[(.int .i64 0),(.int .i64 25)]) w7)
   (M0 Tryz.prog (O0 U1 e3 3) fun t51 =>
    Y0 Tryz.prog (X0 Q0 t51) w7 fun t52 =>
    M0 Tryz.prog (O0 U2 p8 2) fun t53 =>
    Y0 Tryz.prog (X0 Q0 t53) w7 fun t54 =>
    M0 Tryz.prog (V3 .gtr Q0 (.tmp 52) (.tmp 54) t52 t54) fun t55 =>
    ifB t55
    (K (.tuple #[(.int .i64 0),(.int .i64 19)]) w7)
    (M0 Tryz.prog (sUn .not t37) fun t58 =>
    ifB t58
    (Y0 Tryz.prog (M5 .len #[J4] Q0 #[false] #[s0]) w7 fun t61 =>
     M0 Tryz.prog (V3 .geq Q0 (.tmp 61) (.const (.int .i64 50)) t61 (.int .i64 50)) fun t62 =>
     ifB t62
     (K (.tuple #[(.int .i64 0),(.int .i64 6)]) w7)
     (M0 Tryz.prog (O0 U1 e3 3) fun t65 =>
     Y0 Tryz.prog (X0 Q0 t65) w7 fun t66 =>
     M0 Tryz.prog (O0 U2 p8 2) fun t67 =>
     Y0 Tryz.prog (X0 Q0 t67) w7 fun t68 =>
     M0 Tryz.prog (V3 .eql Q0 (.tmp 66) (.tmp 68) t66 t68) fun t69 =>
     ifB t69
     (K (.tuple #[(.int .i64 0),(.int .i64 0)]) w7)
     (J1 (()) w7)))
    (M0 Tryz.prog (O0 U1 e3 3) fun t65_1 =>
     Y0 Tryz.prog (X0 Q0 t65_1) w7 fun t66_1 =>
     M0 Tryz.prog (O0 U2 p8 2) fun t67_1 =>
     Y0 Tryz.prog (X0 Q0 t67_1) w7 fun t68_1 =>
     M0 Tryz.prog (V3 .eql Q0 (.tmp 66) (.tmp 68) t66_1 t68_1) fun t69_1 =>
     ifB t69_1
     (K (.tuple #[(.int .i64 0),(.int .i64 0)]) w7)
     (J1 (()) w7))))))))
 ((.int .i64 0),()) w2
theorem BP.up{s0 e1:Value}{w:World}{K:Value→World→Prop}(h:BP.pt s0 e1 w K):upK Tryz.prog (Z0 xM #[s0,e1]) w K :=
 upF [4,5] (.node none .leaf (.node none .leaf (.node none .leaf (.node (some []) .leaf .leaf)))) [s0,e1] Tryz.func198 ⟨by kernel_rfl,by kernel_rfl,by kernel_rfl,by kernel_rfl⟩ h
def SI.pt(x0 e1:Value)(w:World)(K:Value→World→Prop):Prop :=
 upK Tryz.prog (oC U1 e1) w fun e3 w1 =>
 M0 Tryz.prog (D5 x0) fun t8 =>
 M0 Tryz.prog (O0 O3 t8 1) fun t9 =>
 Y0 Tryz.prog (X0 Q9 t9) w1 fun t10 =>
 M0 Tryz.prog (GH (.func yC) #[] #[e3]) fun t11 =>
 upK Tryz.prog (Z0 aB #[t10,t11]) w1 fun t12 w2 =>
 M0 Tryz.prog (V3 .lss Q0 (.tmp 13) (.const (.int .i64 0)) t12 (.int .i64 0)) fun t14 =>
 ifB t14
 (K (.int .i64 17) w2)
 (M0 Tryz.prog (O0 U1 e3 7) fun t15 =>
  Y0 Tryz.prog (X0 X4 t15) (tick w2) fun t16 =>
  M0 Tryz.prog (D5 x0) fun t18 =>
  M0 Tryz.prog (O0 O3 t18 1) fun t19 =>
  Y0 Tryz.prog (X0 Q9 t19) (tick w2) fun t20 =>
  M0 Tryz.prog (I5 Q9 t20 t12) fun t22 =>
  M0 Tryz.prog (O0 A8 t22 2) fun t23 =>
  Y0 Tryz.prog (X0 LB t23) (tick w2) fun t24 =>
  upK Tryz.prog (Z0 E9 #[t16,t24,(.func (.func 241) #[] #[])]) (tick w2) fun t25 w3 =>
  M0 Tryz.prog (sUn .not t25) fun t27 =>
  ifB t27
  (K (.int .i64 16) w3)
  (M0 Tryz.prog (O0 U1 e3 7) fun t29 =>
  Y0 Tryz.prog (X0 X4 t29) w3 fun t30 =>
  upK Tryz.prog (Z0 gF #[t30]) w3 fun t31 w4 =>
  M0 Tryz.prog (sUn .not t31) fun t32 =>
  ifB t32
  (K (.int .i64 16) w4)
  (K (.int .i64 0) w4)))
theorem SI.up{x0 e1:Value}{w:World}{K:Value→World→Prop}(h:SI.pt x0 e1 w K):upK Tryz.prog (Z0 nK #[x0,e1]) w K :=
 upF [4] .leaf [x0,e1] Tryz.func199 ⟨by kernel_rfl,by kernel_rfl,by kernel_rfl,by kernel_rfl⟩ h
def tO.pt(s0:Value)(w:World)(K:Value→World→Prop):Prop :=
 Y0 Tryz.prog (M5 .len #[J4] Q0 #[false] #[s0]) w fun t6 =>
 upK Tryz.prog (uM J4 t6 t6) w fun t7 w1 =>
 upK Tryz.prog (M5 .copy #[J4,J4] Q0 #[false,false] #[t7,s0]) w1 fun t10 w2 =>
 Y0 Tryz.prog (M5 .len #[J4] Q0 #[false] #[t7]) w2 fun t12 =>
 LOOP (X:=Value×Unit) (fun lv3 w3 next3 =>
  M0 Tryz.prog (V3 .lss Q0 (.tmp 13) (.tmp 12) lv3.1 t12) fun t14 =>
  ifB t14
  (M0 Tryz.prog (I5 J4 t7 lv3.1) fun t20 =>
  M0 Tryz.prog (O0 U2 t20 3) fun t21 =>
  Y0 Tryz.prog (X0 R6 t21) w3 fun t22 =>
  upK Tryz.prog (Z0 sD #[t22]) w3 fun t23 w4 =>
  M0 Tryz.prog (I5 J4 t7 lv3.1) fun t24 =>
  M0 Tryz.prog (O0 U2 t24 3) fun t25 =>
  upK Tryz.prog (I4 R6 t25 t23) w4 fun tu w5 =>
  M0 Tryz.prog (V3 .add Q0 (.tmp 13) (.const (.int .i64 1)) lv3.1 (.int .i64 1)) fun t26 =>
  next3 (t26,()) w5)
  (K t7 w3))
 ((.int .i64 0),()) w2
theorem tO.up{s0:Value}{w:World}{K:Value→World→Prop}(h:tO.pt s0 w K):upK Tryz.prog (Z0 gD #[s0]) w K :=
 upF [2] .leaf [s0] Tryz.func200 ⟨by kernel_rfl,by kernel_rfl,by kernel_rfl,by kernel_rfl⟩ h
def P9.pt(s0 f1:Value)(w:World)(K:Value→World→Prop):Prop :=
 Y0 Tryz.prog (M5 .len #[J4] Q0 #[false] #[s0]) w fun t7 =>
 LOOP (X:=Value×Unit) (fun lv1 w1 next1 =>
  M0 Tryz.prog (V3 .lss Q0 (.tmp 8) (.tmp 7) lv1.1 t7) fun t9 =>
  ifB t9
  (M0 Tryz.prog (I5 J4 s0 lv1.1) fun t14 =>
  Y0 Tryz.prog (X0 U2 t14) w1 fun t15 =>
  upK Tryz.prog (dA f1 #[t15]) w1 fun t16 w2 =>
  ifB t16
  (K lv1.1 w2)
  (M0 Tryz.prog (V3 .add Q0 (.tmp 8) (.const (.int .i64 1)) lv1.1 (.int .i64 1)) fun t18 =>
   next1 (t18,()) w2))
  (K (.int .i64 (-1)) w1))
 ((.int .i64 0),()) w
theorem P9.up{s0 f1:Value}{w:World}{K:Value→World→Prop}(h:P9.pt s0 f1 w K):upK Tryz.prog (Z0 N_ #[s0,f1]) w K :=
 upF [4] .leaf [s0,f1] Tryz.func201 ⟨by kernel_rfl,by kernel_rfl,by kernel_rfl,by kernel_rfl⟩ h
end Go.Proofs.YtngbebnhegcokaaGreatDoor

namespace Go.Proofs.YtngbebnhegcokaaGreatDoor
set_option linter.unusedVariables false
set_option maxRecDepth 100000
def UB.pt(p0 t1:Value)(w:World)(K:Value→World→Prop):Prop :=
 upK Tryz.prog (oC U2 p0) w fun p2 w1 =>
 M0 Tryz.prog (O0 U2 p2 0) fun t4 =>
 Y0 Tryz.prog (X0 Q0 t4) w1 fun t5 =>
 Y0 Tryz.prog (X0 Q0 t1) w1 fun t6 =>
 M0 Tryz.prog (V3 .eql Q0 (.tmp 5) (.tmp 6) t5 t6) fun t7 =>
 K t7 w1
theorem UB.aQ:UB.pt=fun p0 t1 w K=>FN Tryz.prog Tryz.f202 (VR Tryz.f202) [3] .leaf [p0,t1] w K:=by kernel_rfl
theorem UB.call{p0 t1:Value}{w:World}{K:Value→World→Prop}(h:UB.pt p0 t1 w K):Calls Tryz.prog pG #[p0,t1] w (kP K) :=
 fM (args:=[p0,t1]) Tryz.func202 (by kernel_rfl) (by rw[UB.aQ] at h;exact h)
theorem UB.up{p0 t1:Value}{w:World}{K:Value→World→Prop}(h:Calls Tryz.prog pG #[p0,t1] w (kP K)):upK Tryz.prog (Z0 pG #[p0,t1]) w K :=
 JH (fn:=Tryz.f202) Tryz.func202 (by kernel_rfl) (by kernel_rfl) h
def I8.pt(x0 target1 cmp2:Value)(w:World)(K:Value→World→Prop):Prop :=
 Y0 Tryz.prog (M5 .len #[J4] Q0 #[false] #[x0]) w fun t13 =>
 kD (X:=Value×Unit) (fun jv1 w1 =>
  M0 Tryz.prog (V3 .lss Q0 (.tmp 36) (.tmp 37) jv1.1 t13) fun t38 =>
  ifB t38
  (M0 Tryz.prog (I5 J4 x0 jv1.1) fun t43 =>
  Y0 Tryz.prog (X0 U2 t43) w1 fun t44 =>
  upK Tryz.prog (dA cmp2 #[t44,target1]) w1 fun t46 w2 =>
  M0 Tryz.prog (V3 .eql Q0 (.tmp 46) (.const (.int .i64 0)) t46 (.int .i64 0)) fun t47 =>
  K (.tuple #[jv1.1,t47]) w2)
  (K (.tuple #[jv1.1,(.bool false)]) w1))
 (fun J1 =>
  LOOP (X:=Value×Value×Unit) (fun lv3 w3 next3 =>
  M0 Tryz.prog (V3 .lss Q0 (.tmp 15) (.tmp 16) lv3.1 lv3.2.1) fun t17 =>
  ifB t17
  (M0 Tryz.prog (V3 .add Q0 (.tmp 18) (.tmp 19) lv3.1 lv3.2.1) fun t20 =>
   upK Tryz.prog (bT Q0 Qj0 t20) w3 fun t21 w4 =>
   M0 Tryz.prog (V3 .shr Qj0 (.tmp 21) (.const (.int .u64 1)) t21 (.int .u64 1)) fun t22 =>
   upK Tryz.prog (bT Qj0 Q0 t22) w4 fun t23 w5 =>
   M0 Tryz.prog (I5 J4 x0 t23) fun t27 =>
   Y0 Tryz.prog (X0 U2 t27) w5 fun t28 =>
   upK Tryz.prog (dA cmp2 #[t28,target1]) w5 fun t30 w6 =>
   M0 Tryz.prog (V3 .lss Q0 (.tmp 30) (.const (.int .i64 0)) t30 (.int .i64 0)) fun t31 =>
   ifB t31
   (M0 Tryz.prog (V3 .add Q0 (.tmp 32) (.const (.int .i64 1)) t23 (.int .i64 1)) fun t33 =>
   next3 (t33,lv3.2.1,()) w6)
   (next3 (lv3.1,t23,()) w6))
  (J1 (lv3.1,()) w3))
  ((.int .i64 0),t13,()) w)
theorem I8.up{x0 target1 cmp2:Value}{w:World}{K:Value→World→Prop}(h:I8.pt x0 target1 cmp2 w K):upK Tryz.prog (Z0 H9 #[x0,target1,cmp2]) w K :=
 upF [6,7] (.node none .leaf (.node none .leaf (.node none .leaf (.node (some [9]) .leaf .leaf)))) [x0,target1,cmp2] Tryz.func203 ⟨by kernel_rfl,by kernel_rfl,by kernel_rfl,by kernel_rfl⟩ h
def VB.pt(x0 id1:Value)(w:World)(K:Value→World→Prop):Prop :=
 upK Tryz.prog (oC U2 x0) w fun x2 w1 =>
 M0 Tryz.prog (O0 U2 x2 0) fun t5 =>
 Y0 Tryz.prog (X0 Q0 t5) w1 fun t6 =>
 M0 Tryz.prog (V3 .sub Q0 (.tmp 6) (.tmp 7) t6 id1) fun t8 =>
 K t8 w1
theorem VB.aQ:VB.pt=fun x0 id1 w K=>FN Tryz.prog Tryz.f204 (VR Tryz.f204) [4] .leaf [x0,id1] w K:=by kernel_rfl
theorem VB.call{x0 id1:Value}{w:World}{K:Value→World→Prop}(h:VB.pt x0 id1 w K):Calls Tryz.prog qG #[x0,id1] w (kP K) :=
 fM (args:=[x0,id1]) Tryz.func204 (by kernel_rfl) (by rw[VB.aQ] at h;exact h)
theorem VB.up{x0 id1:Value}{w:World}{K:Value→World→Prop}(h:Calls Tryz.prog qG #[x0,id1] w (kP K)):upK Tryz.prog (Z0 qG #[x0,id1]) w K :=
 JH (fn:=Tryz.f204) Tryz.func204 (by kernel_rfl) (by kernel_rfl) h
def j_.pt(s0 i1 v2:Value)(w:World)(K:Value→World→Prop):Prop :=
 M0 Tryz.prog (y9 J4 s0 (some i1) none none) fun t12 =>
 Y0 Tryz.prog (M5 .len #[J4] Q0 #[false] #[v2]) w fun t14 =>
 M0 Tryz.prog (V3 .eql Q0 (.tmp 15) (.const (.int .i64 0)) t14 (.int .i64 0)) fun t16 =>
 ifB t16
 (K s0 w)
 (Y0 Tryz.prog (M5 .len #[J4] Q0 #[false] #[s0]) w fun t19 =>
  M0 Tryz.prog (V3 .eql Q0 (.tmp 20) (.tmp 21) i1 t19) fun t22 =>
  ifB t22
  (upK Tryz.prog (M5 .append #[J4,J4] J4 #[false,false] #[s0,v2]) w fun t25 w1 =>
  K t25 w1)
  (M0 Tryz.prog (V3 .add Q0 (.tmp 26) (.tmp 27) t19 t14) fun t28 =>
  Y0 Tryz.prog (M5 .cap #[J4] Q0 #[false] #[s0]) w fun t30 =>
  M0 Tryz.prog (V3 .gtr Q0 (.tmp 28) (.tmp 30) t28 t30) fun t31 =>
  ifB t31
  (M0 Tryz.prog (y9 J4 s0 none (some i1) none) fun t34 =>
   M0 Tryz.prog (V3 .add Q0 (.tmp 35) (.tmp 36) t19 t14) fun t37 =>
   M0 Tryz.prog (V3 .sub Q0 (.tmp 37) (.tmp 38) t37 i1) fun t39 =>
   upK Tryz.prog (M5 .append #[J4,Q0] J4 #[false,false] #[t34,t39]) w fun t40 w2 =>
   M0 Tryz.prog (y9 J4 t40 (some i1) none none) fun t43 =>
   upK Tryz.prog (M5 .copy #[J4,J4] Q0 #[false,false] #[t43,v2]) w2 fun t45 w3 =>
   M0 Tryz.prog (V3 .add Q0 (.tmp 47) (.tmp 48) i1 t14) fun t49 =>
   M0 Tryz.prog (y9 J4 t40 (some t49) none none) fun t50 =>
   M0 Tryz.prog (y9 J4 s0 (some i1) none none) fun t53 =>
   upK Tryz.prog (M5 .copy #[J4,J4] Q0 #[false,false] #[t50,t53]) (tick w3) fun t54 w4 =>
   K t40 w4)
  (M0 Tryz.prog (V3 .add Q0 (.tmp 57) (.tmp 58) t19 t14) fun t59 =>
   M0 Tryz.prog (y9 J4 s0 none (some t59) none) fun t60 =>
   M0 Tryz.prog (V3 .add Q0 (.tmp 63) (.tmp 64) i1 t14) fun t65 =>
   M0 Tryz.prog (y9 J4 t60 (some t65) none none) fun t66 =>
   upK Tryz.prog (Z0 UO #[v2,t66]) w fun t67 w5 =>
   M0 Tryz.prog (sUn .not t67) fun t68 =>
   ifB t68
   (M0 Tryz.prog (V3 .add Q0 (.tmp 70) (.tmp 71) i1 t14) fun t72 =>
   M0 Tryz.prog (y9 J4 t60 (some t72) none none) fun t73 =>
   M0 Tryz.prog (y9 J4 t60 (some i1) none none) fun t76 =>
   upK Tryz.prog (M5 .copy #[J4,J4] Q0 #[false,false] #[t73,t76]) (tick w5) fun t77 w6 =>
   M0 Tryz.prog (y9 J4 t60 (some i1) none none) fun t80 =>
   upK Tryz.prog (M5 .copy #[J4,J4] Q0 #[false,false] #[t80,v2]) w6 fun t82 w7 =>
   K t60 w7)
   (M0 Tryz.prog (y9 J4 t60 (some t19) none none) fun t86 =>
   upK Tryz.prog (M5 .copy #[J4,J4] Q0 #[false,false] #[t86,v2]) w5 fun t88 w8 =>
   M0 Tryz.prog (y9 J4 t60 (some i1) none none) fun t91 =>
   upK Tryz.prog (Z0 DN #[t91,t14]) w8 fun t93 w9 =>
   K t60 w9))))
theorem j_.up{s0 i1 v2:Value}{w:World}{K:Value→World→Prop}(h:j_.pt s0 i1 v2 w K):upK Tryz.prog (Z0 xA #[s0,i1,v2]) w K :=
 upF [6] .leaf [s0,i1,v2] Tryz.func205 ⟨by kernel_rfl,by kernel_rfl,by kernel_rfl,by kernel_rfl⟩ h
def V9.pt(s0 del1:Value)(w:World)(K:Value→World→Prop):Prop :=
 upK Tryz.prog (Z0 X_ #[s0,del1]) w fun t10 w1 =>
 M0 Tryz.prog (V3 .eql Q0 (.tmp 11) (.const (.int .i64 (-1))) t10 (.int .i64 (-1))) fun t12 =>
 ifB t12
 (K s0 w1)
 (M0 Tryz.prog (V3 .add Q0 (.tmp 14) (.const (.int .i64 1)) t10 (.int .i64 1)) fun t15 =>
  LOOP (X:=Value×Value×Unit) (fun lv2 w2 next2 =>
  Y0 Tryz.prog (M5 .len #[P7] Q0 #[false] #[s0]) w2 fun t18 =>
  M0 Tryz.prog (V3 .lss Q0 (.tmp 16) (.tmp 18) lv2.2.1 t18) fun t19 =>
  ifB t19
  (kD (X:=Value×Unit) (fun jv1 w3 =>
   M0 Tryz.prog (V3 .add Q0 (.tmp 20) (.const (.int .i64 1)) lv2.2.1 (.int .i64 1)) fun t21 =>
   next2 (jv1.1,t21,()) w3)
   (fun J1 =>
   M0 Tryz.prog (I5 P7 s0 lv2.2.1) fun t24 =>
   Y0 Tryz.prog (X0 R4 t24) w2 fun t25 =>
   upK Tryz.prog (A7 R4) w2 fun v7 w4 =>
   upK Tryz.prog (I4 R4 v7 t25) w4 fun tu w5 =>
   Y0 Tryz.prog (X0 R4 v7) w5 fun t27 =>
   upK Tryz.prog (dA del1 #[t27]) w5 fun t28 w6 =>
   M0 Tryz.prog (sUn .not t28) fun t29 =>
   ifB t29
   (Y0 Tryz.prog (X0 R4 v7) w6 fun t32 =>
    M0 Tryz.prog (I5 P7 s0 lv2.1) fun t33 =>
    upK Tryz.prog (I4 R4 t33 t32) w6 fun tu_1 w7 =>
    M0 Tryz.prog (V3 .add Q0 (.tmp 34) (.const (.int .i64 1)) lv2.1 (.int .i64 1)) fun t35 =>
    J1 (t35,()) w7)
   (J1 (lv2.1,()) w6)))
  (M0 Tryz.prog (y9 P7 s0 (some lv2.1) none none) fun t38 =>
   upK Tryz.prog (M5 .clear #[P7] T_ #[false] #[t38]) w2 fun tu_2 w8 =>
   M0 Tryz.prog (y9 P7 s0 none (some lv2.1) none) fun t41 =>
   K t41 w8))
  (t10,t15,()) w1)
theorem V9.up{s0 del1:Value}{w:World}{K:Value→World→Prop}(h:V9.pt s0 del1 w K):upK Tryz.prog (Z0 R_ #[s0,del1]) w K :=
 upF [4] (.node none .leaf (.node none .leaf (.node none .leaf (.node none (.node none .leaf (.node none (.node none (.node none .leaf (.node (some [5]) .leaf .leaf)) .leaf) .leaf)) .leaf)))) [s0,del1] Tryz.func206 ⟨by kernel_rfl,by kernel_rfl,by kernel_rfl,by kernel_rfl⟩ h
def EA.pt(p0 t1:Value)(w:World)(K:Value→World→Prop):Prop :=
 upK Tryz.prog (oC R4 p0) w fun p2 w1 =>
 M0 Tryz.prog (O0 R4 p2 0) fun t4 =>
 Y0 Tryz.prog (X0 Q0 t4) w1 fun t5 =>
 Y0 Tryz.prog (X0 Q0 t1) w1 fun t6 =>
 M0 Tryz.prog (V3 .eql Q0 (.tmp 5) (.tmp 6) t5 t6) fun t7 =>
 K t7 w1
theorem EA.aQ:EA.pt=fun p0 t1 w K=>FN Tryz.prog Tryz.f207 (VR Tryz.f207) [3] .leaf [p0,t1] w K:=by kernel_rfl
theorem EA.call{p0 t1:Value}{w:World}{K:Value→World→Prop}(h:EA.pt p0 t1 w K):Calls Tryz.prog zD #[p0,t1] w (kP K) :=
 fM (args:=[p0,t1]) Tryz.func207 (by kernel_rfl) (by rw[EA.aQ] at h;exact h)
theorem EA.up{p0 t1:Value}{w:World}{K:Value→World→Prop}(h:Calls Tryz.prog zD #[p0,t1] w (kP K)):upK Tryz.prog (Z0 zD #[p0,t1]) w K :=
 JH (fn:=Tryz.f207) Tryz.func207 (by kernel_rfl) (by kernel_rfl) h
def O8.pt(m0 del1:Value)(w:World)(K:Value→World→Prop):Prop :=
 upK Tryz.prog (Il0 M7 m0) w fun t7 w1 =>
 LOOP (X:=Unit) (fun lv2 w2 next2 =>
  upK Tryz.prog (tt0 t7 false T_) w2 fun t8 w3 =>
  M0 Tryz.prog (U5 t8 0) fun t9 =>
  ifB t9
  (upK Tryz.prog (El0 t7) w3 fun t10 w4 =>
  M0 Tryz.prog (U5 t10 0) fun t11 =>
  M0 Tryz.prog (U5 t10 1) fun t12 =>
  upK Tryz.prog (A7 R4) w4 fun k4 w5 =>
  upK Tryz.prog (I4 R4 k4 t11) w5 fun tu w6 =>
  Y0 Tryz.prog (X0 R4 k4) w6 fun t14 =>
  upK Tryz.prog (dA del1 #[t14,t12]) w6 fun t16 w7 =>
  ifB t16
  (Y0 Tryz.prog (X0 R4 k4) w7 fun t18 =>
   upK Tryz.prog (M5 .delete #[M7,R4] T_ #[false,false] #[m0,t18]) w7 fun tu_1 w8 =>
   next2 (()) w8)
  (next2 (()) w7))
  (K (.tuple #[]) w3))
 (()) w1
theorem O8.up{m0 del1:Value}{w:World}{K:Value→World→Prop}(h:O8.pt m0 del1 w K):upK Tryz.prog (Z0 N9 #[m0,del1]) w K :=
 upF [] .leaf [m0,del1] Tryz.func208 ⟨by kernel_rfl,by kernel_rfl,by kernel_rfl,by kernel_rfl⟩ h
def GA.pt(p0 t1 t2:Value)(w:World)(K:Value→World→Prop):Prop :=
 upK Tryz.prog (oC R4 p0) w fun p3 w1 =>
 M0 Tryz.prog (O0 R4 p3 0) fun t6 =>
 Y0 Tryz.prog (X0 Q0 t6) w1 fun t7 =>
 Y0 Tryz.prog (X0 Q0 t2) w1 fun t8 =>
 M0 Tryz.prog (V3 .eql Q0 (.tmp 7) (.tmp 8) t7 t8) fun t9 =>
 K t9 w1
theorem GA.aQ:GA.pt=fun p0 t1 t2 w K=>FN Tryz.prog Tryz.f209 (VR Tryz.f209) [5] .leaf [p0,t1,t2] w K:=by kernel_rfl
theorem GA.call{p0 t1 t2:Value}{w:World}{K:Value→World→Prop}(h:GA.pt p0 t1 t2 w K):Calls Tryz.prog BD #[p0,t1,t2] w (kP K) :=
 fM (args:=[p0,t1,t2]) Tryz.func209 (by kernel_rfl) (by rw[GA.aQ] at h;exact h)
theorem GA.up{p0 t1 t2:Value}{w:World}{K:Value→World→Prop}(h:Calls Tryz.prog BD #[p0,t1,t2] w (kP K)):upK Tryz.prog (Z0 BD #[p0,t1,t2]) w K :=
 JH (fn:=Tryz.f209) Tryz.func209 (by kernel_rfl) (by kernel_rfl) h
def UQ.pt(l0:Value)(w:World)(K:Value→World→Prop):Prop :=
 upK Tryz.prog (A7 V5) w fun b3 w1 =>
 Y0 Tryz.prog (M5 .len #[Z4] Q0 #[false] #[l0]) w1 fun t7 =>
 LOOP (X:=Value×Unit) (fun lv2 w2 next2 =>
  M0 Tryz.prog (V3 .lss Q0 (.tmp 8) (.tmp 7) lv2.1 t7) fun t9 =>
  ifB t9
  (M0 Tryz.prog (I5 Z4 l0 lv2.1) fun t10 =>
  Y0 Tryz.prog (X0 M3 t10) w2 fun t11 =>
  upK Tryz.prog (Z0 ZE #[t11]) w2 fun t13 w3 =>
  upK Tryz.prog (Z0 G7 #[b3,t13]) w3 fun t14 w4 =>
  M0 Tryz.prog (V3 .add Q0 (.tmp 8) (.const (.int .i64 1)) lv2.1 (.int .i64 1)) fun t15 =>
  next2 (t15,()) w4)
  (upK Tryz.prog (Z0 I9 #[b3]) w2 fun t16 w5 =>
  K t16 w5))
 ((.int .i64 0),()) w1
theorem UQ.up{l0:Value}{w:World}{K:Value→World→Prop}(h:UQ.pt l0 w K):upK Tryz.prog (Z0 oK #[l0]) w K :=
 upF [2] .leaf [l0] Tryz.func210 ⟨by kernel_rfl,by kernel_rfl,by kernel_rfl,by kernel_rfl⟩ h
def tC.pt(s0 del1:Value)(w:World)(K:Value→World→Prop):Prop :=
 upK Tryz.prog (Z0 nE #[s0,del1]) w fun t10 w1 =>
 M0 Tryz.prog (V3 .eql Q0 (.tmp 11) (.const (.int .i64 (-1))) t10 (.int .i64 (-1))) fun t12 =>
 ifB t12
 (K s0 w1)
 (M0 Tryz.prog (V3 .add Q0 (.tmp 14) (.const (.int .i64 1)) t10 (.int .i64 1)) fun t15 =>
  LOOP (X:=Value×Value×Unit) (fun lv2 w2 next2 =>
  Y0 Tryz.prog (M5 .len #[R6] Q0 #[false] #[s0]) w2 fun t18 =>
  M0 Tryz.prog (V3 .lss Q0 (.tmp 16) (.tmp 18) lv2.2.1 t18) fun t19 =>
  ifB t19
  (kD (X:=Value×Unit) (fun jv1 w3 =>
   M0 Tryz.prog (V3 .add Q0 (.tmp 20) (.const (.int .i64 1)) lv2.2.1 (.int .i64 1)) fun t21 =>
   next2 (jv1.1,t21,()) w3)
   (fun J1 =>
   M0 Tryz.prog (I5 R6 s0 lv2.2.1) fun t24 =>
   Y0 Tryz.prog (X0 Q0 t24) w2 fun t25 =>
   upK Tryz.prog (dA del1 #[t25]) w2 fun t28 w4 =>
   M0 Tryz.prog (sUn .not t28) fun t29 =>
   ifB t29
   (M0 Tryz.prog (I5 R6 s0 lv2.1) fun t33 =>
    upK Tryz.prog (I4 Q0 t33 t25) w4 fun tu w5 =>
    M0 Tryz.prog (V3 .add Q0 (.tmp 34) (.const (.int .i64 1)) lv2.1 (.int .i64 1)) fun t35 =>
    J1 (t35,()) w5)
   (J1 (lv2.1,()) w4)))
  (M0 Tryz.prog (y9 R6 s0 (some lv2.1) none none) fun t38 =>
   upK Tryz.prog (M5 .clear #[R6] T_ #[false] #[t38]) w2 fun tu_1 w6 =>
   M0 Tryz.prog (y9 R6 s0 none (some lv2.1) none) fun t41 =>
   K t41 w6))
  (t10,t15,()) w1)
theorem tC.up{s0 del1:Value}{w:World}{K:Value→World→Prop}(h:tC.pt s0 del1 w K):upK Tryz.prog (Z0 ED #[s0,del1]) w K :=
 upF [4] (.node none .leaf (.node none .leaf (.node none .leaf (.node none (.node none .leaf (.node none (.node none (.node none .leaf (.node (some [5]) .leaf .leaf)) .leaf) .leaf)) .leaf)))) [s0,del1] Tryz.func211 ⟨by kernel_rfl,by kernel_rfl,by kernel_rfl,by kernel_rfl⟩ h
def wD.pt(i0 t1:Value)(w:World)(K:Value→World→Prop):Prop :=
 Y0 Tryz.prog (X0 J7 t1) w fun t5 =>
 M0 Tryz.prog (D5 t5) fun t6 =>
 M0 Tryz.prog (O0 I1 t6 0) fun t7 =>
 Y0 Tryz.prog (X0 Q0 t7) w fun t8 =>
 M0 Tryz.prog (V3 .eql Q0 (.tmp 4) (.tmp 8) i0 t8) fun t9 =>
 K t9 w
theorem wD.up{i0 t1:Value}{w:World}{K:Value→World→Prop}(h:wD.pt i0 t1 w K):upK Tryz.prog (Z0 sF #[i0,t1]) w K :=
 upF [3] .leaf [i0,t1] Tryz.func212 ⟨by kernel_rfl,by kernel_rfl,by kernel_rfl,by kernel_rfl⟩ h
def O_.pt(s0 i1 j2:Value)(w:World)(K:Value→World→Prop):Prop :=
 Y0 Tryz.prog (M5 .len #[X6] Q0 #[false] #[s0]) w fun t12 =>
 M0 Tryz.prog (y9 X6 s0 (some i1) (some j2) (some t12)) fun t13 =>
 M0 Tryz.prog (V3 .eql Q0 (.tmp 14) (.tmp 15) i1 j2) fun t16 =>
 ifB t16
 (K s0 w)
 (Y0 Tryz.prog (M5 .len #[X6] Q0 #[false] #[s0]) w fun t19 =>
  M0 Tryz.prog (y9 X6 s0 none (some i1) none) fun t22 =>
  M0 Tryz.prog (y9 X6 s0 (some j2) none none) fun t25 =>
  upK Tryz.prog (M5 .append #[X6,X6] X6 #[false,false] #[t22,t25]) (tick w) fun t26 w1 =>
  Y0 Tryz.prog (M5 .len #[X6] Q0 #[false] #[t26]) w1 fun t29 =>
  M0 Tryz.prog (y9 X6 t26 (some t29) (some t19) none) fun t31 =>
  upK Tryz.prog (M5 .clear #[X6] T_ #[false] #[t31]) w1 fun tu w2 =>
  K t26 w2)
theorem O_.up{s0 i1 j2:Value}{w:World}{K:Value→World→Prop}(h:O_.pt s0 i1 j2 w K):upK Tryz.prog (Z0 eB #[s0,i1,j2]) w K :=
 upF [6] .leaf [s0,i1,j2] Tryz.func213 ⟨by kernel_rfl,by kernel_rfl,by kernel_rfl,by kernel_rfl⟩ h
def vO.pt(m0:Value)(w:World)(K:Value→World→Prop):Prop :=
 upK Tryz.prog (oC Y1 m0) w fun m1 w1 =>
 upK Tryz.prog (A7 F3) w1 fun t2 w2 =>
 Y0 Tryz.prog (X0 Y1 m1) w2 fun t3 =>
 upK Tryz.prog (J6 U_ 1 #[(0,t3)]) w2 fun t4 w3 =>
 M0 Tryz.prog (H6 F3 #[(4,t4)]) fun t5 =>
 upK Tryz.prog (I4 F3 t2 t5) w3 fun tu w4 =>
 U9 Tryz.prog (do loadVar F3 (←asAddr t2)) w4 fun t2_1 =>
 K t2_1 w4
theorem vO.up{m0:Value}{w:World}{K:Value→World→Prop}(h:vO.pt m0 w K):upK Tryz.prog (Z0 A_ #[m0]) w K :=
 upF [] .leaf [m0] Tryz.func214 ⟨by kernel_rfl,by kernel_rfl,by kernel_rfl,by kernel_rfl⟩ h
def fE.pt(r0:Value)(w:World)(K:Value→World→Prop):Prop :=
 upK Tryz.prog (Z0 RB #[r0]) w fun t6 w1 =>
 Y0 Tryz.prog (M5 .len #[R6] Q0 #[false] #[t6]) w1 fun t7 =>
 LOOP (X:=Value×Value×Unit) (fun lv2 w2 next2 =>
  M0 Tryz.prog (V3 .lss Q0 (.tmp 8) (.tmp 7) lv2.2.1 t7) fun t9 =>
  ifB t9
  (M0 Tryz.prog (I5 R6 t6 lv2.2.1) fun t10 =>
  Y0 Tryz.prog (X0 Q0 t10) w2 fun t11 =>
  M0 Tryz.prog (D5 r0) fun t15 =>
  M0 Tryz.prog (O0 I1 t15 7) fun t16 =>
  M0 Tryz.prog (I5 FM t16 t11) fun t17 =>
  Y0 Tryz.prog (X0 Q0 t17) w2 fun t18 =>
  M0 Tryz.prog (M5 .max #[Q0,Q0] Q0 #[false,false] #[lv2.1,t18]) fun t19 =>
  M0 Tryz.prog (V3 .add Q0 (.tmp 8) (.const (.int .i64 1)) lv2.2.1 (.int .i64 1)) fun t20 =>
  next2 (t19,t20,()) w2)
  (M0 Tryz.prog (D5 r0) fun t23 =>
  M0 Tryz.prog (O0 I1 t23 4) fun t24 =>
  Y0 Tryz.prog (X0 Q0 t24) (tick w2) fun t25 =>
  M0 Tryz.prog (V3 .gtr Q0 (.tmp 21) (.tmp 25) lv2.1 t25) fun t26 =>
  ifB t26
  (M0 Tryz.prog (D5 r0) fun t32 =>
   M0 Tryz.prog (O0 I1 t32 1) fun t33 =>
   M0 Tryz.prog (O0 O5 t33 0) fun t34 =>
   Y0 Tryz.prog (X0 Q0 t34) (tick w2) fun t35 =>
   upK Tryz.prog (Z0 C_ #[r0,lv2.1]) (tick w2) fun t30 w3 =>
   Is Tryz.prog (X0 Q0 t34) t35 w3∧M0 Tryz.prog (V3 .eql Q0 (.tmp 30) (.tmp 35) t30 t35) fun t36 =>
   ifB t36
   (M0 Tryz.prog (D5 r0) fun t40 =>
   M0 Tryz.prog (O0 I1 t40 4) fun t41 =>
   upK Tryz.prog (I4 Q0 t41 lv2.1) w3 fun tu w4 =>
   K (.tuple #[]) w4)
   (K (.tuple #[]) w3))
  (K (.tuple #[]) (tick w2))))
 ((.int .i64 0),(.int .i64 0),()) w1
theorem fE.up{r0:Value}{w:World}{K:Value→World→Prop}(h:fE.pt r0 w K):upK Tryz.prog (Z0 ZF #[r0]) w K :=
 upF [] .leaf [r0] Tryz.func215 ⟨by kernel_rfl,by kernel_rfl,by kernel_rfl,by kernel_rfl⟩ h
def h_.pt(s0 f1:Value)(w:World)(K:Value→World→Prop):Prop :=
 upK Tryz.prog (Z0 bB #[s0,f1]) w fun t7 w1 =>
 M0 Tryz.prog (V3 .geq Q0 (.tmp 7) (.const (.int .i64 0)) t7 (.int .i64 0)) fun t8 =>
 K t8 w1
theorem h_.up{s0 f1:Value}{w:World}{K:Value→World→Prop}(h:h_.pt s0 f1 w K):upK Tryz.prog (Z0 uA #[s0,f1]) w K :=
 upF [4] .leaf [s0,f1] Tryz.func216 ⟨by kernel_rfl,by kernel_rfl,by kernel_rfl,by kernel_rfl⟩ h
def OG.pt(v0:Value)(w:World)(K:Value→World→Prop):Prop :=
 upK Tryz.prog (oC R3 v0) w fun v1 w1 =>
 Y0 Tryz.prog (X0 R3 v1) w1 fun t3 =>
 upK Tryz.prog (Z0 nT #[t3]) w1 fun t4 w2 =>
 M0 Tryz.prog (sUn .not t4) fun t5 =>
 K t5 w2
theorem OG.aQ:OG.pt=fun v0 w K=>FN Tryz.prog Tryz.f217 (VR Tryz.f217) [2] .leaf [v0] w K:=by kernel_rfl
theorem OG.call{v0:Value}{w:World}{K:Value→World→Prop}(h:OG.pt v0 w K):Calls Tryz.prog qP #[v0] w (kP K) :=
 fM (args:=[v0]) Tryz.func217 (by kernel_rfl) (by rw[OG.aQ] at h;exact h)
theorem OG.up{v0:Value}{w:World}{K:Value→World→Prop}(h:Calls Tryz.prog qP #[v0] w (kP K)):upK Tryz.prog (Z0 qP #[v0]) w K :=
 JH (fn:=Tryz.f217) Tryz.func217 (by kernel_rfl) (by kernel_rfl) h
def fT.pt(v0:Value)(w:World)(K:Value→World→Prop):Prop :=
 upK Tryz.prog (oC R3 v0) w fun v1 w1 =>
 M0 Tryz.prog (O0 R3 v1 0) fun t3 =>
 Y0 Tryz.prog (X0 Q0 t3) w1 fun t4 =>
 M0 Tryz.prog (V3 .eql Q0 (.tmp 4) (.const (.int .i64 0)) t4 (.int .i64 0)) fun t6 =>
 ifB t6
 (Y0 Tryz.prog (X0 R3 v1) (tick w1) fun t7 =>
  M0 Tryz.prog (O0 R3 v1 1) fun t8 =>
  Y0 Tryz.prog (X0 Q0 t8) (tick w1) fun t9 =>
  upK Tryz.prog (Z0 FV #[t9]) (tick w1) fun t10 w2 =>
  Is Tryz.prog (X0 R3 v1) t7 w2∧M0 Tryz.prog (V3 .eql R3 (.tmp 7) (.tmp 10) t7 t10) fun t11 =>
  K t11 w2)
 (M0 Tryz.prog (V3 .eql Q0 (.tmp 4) (.const (.int .i64 1)) t4 (.int .i64 1)) fun t13 =>
  ifB t13
  (Y0 Tryz.prog (X0 R3 v1) (tick w1) fun t14 =>
  M0 Tryz.prog (O0 R3 v1 2) fun t15 =>
  Y0 Tryz.prog (X0 M3 t15) (tick w1) fun t16 =>
  upK Tryz.prog (Z0 FU #[t16]) (tick w1) fun t17 w3 =>
  Is Tryz.prog (X0 R3 v1) t14 w3∧M0 Tryz.prog (V3 .eql R3 (.tmp 14) (.tmp 17) t14 t17) fun t18 =>
  ifB t18
  (M0 Tryz.prog (O0 R3 v1 2) fun t20 =>
   Y0 Tryz.prog (X0 M3 t20) w3 fun t21 =>
   Y0 Tryz.prog (M5 .len #[M3] Q0 #[false] #[t21]) w3 fun t22 =>
   M0 Tryz.prog (V3 .leq Q0 (.tmp 22) (.const (.int .i64 200)) t22 (.int .i64 200)) fun t23 =>
   K t23 w3)
  (K (.bool false) w3))
  (Y0 Tryz.prog (X0 R3 v1) (tick w1) fun t25 =>
  upK Tryz.prog (Z0 NQ #[(.bool false)]) (tick w1) fun t26 w4 =>
  Is Tryz.prog (X0 R3 v1) t25 w4∧M0 Tryz.prog (V3 .eql R3 (.tmp 25) (.tmp 26) t25 t26) fun t27 =>
  ifB t27
  (K (.bool true) w4)
  (Y0 Tryz.prog (X0 R3 v1) w4 fun t29 =>
   upK Tryz.prog (Z0 NQ #[(.bool true)]) w4 fun t30 w5 =>
   Is Tryz.prog (X0 R3 v1) t29 w5∧M0 Tryz.prog (V3 .eql R3 (.tmp 29) (.tmp 30) t29 t30) fun t31 =>
   K t31 w5)))
theorem fT.up{v0:Value}{w:World}{K:Value→World→Prop}(h:fT.pt v0 w K):upK Tryz.prog (Z0 nT #[v0]) w K :=
 upF [2] .leaf [v0] Tryz.func218 ⟨by kernel_rfl,by kernel_rfl,by kernel_rfl,by kernel_rfl⟩ h
def IM.pt(d0 f1 at2 s3:Value)(w:World)(K:Value→World→Prop):Prop :=
 upK Tryz.prog (Z0 LH #[d0]) w fun t12 w1 =>
 upK Tryz.prog (Z0 GN #[d0,f1,at2,s3]) w1 fun t17 w2 =>
 ifB t12
 (M0 Tryz.prog (D5 d0) fun t21 =>
  M0 Tryz.prog (O0 P5 t21 6) fun t22 =>
  Y0 Tryz.prog (X0 R6 t22) w2 fun t23 =>
  upK Tryz.prog (Z0 lG #[d0,t23]) w2 fun t24 w3 =>
  K (.int .i64 9) w3)
 (K t17 w2)
theorem IM.up{d0 f1 at2 s3:Value}{w:World}{K:Value→World→Prop}(h:IM.pt d0 f1 at2 s3 w K):upK Tryz.prog (Z0 mG #[d0,f1,at2,s3]) w K :=
 upF [8] .leaf [d0,f1,at2,s3] Tryz.func235 ⟨by kernel_rfl,by kernel_rfl,by kernel_rfl,by kernel_rfl⟩ h
def JS.pt(slot0 s1:Value)(w:World)(K:Value→World→Prop):Prop :=
 upK Tryz.prog (bT Q0 p_ slot0) w fun t8 w1 =>
 upK Tryz.prog (J6 WA 1 #[(0,t8)]) w1 fun t9 w2 =>
 Y0 Tryz.prog (M5 .len #[M3] Q0 #[false] #[s1]) w2 fun t11 =>
 LOOP (X:=Value×Value×Unit) (fun lv3 w3 next3 =>
  Y0 Tryz.prog (M5 .len #[WA] Q0 #[false] #[lv3.1]) w3 fun t13 =>
  M0 Tryz.prog (V3 .lss Q0 (.tmp 13) (.const (.int .i64 5)) t13 (.int .i64 5)) fun t14 =>
  ifB t14
  (upK Tryz.prog (bT Q0 p_ lv3.2.1) w3 fun t19 w4 =>
  upK Tryz.prog (J6 WA 1 #[(0,t19)]) w4 fun t20 w5 =>
  upK Tryz.prog (M5 .append #[WA,WA] WA #[false,false] #[lv3.1,t20]) w5 fun t21 w6 =>
  M0 Tryz.prog (V3 .shr Q0 (.tmp 15) (.const (.int .u64 8)) lv3.2.1 (.int .u64 8)) fun t16 =>
  next3 (t21,t16,()) w6)
  (upK Tryz.prog (bT WA M3 lv3.1) w3 fun t23 w7 =>
  K t23 w7))
 (t9,t11,()) w2
theorem JS.up{slot0 s1:Value}{w:World}{K:Value→World→Prop}(h:JS.pt slot0 s1 w K):upK Tryz.prog (Z0 nP #[slot0,s1]) w K :=
 upF [4] .leaf [slot0,s1] Tryz.func236 ⟨by kernel_rfl,by kernel_rfl,by kernel_rfl,by kernel_rfl⟩ h
def EG.pt(j0 bytes1 n2:Value)(w:World)(K:Value→World→Prop):Prop :=
 M0 Tryz.prog (D5 j0) fun t9 =>
 M0 Tryz.prog (O0 Y4 t9 2) fun t10 =>
 Y0 Tryz.prog (X0 V8 t10) (tick w) fun t11 =>
 upK Tryz.prog (Z0 J8 #[bytes1]) (tick w) fun t13 w1 =>
 Is Tryz.prog (X0 V8 t10) t11 w1∧upK Tryz.prog (Z0 J8 #[n2]) w1 fun t15 w2 =>
 Is Tryz.prog (X0 V8 t10) t11 w2∧M0 Tryz.prog (V3 .add M3 (.tmp 13) (.tmp 15) t13 t15) fun t16 =>
 upK Tryz.prog (Z0 wM #[t11,t16]) w2 fun t17 w3 =>
 M0 Tryz.prog (V3 .neq D7 (.tmp 19) (.const (.int .i64 0)) t17 (.int .i64 0)) fun t20 =>
 M0 Tryz.prog (D5 j0) fun t21 =>
 M0 Tryz.prog (O0 Y4 t21 5) fun t22 =>
 upK Tryz.prog (I4 SB t22 t20) w3 fun tu w4 =>
 K t17 w4
theorem EG.up{j0 bytes1 n2:Value}{w:World}{K:Value→World→Prop}(h:EG.pt j0 bytes1 n2 w K):upK Tryz.prog (Z0 KE #[j0,bytes1,n2]) w K :=
 upF [6] .leaf [j0,bytes1,n2] Tryz.func237 ⟨by kernel_rfl,by kernel_rfl,by kernel_rfl,by kernel_rfl⟩ h
def K_.pt(s0 f1:Value)(w:World)(K:Value→World→Prop):Prop :=
 Y0 Tryz.prog (M5 .len #[Q9] Q0 #[false] #[s0]) w fun t7 =>
 LOOP (X:=Value×Unit) (fun lv1 w1 next1 =>
  M0 Tryz.prog (V3 .lss Q0 (.tmp 8) (.tmp 7) lv1.1 t7) fun t9 =>
  ifB t9
  (M0 Tryz.prog (I5 Q9 s0 lv1.1) fun t14 =>
  Y0 Tryz.prog (X0 A8 t14) w1 fun t15 =>
  upK Tryz.prog (dA f1 #[t15]) w1 fun t16 w2 =>
  ifB t16
  (K lv1.1 w2)
  (M0 Tryz.prog (V3 .add Q0 (.tmp 8) (.const (.int .i64 1)) lv1.1 (.int .i64 1)) fun t18 =>
   next1 (t18,()) w2))
  (K (.int .i64 (-1)) w1))
 ((.int .i64 0),()) w
theorem K_.up{s0 f1:Value}{w:World}{K:Value→World→Prop}(h:K_.pt s0 f1 w K):upK Tryz.prog (Z0 aB #[s0,f1]) w K :=
 upF [4] .leaf [s0,f1] Tryz.func238 ⟨by kernel_rfl,by kernel_rfl,by kernel_rfl,by kernel_rfl⟩ h
def F_.pt(k0 t1:Value)(w:World)(K:Value→World→Prop):Prop :=
 upK Tryz.prog (oC A8 k0) w fun k2 w1 =>
 M0 Tryz.prog (O0 A8 k2 0) fun t4 =>
 Y0 Tryz.prog (X0 M3 t4) w1 fun t5 =>
 M0 Tryz.prog (O0 U1 t1 4) fun t6 =>
 Y0 Tryz.prog (X0 M3 t6) w1 fun t7 =>
 M0 Tryz.prog (V3 .eql M3 (.tmp 5) (.tmp 7) t5 t7) fun t8 =>
 ifB t8
 (M0 Tryz.prog (O0 A8 k2 1) fun t10 =>
  Y0 Tryz.prog (X0 Q0 t10) w1 fun t11 =>
  M0 Tryz.prog (O0 U1 t1 5) fun t12 =>
  Y0 Tryz.prog (X0 Q0 t12) w1 fun t13 =>
  M0 Tryz.prog (V3 .eql Q0 (.tmp 11) (.tmp 13) t11 t13) fun t14 =>
  K t14 w1)
 (K (.bool false) w1)
theorem F_.aQ:F_.pt=fun k0 t1 w K=>FN Tryz.prog Tryz.f239 (VR Tryz.f239) [3] .leaf [k0,t1] w K:=by kernel_rfl
theorem F_.call{k0 t1:Value}{w:World}{K:Value→World→Prop}(h:F_.pt k0 t1 w K):Calls Tryz.prog yC #[k0,t1] w (kP K) :=
 fM (args:=[k0,t1]) Tryz.func239 (by kernel_rfl) (by rw[F_.aQ] at h;exact h)
theorem F_.up{k0 t1:Value}{w:World}{K:Value→World→Prop}(h:Calls Tryz.prog yC #[k0,t1] w (kP K)):upK Tryz.prog (Z0 yC #[k0,t1]) w K :=
 JH (fn:=Tryz.f239) Tryz.func239 (by kernel_rfl) (by kernel_rfl) h
def F8.pt(s10 s21 eq2:Value)(w:World)(K:Value→World→Prop):Prop :=
 Y0 Tryz.prog (M5 .len #[X4] Q0 #[false] #[s10]) w fun t11 =>
 Y0 Tryz.prog (M5 .len #[LB] Q0 #[false] #[s21]) w fun t13 =>
 M0 Tryz.prog (V3 .neq Q0 (.tmp 11) (.tmp 13) t11 t13) fun t14 =>
 ifB t14
 (K (.bool false) w)
 (Y0 Tryz.prog (M5 .len #[X4] Q0 #[false] #[s10]) w fun t16 =>
  LOOP (X:=Value×Unit) (fun lv1 w1 next1 =>
  M0 Tryz.prog (V3 .lss Q0 (.tmp 17) (.tmp 16) lv1.1 t16) fun t18 =>
  ifB t18
  (M0 Tryz.prog (I5 X4 s10 lv1.1) fun t20 =>
   Y0 Tryz.prog (X0 R3 t20) w1 fun t21 =>
   upK Tryz.prog (A7 R3) w1 fun v18 w2 =>
   upK Tryz.prog (I4 R3 v18 t21) w2 fun tu w3 =>
   M0 Tryz.prog (I5 LB s21 lv1.1) fun t24 =>
   Y0 Tryz.prog (X0 iB t24) w3 fun t25 =>
   upK Tryz.prog (A7 iB) w3 fun v29 w4 =>
   upK Tryz.prog (I4 iB v29 t25) w4 fun tu_1 w5 =>
   Y0 Tryz.prog (X0 R3 v18) w5 fun t27 =>
   Y0 Tryz.prog (X0 iB v29) w5 fun t28 =>
   upK Tryz.prog (dA eq2 #[t27,t28]) w5 fun t29 w6 =>
   M0 Tryz.prog (sUn .not t29) fun t30 =>
   ifB t30
   (K (.bool false) w6)
   (M0 Tryz.prog (V3 .add Q0 (.tmp 17) (.const (.int .i64 1)) lv1.1 (.int .i64 1)) fun t31 =>
   next1 (t31,()) w6))
  (K (.bool true) w1))
  ((.int .i64 0),()) w)
theorem F8.up{s10 s21 eq2:Value}{w:World}{K:Value→World→Prop}(h:F8.pt s10 s21 eq2 w K):upK Tryz.prog (Z0 E9 #[s10,s21,eq2]) w K :=
 upF [6] .leaf [s10,s21,eq2] Tryz.func240 ⟨by kernel_rfl,by kernel_rfl,by kernel_rfl,by kernel_rfl⟩ h
def G_.pt(v0 c1:Value)(w:World)(K:Value→World→Prop):Prop :=
 upK Tryz.prog (oC R3 v0) w fun v2 w1 =>
 upK Tryz.prog (oC iB c1) w1 fun c3 w2 =>
 M0 Tryz.prog (O0 R3 v2 0) fun t5 =>
 Y0 Tryz.prog (X0 Q0 t5) w2 fun t6 =>
 M0 Tryz.prog (O0 iB c3 1) fun t7 =>
 Y0 Tryz.prog (X0 Q0 t7) w2 fun t8 =>
 M0 Tryz.prog (V3 .eql Q0 (.tmp 6) (.tmp 8) t6 t8) fun t9 =>
 K t9 w2
theorem G_.aQ:G_.pt=fun v0 c1 w K=>FN Tryz.prog Tryz.f241 (VR Tryz.f241) [4] .leaf [v0,c1] w K:=by kernel_rfl
theorem G_.call{v0 c1:Value}{w:World}{K:Value→World→Prop}(h:G_.pt v0 c1 w K):Calls Tryz.prog zC #[v0,c1] w (kP K) :=
 fM (args:=[v0,c1]) Tryz.func241 (by kernel_rfl) (by rw[G_.aQ] at h;exact h)
theorem G_.up{v0 c1:Value}{w:World}{K:Value→World→Prop}(h:Calls Tryz.prog zC #[v0,c1] w (kP K)):upK Tryz.prog (Z0 zC #[v0,c1]) w K :=
 JH (fn:=Tryz.f241) Tryz.func241 (by kernel_rfl) (by kernel_rfl) h
def Z9.pt(s0 f1:Value)(w:World)(K:Value→World→Prop):Prop :=
 Y0 Tryz.prog (M5 .len #[P7] Q0 #[false] #[s0]) w fun t7 =>
 LOOP (X:=Value×Unit) (fun lv1 w1 next1 =>
  M0 Tryz.prog (V3 .lss Q0 (.tmp 8) (.tmp 7) lv1.1 t7) fun t9 =>
  ifB t9
  (M0 Tryz.prog (I5 P7 s0 lv1.1) fun t14 =>
  Y0 Tryz.prog (X0 R4 t14) w1 fun t15 =>
  upK Tryz.prog (dA f1 #[t15]) w1 fun t16 w2 =>
  ifB t16
  (K lv1.1 w2)
  (M0 Tryz.prog (V3 .add Q0 (.tmp 8) (.const (.int .i64 1)) lv1.1 (.int .i64 1)) fun t18 =>
   next1 (t18,()) w2))
  (K (.int .i64 (-1)) w1))
 ((.int .i64 0),()) w
theorem Z9.up{s0 f1:Value}{w:World}{K:Value→World→Prop}(h:Z9.pt s0 f1 w K):upK Tryz.prog (Z0 X_ #[s0,f1]) w K :=
 upF [4] .leaf [s0,f1] Tryz.func244 ⟨by kernel_rfl,by kernel_rfl,by kernel_rfl,by kernel_rfl⟩ h
def MC.pt(s0 f1:Value)(w:World)(K:Value→World→Prop):Prop :=
 Y0 Tryz.prog (M5 .len #[R6] Q0 #[false] #[s0]) w fun t7 =>
 LOOP (X:=Value×Unit) (fun lv1 w1 next1 =>
  M0 Tryz.prog (V3 .lss Q0 (.tmp 8) (.tmp 7) lv1.1 t7) fun t9 =>
  ifB t9
  (M0 Tryz.prog (I5 R6 s0 lv1.1) fun t14 =>
  Y0 Tryz.prog (X0 Q0 t14) w1 fun t15 =>
  upK Tryz.prog (dA f1 #[t15]) w1 fun t16 w2 =>
  ifB t16
  (K lv1.1 w2)
  (M0 Tryz.prog (V3 .add Q0 (.tmp 8) (.const (.int .i64 1)) lv1.1 (.int .i64 1)) fun t18 =>
   next1 (t18,()) w2))
  (K (.int .i64 (-1)) w1))
 ((.int .i64 0),()) w
theorem MC.up{s0 f1:Value}{w:World}{K:Value→World→Prop}(h:MC.pt s0 f1 w K):upK Tryz.prog (Z0 nE #[s0,f1]) w K :=
 upF [4] .leaf [s0,f1] Tryz.func245 ⟨by kernel_rfl,by kernel_rfl,by kernel_rfl,by kernel_rfl⟩ h
def L_.pt(s0 f1:Value)(w:World)(K:Value→World→Prop):Prop :=
 Y0 Tryz.prog (M5 .len #[X4] Q0 #[false] #[s0]) w fun t7 =>
 LOOP (X:=Value×Unit) (fun lv1 w1 next1 =>
  M0 Tryz.prog (V3 .lss Q0 (.tmp 8) (.tmp 7) lv1.1 t7) fun t9 =>
  ifB t9
  (M0 Tryz.prog (I5 X4 s0 lv1.1) fun t14 =>
  Y0 Tryz.prog (X0 R3 t14) w1 fun t15 =>
  upK Tryz.prog (dA f1 #[t15]) w1 fun t16 w2 =>
  ifB t16
  (K lv1.1 w2)
  (M0 Tryz.prog (V3 .add Q0 (.tmp 8) (.const (.int .i64 1)) lv1.1 (.int .i64 1)) fun t18 =>
   next1 (t18,()) w2))
  (K (.int .i64 (-1)) w1))
 ((.int .i64 0),()) w
theorem L_.up{s0 f1:Value}{w:World}{K:Value→World→Prop}(h:L_.pt s0 f1 w K):upK Tryz.prog (Z0 bB #[s0,f1]) w K :=
 upF [4] .leaf [s0,f1] Tryz.func246 ⟨by kernel_rfl,by kernel_rfl,by kernel_rfl,by kernel_rfl⟩ h
def lX.pt(n0:Value)(w:World)(K:Value→World→Prop):Prop :=
 upK Tryz.prog (A7 R3) w fun t2 w1 =>
 M0 Tryz.prog (H6 R3 #[(0,(.int .i64 0)),(1,n0)]) fun t4 =>
 upK Tryz.prog (I4 R3 t2 t4) w1 fun tu w2 =>
 U9 Tryz.prog (do loadVar R3 (←asAddr t2)) w2 fun t2_1 =>
 K t2_1 w2
theorem lX.up{n0:Value}{w:World}{K:Value→World→Prop}(h:lX.pt n0 w K):upK Tryz.prog (Z0 FV #[n0]) w K :=
 upF [] .leaf [n0] Tryz.func247 ⟨by kernel_rfl,by kernel_rfl,by kernel_rfl,by kernel_rfl⟩ h
def sV.pt(s0:Value)(w:World)(K:Value→World→Prop):Prop :=
 upK Tryz.prog (A7 R3) w fun t2 w1 =>
 M0 Tryz.prog (H6 R3 #[(0,(.int .i64 1)),(2,s0)]) fun t4 =>
 upK Tryz.prog (I4 R3 t2 t4) w1 fun tu w2 =>
 U9 Tryz.prog (do loadVar R3 (←asAddr t2)) w2 fun t2_1 =>
 K t2_1 w2
theorem sV.up{s0:Value}{w:World}{K:Value→World→Prop}(h:sV.pt s0 w K):upK Tryz.prog (Z0 FU #[s0]) w K :=
 upF [] .leaf [s0] Tryz.func248 ⟨by kernel_rfl,by kernel_rfl,by kernel_rfl,by kernel_rfl⟩ h
def rV.pt(b0:Value)(w:World)(K:Value→World→Prop):Prop :=
 upK Tryz.prog (A7 R3) w fun t2 w1 =>
 ifB b0
 (M0 Tryz.prog (H6 R3 #[(0,(.int .i64 2)),(1,(.int .i64 1))]) fun t4 =>
  upK Tryz.prog (I4 R3 t2 t4) w1 fun tu w2 =>
  U9 Tryz.prog (do loadVar R3 (←asAddr t2)) w2 fun t2_1 =>
  K t2_1 w2)
 (M0 Tryz.prog (H6 R3 #[(0,(.int .i64 2))]) fun t5 =>
  upK Tryz.prog (I4 R3 t2 t5) w1 fun tu_1 w3 =>
  U9 Tryz.prog (do loadVar R3 (←asAddr t2)) w3 fun t2_2 =>
  K t2_2 w3)
theorem rV.up{b0:Value}{w:World}{K:Value→World→Prop}(h:rV.pt b0 w K):upK Tryz.prog (Z0 NQ #[b0]) w K :=
 upF [] .leaf [b0] Tryz.func249 ⟨by kernel_rfl,by kernel_rfl,by kernel_rfl,by kernel_rfl⟩ h
def JM.pt(d0 f1 at2 s3:Value)(w:World)(K:Value→World→Prop):Prop :=
 upK Tryz.prog (Z0 iJ #[d0,f1]) w fun t15 w1 =>
 M0 Tryz.prog (V3 .neq D7 (.tmp 16) (.const (.int .i64 0)) t15 (.int .i64 0)) fun t17 =>
 ifB t17
 (K t15 w1)
 (M0 Tryz.prog (V3 .lss Q0 (.tmp 20) (.const (.int .i64 0)) at2 (.int .i64 0)) fun t21 =>
  ifB t21
  (K (.int .i64 1) w1)
  (M0 Tryz.prog (V3 .gtr Q0 (.tmp 23) (.const (.int .i64 16777216)) at2 (.int .i64 16777216)) fun t24 =>
  ifB t24
  (K (.int .i64 6) w1)
  (Y0 Tryz.prog (M5 .len #[M3] Q0 #[false] #[s3]) w1 fun t27 =>
   M0 Tryz.prog (V3 .sub Q0 (.const (.int .i64 16777216)) (.tmp 28) (.int .i64 16777216) at2) fun t29 =>
   M0 Tryz.prog (V3 .gtr Q0 (.tmp 27) (.tmp 29) t27 t29) fun t30 =>
   ifB t30
   (K (.int .i64 6) w1)
   (M0 Tryz.prog (V3 .eql M3 (.tmp 33) (.const (.string ⟨#[]⟩)) s3 (.string ⟨#[]⟩)) fun t34 =>
   ifB t34
   (K (.int .i64 0) w1)
   (M0 Tryz.prog (D5 d0) fun t36 =>
    M0 Tryz.prog (O0 P5 t36 0) fun t37 =>
    Y0 Tryz.prog (X0 O6 t37) w1 fun t38 =>
    Y0 Tryz.prog (XJ O6 t38 f1 false) w1 fun t40 =>
    upK Tryz.prog (A7 L8) w1 fun x10 w2 =>
    upK Tryz.prog (I4 L8 x10 t40) w2 fun tu w3 =>
    M0 Tryz.prog (O0 L8 x10 0) fun t41 =>
    Y0 Tryz.prog (X0 M3 t41) w3 fun t42 =>
    upK Tryz.prog (Z0 DU #[t42,at2,s3]) w3 fun t45 w4 =>
    M0 Tryz.prog (O0 L8 x10 0) fun t46 =>
    upK Tryz.prog (I4 M3 t46 t45) w4 fun tu_1 w5 =>
    M0 Tryz.prog (D5 d0) fun t48 =>
    M0 Tryz.prog (O0 P5 t48 0) fun t49 =>
    Y0 Tryz.prog (X0 O6 t49) (tick w5) fun t50 =>
    Y0 Tryz.prog (X0 L8 x10) (tick w5) fun t52 =>
    upK Tryz.prog (iX O6 t50 f1 t52) (tick w5) fun tu_2 w6 =>
    M0 Tryz.prog (V3 .quo Q0 (.tmp 53) (.const (.int .i64 64)) at2 (.int .i64 64)) fun t54 =>
    LOOP (X:=Value×Unit) (fun lv7 w7 next7 =>
    Y0 Tryz.prog (M5 .len #[M3] Q0 #[false] #[s3]) w7 fun t58 =>
    M0 Tryz.prog (V3 .add Q0 (.tmp 56) (.tmp 58) at2 t58) fun t59 =>
    M0 Tryz.prog (V3 .sub Q0 (.tmp 59) (.const (.int .i64 1)) t59 (.int .i64 1)) fun t60 =>
    M0 Tryz.prog (V3 .quo Q0 (.tmp 60) (.const (.int .i64 64)) t60 (.int .i64 64)) fun t61 =>
    M0 Tryz.prog (V3 .leq Q0 (.tmp 55) (.tmp 61) lv7.1 t61) fun t62 =>
    ifB t62
    (kD (X:=Unit) (fun jv1 w8 =>
     M0 Tryz.prog (V3 .add Q0 (.tmp 63) (.const (.int .i64 1)) lv7.1 (.int .i64 1)) fun t64 =>
     next7 (t64,()) w8)
     (fun J1 =>
     M0 Tryz.prog (H6 R4 #[(0,f1),(1,lv7.1)]) fun t67 =>
     upK Tryz.prog (A7 R4) w7 fun p12 w9 =>
     upK Tryz.prog (I4 R4 p12 t67) w9 fun tu_3 w10 =>
     M0 Tryz.prog (D5 d0) fun t69 =>
     M0 Tryz.prog (O0 P5 t69 2) fun t70 =>
     Y0 Tryz.prog (X0 M7 t70) (tick w10) fun t71 =>
     Y0 Tryz.prog (X0 R4 p12) (tick w10) fun t72 =>
     Y0 Tryz.prog (XJ M7 t71 t72 false) (tick w10) fun t73 =>
     M0 Tryz.prog (sUn .not t73) fun t74 =>
     ifB t74
     (M0 Tryz.prog (D5 d0) fun t77 =>
      M0 Tryz.prog (O0 P5 t77 2) fun t78 =>
      Y0 Tryz.prog (X0 M7 t78) (tick (tick w10)) fun t79 =>
      Y0 Tryz.prog (X0 R4 p12) (tick (tick w10)) fun t80 =>
      M0 Tryz.prog (D5 d0) fun t82 =>
      M0 Tryz.prog (O0 P5 t82 1) fun t83 =>
      Y0 Tryz.prog (X0 P7 t83) (tick (tick w10)) fun t84 =>
      Y0 Tryz.prog (X0 R4 p12) (tick (tick w10)) fun t85 =>
      upK Tryz.prog (J6 P7 1 #[(0,t85)]) (tick (tick w10)) fun t86 w11 =>
      Is Tryz.prog (X0 P7 t83) t84 w11∧Is Tryz.prog (X0 R4 p12) t80 w11∧Is Tryz.prog (X0 M7 t78) t79 w11∧upK Tryz.prog (M5 .append #[P7,P7] P7 #[false,false] #[t84,t86]) w11 fun t87 w12 =>
      Is Tryz.prog (X0 R4 p12) t80 w12∧Is Tryz.prog (X0 M7 t78) t79 w12∧M0 Tryz.prog (D5 d0) fun t88 =>
      M0 Tryz.prog (O0 P5 t88 1) fun t89 =>
      upK Tryz.prog (I4 P7 t89 t87) w12 fun tu_4 w13 =>
      Is Tryz.prog (X0 R4 p12) t80 w13∧upK Tryz.prog (Fb0 M7 t79 t80) w13 fun t90 w14 =>
      M0 Tryz.prog (U5 t90 1) fun t91 =>
      upK Tryz.prog (DW M7 t79 t91 (.bool true)) w14 fun tu_5 w15 =>
      J1 (()) w15)
     (J1 (()) (tick w10))))
    (K (.int .i64 0) w7))
    (t54,()) w6)))))
theorem JM.up{d0 f1 at2 s3:Value}{w:World}{K:Value→World→Prop}(h:JM.pt d0 f1 at2 s3 w K):upK Tryz.prog (Z0 GN #[d0,f1,at2,s3]) w K :=
 upF [8] (.node none .leaf (.node none .leaf (.node none .leaf (.node none .leaf (.node none .leaf (.node none .leaf (.node none (.node none .leaf (.node none (.node none (.node none .leaf (.node (some []) .leaf .leaf)) .leaf) .leaf)) .leaf))))))) [d0,f1,at2,s3] Tryz.func267 ⟨by kernel_rfl,by kernel_rfl,by kernel_rfl,by kernel_rfl⟩ h
end Go.Proofs.YtngbebnhegcokaaGreatDoor

namespace Go.Proofs.YtngbebnhegcokaaGreatDoor
set_option linter.unusedVariables false
set_option maxRecDepth 100000
end Go.Proofs.YtngbebnhegcokaaGreatDoor

namespace Go.Proofs.YtngbebnhegcokaaGreatDoor
open Go.RowKit Go.Shelf
set_option maxRecDepth 100000
def fm0(g:Nat)(cs:List Value):Dat:=⟨fun B=>B.keep g∧∃E fz,B.W.heap[g]? = some (.cells cs.toArray E fz),fun {B B'} hl ⟨h1,E,fz,h2⟩=>by
 obtain⟨h3,h4⟩:=hl g h1 (Array.getElem?_eq_some_iff.1 h2).1
 exact⟨h3,E,fz,h4.trans h2⟩⟩
theorem aC0:Tryz.prog.globalNamed "internal/strconv.uint64pow10"=some jD:=by kernel_rfl
def VI:Dat:=fm0 jD (Lib.pow10Tab.map (Value.int .u64))
def qC:Dat:=VI.and ((Dat.ex fun e:TypeId×Value=>fm0 PL [.iface e.1 e.2]).and (Dat.ex fun e:TypeId×Value=>fm0 YM [.iface e.1 e.2]))
set_option maxRecDepth 100000 in
theorem OG0{n:Int}(h0 : -9223372036854775808≤n)(h1:n≤9223372036854775807)(w:World)(htab:Lib.TabIs Tryz.prog w "internal/strconv.uint64pow10" .u64 Lib.pow10Tab) :
  Calls Tryz.prog FD #[.int .i64 n] w fun e w'=>e = .returned (.string ⟨(Lib.itoa n).toArray⟩)∧∃k os,w'=Go.Sort.grow (w.drewN k) os:=Any.strconv_Itoa Tryz.laysItoa n h0 h1 w htab
set_option maxRecDepth 100000 in
theorem ZC0(s:ByteArray)(hmax:s.size≤9223372036854775806)(v:Int)(h:Lib.atoiAll s.data.toList = .ok v)(w:World) :
  Calls Tryz.prog BC #[.string s] w fun e w'=>e = .returned (.tuple #[.int .i64 v,.nilIface])∧(w'=w∨∃t,w'=Lib.bytesWorld w p_ t):=Any.strconv_Atoi_ok Tryz.laysAtoi s hmax v h w
set_option maxRecDepth 100000 in
theorem cA0(s:ByteArray)(hlim:s.size≤281474976710656)(h:Lib.atoiAll s.data.toList = .«syntax»)(ev:Value)(w:World)(hv:w.cell? ⟨PL,0,none⟩=some ev)(hev:ev = .nilIface∨∃te pe,ev = .iface te pe) :
  Calls Tryz.prog BC #[.string s] w fun e w'=>∃n t p,e = .returned (.tuple #[.int .i64 n,.iface t p])∧Below w.heap.size w w':=by
 have h:=Any.strconv_Atoi_syntax Tryz.laysAtoi s hlim h ev w hv hev
 refine Calls.mono (f:=BC) h ?_
 rintro e w' ⟨N,rfl,_,_,hb⟩
 exact⟨_,_,_,rfl,hb⟩
set_option maxRecDepth 100000 in
theorem Zz0(s:ByteArray)(hlim:s.size≤281474976710656)(h:Lib.atoiAll s.data.toList = .range)(ev:Value)(w:World)(hv:w.cell? ⟨YM,0,none⟩=some ev)(hev:ev = .nilIface∨∃te pe,ev = .iface te pe) :
  Calls Tryz.prog BC #[.string s] w fun e w'=>∃n t p,e = .returned (.tuple #[.int .i64 n,.iface t p])∧Below w.heap.size w w':=by
 have h:=Any.strconv_Atoi_range Tryz.laysAtoi s hlim h ev w hv hev
 refine Calls.mono (f:=BC) h ?_
 rintro e w' ⟨N,rfl,_,_,hb⟩
 exact⟨_,_,_,rfl,hb⟩
set_option maxRecDepth 100000 in
theorem VF0(s:ByteArray)(c:Int)(w:World) :
  Calls Tryz.prog uE #[.string s,.int .u8 c] w fun e w'=>e = .returned (.int .i64 (Lib.indexByte s.data.toList c.toNat.toUInt8))∧w'=w:=Any.strings_IndexByte Tryz.laysIndex s c w
set_option maxRecDepth 100000 in
theorem oH0(s p:ByteArray)(w:World) :
  Calls Tryz.prog rE #[.string s,.string p] w fun e w'=>e = .returned (.tuple #[.string ⟨(Lib.trimPrefix s.data.toList p.data.toList).toArray⟩,.bool (Lib.hasPrefix s.data.toList p.data.toList)])∧w'=w:=Any.strings_CutPrefix Tryz.laysCut s p w
section
variable {B:Base} {w w':World} {σ:List Dat}
theorem Rel.below(h:Rel B w σ)(hb:Below w.heap.size w w'):Rel B w' σ:=by
 obtain⟨c,h⟩:=h
 refine⟨WF c w.heap.size 0,hb.os.trans h.os,hb.tape.trans h.tape,hb.output.trans h.output,Nat.le_trans h.size hb.size,fun k hk hs=>?_,fun k hk hs=>?_,fun j d hj=>?_⟩
 ·have:=Nat.lt_of_lt_of_le hs h.size
  rw[WF,if_pos this];exact h.keepc k hk hs
 ·have:=Nat.lt_of_lt_of_le hs h.size
  rw[hb.block k this];exact h.same k hk hs
 ·refine d.mono (fun k hk hs=>?_) (h.own j d hj)
  have hk:c k=j+1:=hk
  have hs:k<w.heap.size:=hs
  exact⟨by show WF c w.heap.size 0 k=j+1;rw[WF,if_pos hs];exact hk,hb.block k hs⟩
theorem below_grow(w:World)(k:Nat)(os:Array Obj):Below w.heap.size w (Go.Sort.grow (w.drewN k) os):=by
 refine⟨rfl,rfl,rfl,?_,fun j hj=>?_⟩
 ·rw[Go.Sort.size_grow]
  exact Nat.le_add_right _ _
 ·exact Go.Sort.heap_grow_old _ _ hj
theorem fm0.cell{g:Nat}{cs:List Value}{v:Value}(h:(fm0 g cs).here w)(hv:cs[0]? = some v):w.cell? ⟨g,0,none⟩=some v:=by
 obtain⟨_,E,fz,h2⟩:=h
 have h2:w.heap[g]? = some (.cells cs.toArray E fz):=h2
 simp only[World.cell?,h2]
 simpa using hv
theorem VI.pow(h:VI.here w):Lib.TabIs Tryz.prog w "internal/strconv.uint64pow10" .u64 Lib.pow10Tab:=by
 obtain⟨_,E,fz,h2⟩:=h
 have h2:w.heap[jD]? = some (.cells (Lib.pow10Tab.map (Value.int .u64)).toArray E fz):=h2
 unfold Lib.TabIs World.var?
 rw[aC0]
 simp only[Option.bind_some,h2]
theorem qC.syn(h:qC.here w):∃t p,w.cell? ⟨PL,0,none⟩=some (.iface t p):=by
 obtain⟨_,⟨e,h2⟩,_⟩:=h
 exact⟨e.1,e.2,fm0.cell h2 rfl⟩
theorem qC.rng(h:qC.here w):∃t p,w.cell? ⟨YM,0,none⟩=some (.iface t p):=by
 obtain⟨_,_,⟨e,h2⟩⟩:=h
 exact⟨e.1,e.2,fm0.cell h2 rfl⟩
instance qC.coe {B:Base}:Coe (qC B) (VI B):=⟨fun h=>h.1⟩
theorem Yk0(hB:VI B){n:Int}(hn:inI n):Gives Tryz.prog B (Z0 FD #[.int .i64 n]) (.string (ofL (Lib.itoa n))):=by
 refine Gives.intro fun B' w K base h k=>?_
 have hw:=h.L6 (base hB)
 refine strconv_Itoa.up (Calls.mono (OG0 hn.1 hn.2 w (VI.pow hw)) ?_)
 rintro e w' ⟨rfl,m,os,rfl⟩
 exact k _ _ (h.below (below_grow w m os))
def oG0(s:Bs)(v:Value):Prop:=(∃n,Lib.atoiAll s = .ok n∧v = .tuple #[.int .i64 n,.nilIface])∨((∀n,Lib.atoiAll s ≠ .ok n)∧∃n t p,v = .tuple #[.int .i64 n,.iface t p])
theorem KE0{K:Value→World→Prop}(hB:qC B)(h:Rel B w σ){s:ByteArray}(hs:s.size≤281474976710656)(k:∀v w',oG0 (bl s) v→Rel B w' σ→K v w'):upK Tryz.prog (Z0 BC #[.string s]) w K:=by
 have hw:=h.L6 hB
 cases ha:Lib.atoiAll s.data.toList with
 | ok n =>
  refine strconv_Atoi.up (Calls.mono (ZC0 s (by omega) n ha w) ?_)
  rintro e w' ⟨rfl,hw'⟩
  refine k _ _ (.inl ⟨n,ha,rfl⟩) ?_
  rcases hw' with rfl | ⟨t,rfl⟩
  ·exact h
  ·exact h.below (Lib.bytesWorld_below _ _ _)
 | «syntax» =>
  obtain⟨t,p,hc⟩:=qC.syn hw
  refine strconv_Atoi.up (Calls.mono (cA0 s hs ha _ w hc (.inr ⟨t,p,rfl⟩)) ?_)
  rintro e w' ⟨n,t,p,rfl,hb⟩
  exact k _ _ (.inr ⟨fun n hn=>(by rw[show Lib.atoiAll (bl s)=_ from ha] at hn;cases hn),_,_,_,rfl⟩) (h.below hb)
 | range =>
  obtain⟨t,p,hc⟩:=qC.rng hw
  refine strconv_Atoi.up (Calls.mono (Zz0 s hs ha _ w hc (.inr ⟨t,p,rfl⟩)) ?_)
  rintro e w' ⟨n,t,p,rfl,hb⟩
  exact k _ _ (.inr ⟨fun n hn=>(by rw[show Lib.atoiAll (bl s)=_ from ha] at hn;cases hn),_,_,_,rfl⟩) (h.below hb)
theorem gC0(s:ByteArray)(c:Int):Gives Tryz.prog B (Z0 uE #[.string s,.int .u8 c]) (.int .i64 (Lib.indexByte (bl s) c.toNat.toUInt8)):=by
 refine Gives.intro fun B' w K base h k=>?_
 refine strings_IndexByte.up (Calls.mono (VF0 s c w) ?_)
 rintro e w' ⟨rfl,rfl⟩
 exact k _ _ h
theorem EG0(s p:ByteArray):Gives Tryz.prog B (Z0 rE #[.string s,.string p]) (.tuple #[.string (ofL (Lib.trimPrefix (bl s) (bl p))),.bool (Lib.hasPrefix (bl s) (bl p))]):=by
 refine Gives.intro fun B' w K base h k=>?_
 refine strings_CutPrefix.up (Calls.mono (oH0 s p w) ?_)
 rintro e w' ⟨rfl,rfl⟩
 exact k _ _ h
theorem index_first{e:UInt8}:∀{a:Bs} (r:Bs),e ∉ a→Lib.indexByte (a++e :: r) e=a.length
 | [],r,_=>by simp [Lib.indexByte]
 | x :: a,r,h=>by
  have hx:¬x=e:=fun hh=>h (by rw[hh];exact List.mem_cons_self)
  have ih:=index_first (a:=a) r fun hh=>h (List.mem_cons_of_mem _ hh)
  rw[List.cons_append,Lib.indexByte,ih]
  simp only[beq_iff_eq,hx,if_false]
  rw[if_neg (by omega),List.length_cons]
  omega
theorem index_none{e:UInt8}:∀{a:Bs},e ∉ a→Lib.indexByte a e = -1
 | [],_=>rfl
 | x :: a,h=>by
  have hx:¬x=e:=fun hh=>h (by rw[hh];exact List.mem_cons_self)
  have ih:=index_none (a:=a) fun hh=>h (List.mem_cons_of_mem _ hh)
  rw[Lib.indexByte,ih]
  simp [hx]
theorem uc0{e:UInt8}:∀{l:Bs},e∈l→∃a r,l=a++e :: r∧e ∉ a
 | x :: l,h=>by
  by_cases hx:x=e
  ·subst hx;exact⟨[],l,rfl,by simp⟩
  ·rcases List.mem_cons.1 h with h | h
   ·exact absurd h.symm hx
   ·obtain⟨a,r,rfl,ha⟩:=uc0 h
    refine⟨x :: a,r,rfl,fun hh=>?_⟩
    rcases List.mem_cons.1 hh with hh | hh
    ·exact hx hh.symm
    ·exact ha hh
theorem Uh0{T u:TypeId}{x:Value}{xo yo:Operand}{Kp:Value→Prop}(hT:Tryz.prog.underlying T=some (.interface (Tryz.prog.methodsAt T))):M0 Tryz.prog (V3 .neq T xo yo (.iface u x) .nilIface) Kp=Kp (.bool true) :=
 F5 fun w=>MP rfl (run_neq_held_nil w T u x hT)
theorem Zn0{T:TypeId}{xo:Operand}{v:Value}{Kp:Value→Prop}(hT:Tryz.prog.underlying T=some (.interface (Tryz.prog.methodsAt T))):M0 Tryz.prog (V3 .neq T xo (.const v) .nilIface .nilIface) Kp=Kp (.bool false) :=
 F5 fun w=>MP (by unfold eqGuard;cases xo<;>rfl) (run_neq_nil_nil w T hT)
theorem eB0{P:Program}{T:TypeId}{v:Value}(h:(P.info? T).bind (·.zero)=some v)(w:World):(zeroValue T).run P w = .ok v w:=by
 cases hi:P.info? T with
 | none=>rw[hi] at h;cases h
 | some i =>
  rw[hi] at h
  have h:i.zero=some v:=h
  simp [zeroValue,typeInfo,hi,h]
theorem exS:Builder.Extra Tryz.prog Tryz.laysString_ren where
 sizeBuilder:=by kernel_rfl
 liesBuilder:=by kernel_rfl
 t5:=(by kernel_rfl:Tryz.prog.underlying p_=some (.int .u8))
 a5:=fun w=>yf0 (by kernel_rfl:scB Tryz.prog p_=true)
 z5:=fun w=>Bt0 (by kernel_rfl:scB Tryz.prog p_=true)
 v5:=fun w=>eB0 (by kernel_rfl:(Tryz.prog.info? p_).bind (·.zero)=some (.int .u8 0)) w
 infoByte:=by kernel_rfl
 cellsByte:=by kernel_rfl
 sizeByte:=by kernel_rfl
 neB5:=by decide
def bP(lo b:Nat)(l:Bs):Dat:=⟨fun B=>B.keep b∧lo≤b∧∃p v,(p = .pointer none∨p = .pointer (some ⟨b,0,none⟩))∧B.W.heap[b]? = some (.cells #[p,v] V5 (0,0)) ∧
  ((v = .slice none 0 0∧l=[])∨∃g cap cur fz,v = .slice (some ⟨g,0,none⟩) l.length cap∧lo≤g∧g≠b∧B.keep g∧B.W.heap[g]? = some (.cells cur p_ fz)∧fz.2≤l.length∧l.length≤cap∧cap≤maxLen∧cur.size=cap∧cur.toList.take l.length=Lib.byteCells l),
 fun {B B'} hl ⟨h1,h2,p,v,h3,h4,h5⟩=>by
  obtain⟨h6,h7⟩:=hl b h1 (Array.getElem?_eq_some_iff.1 h4).1
  refine⟨h6,h2,p,v,h3,h7.trans h4,?_⟩
  rcases h5 with h5 | ⟨g,cap,cur,fz,e1,e2,e3,e4,e5,e6⟩
  ·exact .inl h5
  ·obtain⟨h8,h9⟩:=hl g e4 (Array.getElem?_eq_some_iff.1 e5).1
   exact .inr ⟨g,cap,cur,fz,e1,e2,e3,h8,h9.trans e5,e6⟩⟩
theorem vT(l:Bs):(Lib.byteCells l).length=l.length:=Lib.byteCells_length l
theorem bP.is{lo b:Nat}{l:Bs}(h:(bP lo b l).here w):Lib.IsBuilderF V5 p_ lo b (Lib.byteCells l) w:=by
 obtain⟨_,h2,p,v,h3,h4,h5⟩:=h
 have h4:w.heap[b]? = some (.cells #[p,v] V5 (0,0)):=h4
 have key:Lib.BuilderAtF V5 p_ lo b p (Lib.byteCells l) w:=by
  refine⟨h2,v,h4,⟨by rw[Nat.mul_one],?_⟩,?_⟩
  ·rw[vT]
   rcases h5 with⟨e1,e2⟩ | ⟨g,cap,cur,fz,e1,e2,e3,e4,e5,e6,e7,e8,e9,e10⟩
   ·exact .inl ⟨e1,by rw[e2];rfl⟩
   ·exact .inr ⟨g,cap,cur,fz,e1,e2,e5,by rw[Nat.mul_one];exact e6,e7,e8,by rw[Nat.mul_one];exact e9,by rw[Nat.mul_one];exact e10⟩
  ·rcases h5 with⟨e1,e2⟩ | ⟨g,cap,cur,fz,e1,e2,e3,e4,e5,e6,e7,e8,e9,e10⟩
   ·rw[e1];simp [Value.ownBlock]
   ·rw[e1];simp [Value.ownBlock,e3]
 rcases h3 with rfl | rfl
 ·exact .inl key
 ·exact .inr key
theorem bP.of{lo b:Nat}{l:Bs}(h:Lib.IsBuilderF V5 p_ lo b (Lib.byteCells l) w)(hs:lo≤w.heap.size):(bP lo b l) ⟨w,fun k=>(if k<lo then 0 else 1)=1⟩:=by
 have key:∀p,(p = .pointer none∨p = .pointer (some ⟨b,0,none⟩))→Lib.BuilderAtF V5 p_ lo b p (Lib.byteCells l) w→(bP lo b l) ⟨w,fun k=>(if k<lo then 0 else 1)=1⟩:=by
  rintro p hp ⟨h1,v,h2,⟨_,h3⟩,h4⟩
  have kp:∀g,lo≤g→(if g<lo then(0:Nat) else 1)=1:=fun g hg=>if_neg (by omega)
  refine⟨kp b h1,h1,p,v,hp,h2,?_⟩
  rw[vT] at h3
  rcases h3 with⟨e1,e2⟩ | ⟨g,cap,cur,fz,e1,e2,e3,e4,e5,e6,e7,e8⟩
  ·exact .inl ⟨e1,List.eq_nil_of_length_eq_zero e2⟩
  ·refine .inr ⟨g,cap,cur,fz,e1,e2,fun hh=>h4 ?_,kp g e2,e3,by omega,e5,e6,by omega,by rw[Nat.mul_one] at e8;exact e8⟩
   rw[e1,hh];rfl
 rcases h with h | h
 ·exact key _ (.inl rfl) h
 ·exact key _ (.inr rfl) h
theorem Rel.Gr0{lo b:Nat}{l l':Bs}(h:Rel B w [bP lo b l])(hlo:B.W.heap.size≤lo)(hs:lo≤w.heap.size)(hb:Below lo w w')(hn:Lib.IsBuilderF V5 p_ lo b (Lib.byteCells l') w'):Rel B w' [bP lo b l']:=by
 obtain⟨c,h⟩:=h
 refine⟨fun k=>if k<lo then 0 else 1,hb.os.trans h.os,hb.tape.trans h.tape,hb.output.trans h.output,Nat.le_trans h.size hb.size,fun k hk hs=>if_pos (by omega),fun k hk hs=>?_,fun j d hj=>?_⟩
 ·rw[hb.block k (by omega)];exact h.same k hk hs
 ·cases j with
  | zero =>
   cases hj
   exact bP.of hn (Nat.le_trans hs hb.size)
  | succ j=>simp at hj
theorem iu0(s:ByteArray):Lib.strCells s=Lib.byteCells (bl s):=rfl
theorem Rel.ZD0{lo b:Nat}{l:Bs}(h:Rel B w [bP lo b l]):lo≤w.heap.size:=by
 obtain⟨_,h2,p,v,_,h4,_⟩:=h.here (i:=0) rfl
 have h4:w.heap[b]? = some (.cells #[p,v] V5 (0,0)):=h4
 have:=(Array.getElem?_eq_some_iff.1 h4).1
 omega
theorem wT{T:TypeId}{xo yo:Operand}{Kp:Value→Prop}(hT:Tryz.prog.underlying T=some (.pointer (Tryz.prog.pointee T))):M0 Tryz.prog (V3 .eql T xo yo (.pointer none) (.pointer none)) Kp=Kp (.bool true) :=
 F5 fun w=>MP rfl (run_eql_pointer_nil w T none hT)
theorem co0{v:Value}{K:Value→World→Prop}(h:K v w):upK Tryz.prog (Z0 PH #[v]) w K:=by
 refine vC (v:=v) (w':=w) ?_ h
 show (callFunc PH #[v]).run Tryz.prog w=_
 rw[run_callFunc_extern (fn:=QT) (by kernel_rfl) (by kernel_rfl) (by kernel_rfl) (by kernel_rfl) (e:=Extern.AbiNoEscape.same) (by kernel_rfl)]
 rfl
theorem lk0:∃j,Tryz.prog.info? V5=some j∧j.size=2:=by
 have:(Tryz.prog.info? V5).map (·.size)=some 2:=by kernel_rfl
 obtain⟨j,h1,h2⟩:=Option.map_eq_some_iff.1 this
 exact⟨j,h1,h2⟩
theorem LE0{lo b:Nat}{bs:List Value}{K:Value→World→Prop}(h:Lib.IsBuilderF V5 p_ lo b bs w)(k:∀w1,Lib.BuilderAtF V5 p_ lo b (.pointer (some ⟨b,0,none⟩)) bs w1→Below lo w w1→K (.tuple #[]) w1) :
  upK Tryz.prog (Z0 ME #[.pointer (some ⟨b,0,none⟩)]) w K:=by
 obtain⟨j,hj,hjs⟩:=lk0
 have hpt:Tryz.prog.underlying F9=some (.pointer V5):=by kernel_rfl
 have hup:Tryz.prog.underlying XO=some .unsafePointer:=by kernel_rfl
 refine YC.up ?_
 unfold YC.pt
 rcases h with h | h
 ·simp -zeta only[J5,U0 BQ,Nat.add_zero,Jf0 EK h.cell0,wT xQ,lC]
  refine vC (X9 (Lib.run_to_unsafe (w:=w) ⟨b,0,none⟩ hpt hup hj (by rw[hjs];decide) h.shape (Nat.zero_lt_succ 1))) ?_
  refine co0 ?_
  refine vC (X9 (Lib.run_from_unsafe (w:=w) ⟨b,0,none⟩ hup hpt hj h.shape (by kernel_rfl))) ?_
  obtain⟨h1,v,h2,h3,h4⟩:=h
  refine Et0 (c:=fun _=>0) (t:=0) EK (cs:=#[.pointer none,v]) ⟨rfl,h2⟩ (by show 0<2;omega) rfl fun _ _=>?_
  exact k _ (Lib.BuilderAtF.used ⟨h1,v,h2,h3,h4⟩ _) ((Below.refl lo w).setCell (p:=⟨b,0,none⟩) h1 _)
 ·have hne:∀{Kp:Value→Prop} {xo yo:Operand},M0 Tryz.prog (V3 .neq F9 xo yo (.pointer (some ⟨b,0,none⟩)) (.pointer (some ⟨b,0,none⟩))) Kp=Kp (.bool false):=fun {Kp xo yo}=>F5 fun w=>MP rfl (Lib.run_neq_ptr_same w ⟨b,0,none⟩ hpt hj)
  simp -zeta only[J5,U0 BQ,Nat.add_zero,Jf0 EK h.cell0,OA xQ,d_,hne]
  exact k _ h (Below.refl lo w)
theorem ME0{lo b:Nat}{bs:List Value}{s:ByteArray}{K:Value→World→Prop}(h:Lib.IsBuilderF V5 p_ lo b bs w)(hlen:bs.length+s.size≤140737488355328)(hlo:lo≤w.heap.size)
  (k:∀v w',Lib.BuilderAtF V5 p_ lo b (.pointer (some ⟨b,0,none⟩)) (bs++Lib.strCells s) w'→Below lo w w'→K v w'):upK Tryz.prog (Z0 G7 #[.pointer (some ⟨b,0,none⟩),.string s]) w K:=by
 obtain⟨i0,hi,hz0,hz1,hz2⟩:=info_parts (show (Tryz.prog.info? p_).map (fun i=>(i.zero,i.size,i.bytes))=some (some (.int .u8 0),1,1) by kernel_rfl)
 refine uC.up ?_
 unfold uC.pt
 refine LE0 h fun w1 h1 hb1=>?_
 obtain⟨hB,v,hbk,hown,hne⟩:=h1
 have c1:w1.cell? ⟨b,1,none⟩=some v:=by rw[Lib.cell_of_heap hbk];rfl
 simp -zeta only[J5,U0 zX,Nat.zero_add,Jf0 Lg0 c1]
 have hlt:b<w1.heap.size:=(Array.getElem?_eq_some_iff.1 hbk).1
 obtain⟨v',w2,hr,hown',hgrow,_⟩:=Lib.run_append_own_stringF (P:=Tryz.prog) w1 lo WA M3 WA p_ i0 ia0 K8 hi hz0 hz1 hz2 v bs.length bs hown s (by unfold maxLen;omega) (by omega) (by have:=hb1.size;omega)
 refine vC (X9 hr) ?_
 have hb2:w2.heap[b]? = some (.cells #[.pointer (some ⟨b,0,none⟩),v] V5 (0,0)):=by
  rw[hgrow.block b hlt (fun e=>hne e.symm)]
  exact hbk
 have h1c:v'.oneCell'=true:=by
  rcases hown'.2 with⟨hv,_⟩ | ⟨g,cap,cur,fz,hv,_⟩<;>rw[hv]<;>rfl
 refine Et0 (c:=fun _=>0) (t:=0) Lg0 (cs:=#[.pointer (some ⟨b,0,none⟩),v]) ⟨rfl,hb2⟩ (by show 1<2;omega) h1c fun _ _=>?_
 simp -zeta only[LC K8]
 refine k _ _ (Lib.BuilderAtF.put (T:=V5) (e:=p_) hB hb2 (bs':=bs++Lib.strCells s) (by simpa [Lib.strCells_length] using hown') (by decide)) ?_
 exact(hb1.grown hgrow (by have:=hb1.size;omega) (fun k hk=>(hown.lt k hk).1)).setCell (p:=⟨b,1,none⟩) hB _
theorem Rel.VN{lo b:Nat}{l:Bs}{s:ByteArray}{K:Value→World→Prop}(h:Rel B w [bP lo b l])(hlo:B.W.heap.size≤lo)(hlen:l.length+s.size≤140737488355328)
  (k:∀v w',Rel B w' [bP lo b (l++bl s)]→K v w'):upK Tryz.prog (Z0 G7 #[.pointer (some ⟨b,0,none⟩),.string s]) w K:=by
 have hs:=h.ZD0
 refine ME0 (bP.is (h.here (i:=0) rfl)) (by rw[vT];exact hlen) hs fun v w' h1 h2=>?_
 refine k _ _ (h.Gr0 hlo hs h2 (.inr ?_))
 rw[iu0] at h1
 have:Lib.byteCells (l++bl s)=Lib.byteCells l++Lib.byteCells (bl s):=by simp [Lib.byteCells]
 rw[this]
 exact h1
set_option maxRecDepth 100000 in
theorem aD0{lo b:Nat}{l:Bs}{w:World}(h:Lib.IsBuilderF V5 p_ lo b (Lib.byteCells l) w)(hs:lo≤w.heap.size) :
  Calls Tryz.prog I9 #[.pointer (some ⟨b,0,none⟩)] w fun e w'=>e = .returned (.string ⟨l.toArray⟩)∧(Lib.IsBuilderF V5 p_ lo b (Lib.byteCells l) w'∧Below lo w w'∧Lib.OthersKept p_ (some b) w w'):=Any.Builder_String_any_k Tryz.laysString exS lo b l w h hs
theorem Rel.gU{lo b:Nat}{l:Bs}{K:Value→World→Prop}(h:Rel B w [bP lo b l])(hlo:B.W.heap.size≤lo)
  (k:∀w',Rel B w' [bP lo b l]→K (.string (ofL l)) w'):upK Tryz.prog (Z0 I9 #[.pointer (some ⟨b,0,none⟩)]) w K:=by
 have hs:=h.ZD0
 refine pV.up (Calls.mono (aD0 (bP.is (h.here (i:=0) rfl)) hs) ?_)
 rintro e w' ⟨rfl,h1,h2,_⟩
 exact k _ (h.Gr0 hlo hs h2 h1)
theorem Gives.wf0{s:Sem Next}{v:Value}(h:∀(B':Base) (w:World) (K:Value→World→Prop),(∀{d:Dat},d B→d B')→Rel B' w []→(∀(w1:World) (b:Nat),Rel B' w1 [O1 b V5 #[.pointer none,.slice none 0 0]]→Rel B' w1 [bP B'.W.heap.size b []])→(∀w' τ,Rel B' w' τ→K v w')→upK Tryz.prog s w K):Gives Tryz.prog B s v:=by
 intro w σ K hr k
 obtain⟨B',h',back,_,base⟩:=hr.frz
 refine h ⟨w,fun _=>True⟩ w K (fun {d} hd=>by
  obtain⟨c,hc⟩:=hr
  exact d.mono (fun k hk hs=>⟨trivial,hc.same k hk hs⟩) hd) ⟨fun _=>0,rfl,rfl,rfl,Nat.le_refl _,fun _ _ _=>rfl,fun _ _ _=>rfl,fun i d hd=>by simp at hd⟩ (fun w1 b h1=>?_) fun w' τ h2=>?_
 ·obtain⟨c,h1⟩:=h1
  have hc:c b=1:=(h1.own 0 _ rfl).1
  have hb:w1.heap[b]? = some (.cells #[.pointer none,.slice none 0 0] V5 (0,0)):=(h1.own 0 _ rfl).2
  have hlo:w.heap.size≤b:=Nat.le_of_not_lt fun hlt=>by
   have:=h1.keepc b trivial hlt
   omega
  refine⟨c,h1.os,h1.tape,h1.output,h1.size,h1.keepc,h1.same,fun j d hj=>?_⟩
  cases j with
  | zero =>
   cases hj
   exact⟨hc,hlo,_,_,.inl rfl,hb,.inl ⟨rfl,rfl⟩⟩
  | succ j=>simp at hj
 ·have h2:Rel ⟨w,fun _=>True⟩ w' []:=h2.nil
  refine k w' ?_
  obtain⟨c,hr⟩:=hr
  obtain⟨c2,h2⟩:=h2
  refine⟨fun k=>if k<w.heap.size then c k else 0,h2.os.trans hr.os,h2.tape.trans hr.tape,h2.output.trans hr.output,Nat.le_trans hr.size h2.size,fun k hk hs=>?_,fun k hk hs=>?_,fun j d hj=>?_⟩
  ·rw[if_pos (Nat.lt_of_lt_of_le hs hr.size)];exact hr.keepc k hk hs
  ·exact(h2.same k trivial (Nat.lt_of_lt_of_le hs hr.size)).trans (hr.same k hk hs)
  ·refine d.mono (fun k hk hs=>?_) (hr.own j d hj)
   have hk:c k=j+1:=hk
   have hs:k<w.heap.size:=hs
   exact⟨by show (if k<w.heap.size then c k else 0)=j+1;rw[if_pos hs];exact hk,h2.same k trivial hs⟩
end
end Go.Proofs.YtngbebnhegcokaaGreatDoor

namespace Go.Proofs.YtngbebnhegcokaaGreatDoor
open Go.RowKit
abbrev Ent(κ ν:Type):=κ×ν×Nat
section
variable {κ ν:Type} [Enc κ] [Enc ν] [DecidableEq κ]
def JC(e:Ent κ ν):MapEntry:={ key:=Enc.val e.1,val:=Enc.val e.2.1,born:=e.2.2 }
def QC(x:κ):List (Ent κ ν)→Nat→Option (Nat×ν)
 | [],_=>none
 | e :: l,i=>if x=e.1 then some (i,e.2.1) else QC x l (i+1)
def SF(x:κ)(l:List (Ent κ ν)):Option ν:=(QC x l 0).map (·.2)
end
structure KeyTy (P:Program) (k:TypeId) (κ:Type) [Enc κ] [DecidableEq κ]:Prop where
 chk:∀(e:Bool) (x:κ) (w:World),(Instr.checkKey e 10000 k (Enc.val x)).run P w = .ok () w
 find:∀{ν:Type} [Enc ν] (x:κ) (l:List (Ent κ ν)) (w:World),(Instr.findKey k (Enc.val x) (l.map JC)).run P w = .ok ((QC x l 0).map fun p=>(p.1,Enc.val p.2)) w
 bits:∀x:κ,Instr.sameBits 10000 (Enc.val x) (Enc.val x)=true
theorem KeyTy.int{P:Program}{k:TypeId}(hk:P.underlying k=some (.int .i64)):KeyTy P k Int where
 chk e x w:=by
  show (Instr.checkKey e (9999+1) k (.int .i64 x)).run P w=_
  unfold Instr.checkKey
  rw[Sem.run_bind,run_underlying hk]
  rfl
 find {ν} _ x l w:=by
  have key:∀(l:List (Ent Int ν)) (i:Nat),Instr.findNow (.int .i64) (.int .i64 x) (l.map JC) i=some ((QC x l i).map fun p=>(p.1,Enc.val p.2)):=by
   intro l
   induction l with
   | nil=>intro i;rfl
   | cons e l ih =>
    intro i
    simp only[List.map_cons,Instr.findNow,QC]
    have:Instr.sameNow (.int .i64) (.int .i64 x) (JC e).key=some (x == e.1):=by simp [Instr.sameNow,JC,Enc.val]
    rw[this]
    by_cases h:x=e.1
    ·rw[if_pos h,beq_iff_eq.2 h];rfl
    ·rw[if_neg h,beq_eq_false_iff_ne.2 h];exact ih (i+1)
  unfold Instr.findKey
  rw[Sem.run_bind,run_underlying hk]
  simp only[Result.andThen_ok]
  rw[show (Enc.val x:Value) = .int .i64 x from rfl,key l 0]
  rfl
 bits x:=by
  show Instr.sameBits (9999+1) (.int .i64 x) (.int .i64 x)=true
  simp [Instr.sameBits]
def ckB(P:Program)(t:TypeId):Bool :=
 match P.underlying t with
 | some (.int _)=>true
 | some .bool=>true
 | some .string=>true
 | _=>false
theorem nx0{P:Program}{e:Bool}{n:Nat}{t:TypeId}{v:Value}{w:World}(h:ckB P t=true):(Instr.checkKey e (n+1) t v).run P w = .ok () w:=by
 unfold ckB at h
 unfold Instr.checkKey
 split at h
 ·rename_i hu;rw[Sem.run_bind,run_underlying hu];rfl
 ·rename_i hu;rw[Sem.run_bind,run_underlying hu];rfl
 ·rename_i hu;rw[Sem.run_bind,run_underlying hu];rfl
 ·cases h
theorem KeyTy.agg{P:Program}{k:TypeId}{κ:Type}[Enc κ][DecidableEq κ]{fs:Array Field}(hk:P.underlying k=some (.struct fs))(hv:∀x:κ,Enc.val x = .agg (Enc.cells x).toArray)
  (hf:(fs.toList.all fun f=>ckB P f.type&&scB P f.type&&Nat.blt f.offset (Enc.sz κ))=true)
  (heq:∀(x y:κ) (w:World),(Op.equal k (Enc.val x) (Enc.val y)).run P w = .ok (decide (x=y)) w) (hb:∀x:κ,Instr.sameBits 10000 (Enc.val x) (Enc.val x)=true):KeyTy P k κ where
 chk e x w:=by
  rw[hv x]
  show (Instr.checkKey e (9999+1) k (.agg _)).run P w=_
  unfold Instr.checkKey
  rw[Sem.run_bind,run_underlying hk]
  simp only[Result.andThen_ok]
  rw[←Array.forIn_toList]
  have hf:=List.all_eq_true.1 hf
  generalize fs.toList=L at hf ⊢
  induction L with
  | nil=>rfl
  | cons f L ih =>
   have h1:=hf f List.mem_cons_self
   simp only[Bool.and_eq_true] at h1
   have hlt:f.offset<Enc.sz κ:=by simpa using h1.2
   have hp:(part f.type (Enc.cells x).toArray f.offset).run P w = .ok ((Enc.cells x)[f.offset]'(by rw[Enc.len];exact hlt)) w:=zH h1.1.2 (by simp [Enc.len,hlt])
   have ih:=ih fun g hg=>hf g (List.mem_cons_of_mem _ hg)
   rw[List.forIn_cons]
   by_cases hn:f.name= "_"
   ·simp only[hn,ne_eq,not_true_eq_false,if_false,pure_bind]
    exact ih
   ·simp only[hn,ne_eq,not_false_eq_true,if_true,bind_assoc,pure_bind]
    rw[Sem.run_bind,hp]
    simp only[Result.andThen_ok]
    rw[Sem.run_bind,nx0 h1.1.1]
    simp only[Result.andThen_ok]
    exact ih
 find {ν} _ x l w:=by
  have ask:∀(l:List (Ent κ ν)) (i:Nat),(Instr.findAsking k (Enc.val x) (l.map JC) i).run P w = .ok ((QC x l i).map fun p=>(p.1,Enc.val p.2)) w:=by
   intro l
   induction l with
   | nil=>intro i;rfl
   | cons e l ih =>
    intro i
    simp only[List.map_cons,Instr.findAsking,QC]
    rw[Sem.run_bind,show (JC e).key=Enc.val e.1 from rfl,heq]
    simp only[Result.andThen_ok]
    by_cases h:x=e.1
    ·rw[if_pos h,decide_eq_true h];rfl
    ·rw[if_neg h,decide_eq_false h];exact ih (i+1)
  unfold Instr.findKey
  rw[Sem.run_bind,run_underlying hk]
  simp only[Result.andThen_ok]
  cases l with
  | nil=>rfl
  | cons e l =>
   have:Instr.findNow (.struct fs) (Enc.val x) ((e :: l).map JC) 0=none:=by
    simp only[List.map_cons,Instr.findNow]
    have:Instr.sameNow (.struct fs) (Enc.val x) (JC e).key=none:=by rw[hv x];rfl
    rw[this]
   rw[this]
   exact ask (e :: l) 0
 bits:=hb
section
variable {κ ν:Type} [DecidableEq κ]
def dI(x:κ)(z:ν)(l:List (Ent κ ν))(c:Nat):List (Ent κ ν)×Nat×Nat×ν :=
 match QC x l 0 with
 | some (i,v)=>(l,c,((l[i]?).map (·.2.2)).getD 0,v)
 | none=>(l++[(x,z,c)],c+1,c,z)
def WL(x:κ)(y:ν)(l:List (Ent κ ν))(c:Nat):List (Ent κ ν)×Nat :=
 match QC x l 0 with
 | some (i,_)=>(l.modify i fun e=>(e.1,y,e.2.2),c)
 | none=>(l++[(x,y,c)],c+1)
def oV(b:Nat)(y:ν)(l:List (Ent κ ν)):List (Ent κ ν) :=
 match l.findIdx? fun e=>e.2.2 == b with
 | some i=>l.modify i fun e=>(e.1,y,e.2.2)
 | none=>l
def Ap0(x:κ)(l:List (Ent κ ν)):List (Ent κ ν) :=
 match QC x l 0 with
 | some (i,_)=>l.eraseIdx i
 | none=>l
structure WfE (l:List (Ent κ ν)) (c:Nat):Prop where
 keys:(l.map (·.1)).Nodup
 stamps:(l.map (·.2.2)).Nodup
 below:∀e∈l,e.2.2<c
theorem oN(x:κ)(l:List (Ent κ ν)):∀i,QC x l i=(QC x l 0).map fun p=>(p.1+i,p.2):=by
 induction l with
 | nil=>intro i;rfl
 | cons e l ih =>
  intro i
  simp only[QC]
  by_cases h:x=e.1
  ·simp [h]
  ·rw[if_neg h,if_neg h,ih (i+1),ih (0+1),Option.map_map]
   congr 1
   funext p
   simp only[Function.comp_apply]
   congr 1
   omega
theorem lD{x:κ}{l:List (Ent κ ν)}{i:Nat}{v:ν}(h:QC x l 0=some (i,v)):∃hi:i<l.length,l[i].1=x∧l[i].2.1=v:=by
 induction l generalizing i with
 | nil=>cases h
 | cons e l ih =>
  simp only[QC] at h
  by_cases hx:x=e.1
  ·rw[if_pos hx] at h
   cases h
   exact⟨by simp,hx.symm,rfl⟩
  ·rw[if_neg hx,oN] at h
   rw[Option.map_eq_some_iff] at h
   obtain⟨⟨j,u⟩,h1,h2⟩:=h
   simp only[Prod.mk.injEq] at h2
   obtain⟨rfl,rfl⟩:=h2
   obtain⟨h3,h4⟩:=ih h1
   exact⟨by simp;omega,h4⟩
theorem aN{x:κ}{l:List (Ent κ ν)}(h:QC x l 0=none):∀e∈l,e.1≠x:=by
 induction l with
 | nil=>intro e he;cases he
 | cons e l ih =>
  simp only[QC] at h
  by_cases hx:x=e.1
  ·rw[if_pos hx] at h;cases h
  ·rw[if_neg hx,oN,Option.map_eq_none_iff] at h
   intro e' he
   rcases List.mem_cons.1 he with rfl | he
   ·exact fun e=>hx e.symm
   ·exact ih h e' he
theorem nU{x:κ}{l:List (Ent κ ν)}:SF x l=none↔∀e∈l,e.1≠x:=by
 unfold SF
 rw[Option.map_eq_none_iff]
 refine⟨aN,fun h=>?_⟩
 cases hf:QC x l 0 with
 | none=>rfl
 | some p =>
  obtain⟨h1,h2,_⟩:=lD (i:=p.1) (v:=p.2) hf
  exact absurd h2 (h _ (List.getElem_mem h1))
theorem jW{l:List (Ent κ ν)}(hn:(l.map (·.1)).Nodup){e:Ent κ ν}(he:e∈l):SF e.1 l=some e.2.1:=by
 unfold SF
 cases hf:QC e.1 l 0 with
 | none=>exact absurd rfl (aN hf e he)
 | some p =>
  obtain⟨h1,h2,h3⟩:=lD (i:=p.1) (v:=p.2) hf
  obtain⟨j,hj,rfl⟩:=List.getElem_of_mem he
  have hij:p.1=j:=by
   have:=(List.nodup_iff_pairwise_ne.1 hn)
   rw[List.pairwise_iff_getElem] at this
   rcases Nat.lt_trichotomy p.1 j with h | h | h
   ·exact absurd (by rw[List.getElem_map,List.getElem_map];exact h2) (this p.1 j (by simpa using h1) (by simpa using hj) h)
   ·exact h
   ·exact absurd (by rw[List.getElem_map,List.getElem_map];exact h2.symm) (this j p.1 (by simpa using hj) (by simpa using h1) h)
  simp only[Option.map_some,Option.some.injEq]
  rw[←h3]
  congr 3
theorem Cn0{x:κ}{l:List (Ent κ ν)}{k:κ}{v:ν}{b:Nat}:SF x (l++[(k,v,b)])=(SF x l).or (if x=k then some v else none):=by
 induction l with
 | nil =>
  simp only[SF,List.nil_append,QC]
  by_cases h:x=k<;>simp [h]
 | cons e l ih =>
  unfold SF at ih ⊢
  simp only[List.cons_append,QC]
  by_cases h:x=e.1
  ·simp [h]
  ·rw[if_neg h,if_neg h,oN x (l++_),oN x l,Option.map_map,Option.map_map]
   exact ih
theorem Dn0{x k:κ}{l:List (Ent κ ν)}{i:Nat}{y:ν}(hn:(l.map (·.1)).Nodup)(hi:i<l.length)(hk:l[i].1=k):SF x (l.modify i fun e=>(e.1,y,e.2.2))=if x=k then some y else SF x l:=by
 have hn':((l.modify i fun e=>(e.1,y,e.2.2)).map (·.1)).Nodup:=by
  have:(l.modify i fun e=>(e.1,y,e.2.2)).map (·.1)=l.map (·.1):=by
   apply List.ext_getElem (by simp)
   intro j h1 h2
   simp only[List.getElem_map,List.getElem_modify]
   split<;>rfl
  rw[this];exact hn
 by_cases h:x=k
 ·rw[if_pos h]
  have hm:((l[i].1,y,l[i].2.2):Ent κ ν)∈l.modify i fun e=>(e.1,y,e.2.2):=by
   rw[List.mem_iff_getElem]
   exact⟨i,by simpa using hi,by simp⟩
  have:=jW hn' hm
  rw[h,←hk]
  exact this
 ·rw[if_neg h]
  cases hg:SF x l with
  | none =>
   rw[nU] at hg ⊢
   intro e he
   obtain⟨j,hj,rfl⟩:=List.getElem_of_mem he
   rw[List.getElem_modify]
   have hj':j<l.length:=by simpa using hj
   have:=hg l[j] (List.getElem_mem hj')
   split<;>exact this
  | some v =>
   have hx:∃e∈l,e.1=x∧e.2.1=v:=by
    unfold SF at hg
    rw[Option.map_eq_some_iff] at hg
    obtain⟨⟨j,u⟩,h1,h2⟩:=hg
    obtain⟨h3,h4,h5⟩:=lD h1
    exact⟨_,List.getElem_mem h3,h4,h5.trans h2⟩
   obtain⟨e,he,rfl,rfl⟩:=hx
   obtain⟨j,hj,rfl⟩:=List.getElem_of_mem he
   have hij:i≠j:=by
    rintro rfl
    exact h hk
   have hm:l[j]∈l.modify i fun e=>(e.1,y,e.2.2):=by
    rw[List.mem_iff_getElem]
    exact⟨j,by simpa using hj,by rw[List.getElem_modify,if_neg hij]⟩
   exact jW hn' hm
theorem xU{x k:κ}{y:ν}{l:List (Ent κ ν)}{c:Nat}(hn:(l.map (·.1)).Nodup):SF x (WL k y l c).1=if x=k then some y else SF x l:=by
 unfold WL
 cases hf:QC k l 0 with
 | none =>
  show SF x (l++[(k,y,c)])=_
  rw[Cn0]
  have:=aN hf
  by_cases h:x=k
  ·subst h
   rw[if_pos rfl,if_pos rfl,nU.2 this];rfl
  ·rw[if_neg h,if_neg h];simp
 | some p =>
  obtain⟨h1,h2,_⟩:=lD (i:=p.1) (v:=p.2) hf
  exact Dn0 hn h1 h2
omit [DecidableEq κ] in
theorem modify_keys{l:List (Ent κ ν)}{i:Nat}{y:ν}:(l.modify i fun e=>(e.1,y,e.2.2)).map (·.1)=l.map (·.1):=by
 apply List.ext_getElem (by simp)
 intro j h1 h2
 simp only[List.getElem_map,List.getElem_modify]
 split<;>rfl
omit [DecidableEq κ] in
theorem TT{l:List (Ent κ ν)}{i:Nat}{y:ν}:(l.modify i fun e=>(e.1,y,e.2.2)).map (·.2.2)=l.map (·.2.2):=by
 apply List.ext_getElem (by simp)
 intro j h1 h2
 simp only[List.getElem_map,List.getElem_modify]
 split<;>rfl
omit [DecidableEq κ] in
theorem WfE.nil:WfE ([]:List (Ent κ ν)) 0:=⟨List.nodup_nil,List.nodup_nil,fun e he=>by cases he⟩
omit [DecidableEq κ] in
theorem WfE.modify{l:List (Ent κ ν)}{c:Nat}(h:WfE l c){i:Nat}{y:ν}:WfE (l.modify i fun e=>(e.1,y,e.2.2)) c:=by
 refine⟨by rw[modify_keys];exact h.keys,by rw[TT];exact h.stamps,fun e he=>?_⟩
 have hm:e.2.2∈(l.modify i fun e=>(e.1,y,e.2.2)).map (·.2.2):=List.mem_map_of_mem he
 rw[TT] at hm
 obtain⟨e',he',h1⟩:=List.mem_map.1 hm
 rw[←h1]
 exact h.below e' he'
omit [DecidableEq κ] in
theorem WfE.push{l:List (Ent κ ν)}{c:Nat}(h:WfE l c){x:κ}{y:ν}(hx:∀e∈l,e.1≠x):WfE (l++[(x,y,c)]) (c+1):=by
 refine⟨?_,?_,fun e he=>?_⟩
 ·rw[List.map_append,List.nodup_append]
  refine⟨h.keys,by simp,fun a ha b hb=>?_⟩
  obtain⟨e,he,rfl⟩:=List.mem_map.1 ha
  simp at hb
  subst hb
  exact hx e he
 ·rw[List.map_append,List.nodup_append]
  refine⟨h.stamps,by simp,fun a ha b hb=>?_⟩
  obtain⟨e,he,rfl⟩:=List.mem_map.1 ha
  simp at hb
  subst hb
  exact Nat.ne_of_lt (h.below e he)
 ·rcases List.mem_append.1 he with he | he
  ·exact Nat.lt_succ_of_lt (h.below e he)
  ·simp at he
   subst he
   exact Nat.lt_succ_self c
theorem WfE.set{l:List (Ent κ ν)}{c:Nat}(h:WfE l c)(x:κ)(y:ν):WfE (WL x y l c).1 (WL x y l c).2:=by
 unfold WL
 cases hf:QC x l 0 with
 | none=>exact h.push (aN hf)
 | some p=>exact h.modify
theorem dr0{x:κ}{y:ν}{l:List (Ent κ ν)}{c:Nat}(h:∃e∈l,e.1=x):(WL x y l c).2=c∧(WL x y l c).1.map (·.1)=l.map (·.1)∧(WL x y l c).1.map (·.2.2)=l.map (·.2.2):=by
 unfold WL
 cases hf:QC x l 0 with
 | none =>
  obtain⟨e,he,h1⟩:=h
  exact absurd h1 (aN hf e he)
 | some p=>exact⟨rfl,modify_keys,TT⟩
theorem Wr0{x:κ}{l:List (Ent κ ν)}(hn:(l.map (·.1)).Nodup):Ap0 x l=l.filter fun e=>decide (e.1≠x):=by
 unfold Ap0
 cases hf:QC x l 0 with
 | none =>
  refine(List.filter_eq_self.2 fun e he=>?_).symm
  exact decide_eq_true (p:=e.1≠x) (aN hf e he)
 | some p =>
  obtain⟨h1,h2,h3⟩:=lD (i:=p.1) (v:=p.2) hf
  clear h3
  show l.eraseIdx p.1=_
  generalize p.1=i at h1 h2
  clear hf
  induction l generalizing i with
  | nil=>simp at h1
  | cons e l ih =>
   rw[List.map_cons,List.nodup_cons] at hn
   cases i with
   | zero =>
    have h2:e.1=x:=h2
    rw[List.eraseIdx_cons_zero,List.filter_cons,if_neg (by simp [h2])]
    refine(List.filter_eq_self.2 fun e' he'=>decide_eq_true (p:=e'.1≠x) fun h3=>?_).symm
    exact hn.1 (h2 ▸ h3 ▸ List.mem_map_of_mem he')
   | succ i =>
    have h1':i<l.length:=by simpa using h1
    have h2:l[i].1=x:=by simpa using h2
    rw[List.eraseIdx_cons_succ,List.filter_cons,if_pos (decide_eq_true (p:=e.1≠x) fun h3=>hn.1 (by rw[h3,←h2];exact List.mem_map_of_mem (List.getElem_mem h1'))),ih hn.2 i h1' h2]
omit [DecidableEq κ] in
theorem WfE.filter{l:List (Ent κ ν)}{c:Nat}(h:WfE l c)(p:Ent κ ν→Bool):WfE (l.filter p) c :=
 ⟨h.keys.sublist (List.filter_sublist.map _),h.stamps.sublist (List.filter_sublist.map _),fun e he=>h.below e (List.mem_filter.1 he).1⟩
theorem WfE.tf0{l:List (Ent κ ν)}{c:Nat}(h:WfE l c){x:κ}{v:ν}:SF x l=some v↔∃b,(x,v,b)∈l:=by
 constructor
 ·intro hg
  unfold SF at hg
  rw[Option.map_eq_some_iff] at hg
  obtain⟨⟨j,u⟩,h1,h2⟩:=hg
  obtain⟨h3,h4,h5⟩:=lD h1
  have h2:u=v:=h2
  subst h2
  subst h4
  subst h5
  exact⟨_,List.getElem_mem h3⟩
 ·rintro⟨b,hb⟩
  exact jW h.keys hb
theorem df0{l:List (Ent κ ν)}{c:Nat}(h:WfE l c)(p:κ→Bool)(x:κ):SF x (l.filter fun e=>p e.1)=if p x=true then SF x l else none:=by
 by_cases hp:p x=true
 ·rw[if_pos hp]
  cases hg:SF x l with
  | none =>
   rw[nU] at hg ⊢
   exact fun e he=>hg e (List.mem_filter.1 he).1
  | some v =>
   rw[(h.filter _).tf0]
   obtain⟨b,hb⟩:=h.tf0.1 hg
   exact⟨b,List.mem_filter.2 ⟨hb,hp⟩⟩
 ·rw[if_neg hp,nU]
  rintro e he rfl
  exact hp (List.mem_filter.1 he).2
theorem kc0{x:κ}{y z:ν}{l:List (Ent κ ν)}{c:Nat}(h:WfE l c):oV (dI x z l c).2.2.1 y (dI x z l c).1=(WL x y l c).1∧(dI x z l c).2.1=(WL x y l c).2:=by
 unfold dI WL
 cases hf:QC x l 0 with
 | none =>
  refine⟨?_,rfl⟩
  show oV c y (l++[(x,z,c)])=l++[(x,y,c)]
  unfold oV
  have:(l++[(x,z,c)]).findIdx? (fun e=>e.2.2 == c)=some l.length:=by
   rw[List.findIdx?_eq_some_iff_getElem]
   refine⟨by simp,by simp,fun j hj=>?_⟩
   rw[List.getElem_append_left hj]
   have:=h.below _ (List.getElem_mem hj)
   simp
   omega
  rw[this]
  apply List.ext_getElem (by simp)
  intro j h1 h2
  rw[List.getElem_modify]
  by_cases hj:l.length=j
  ·subst hj;simp
  ·rw[if_neg hj,List.getElem_append_left (by simp at h2;omega),List.getElem_append_left (by simp at h2;omega)]
 | some p =>
  refine⟨?_,rfl⟩
  obtain⟨h1,h2,h3⟩:=lD (i:=p.1) (v:=p.2) hf
  show oV ((l[p.1]?.map (·.2.2)).getD 0) y l=l.modify p.1 _
  rw[List.getElem?_eq_getElem h1]
  unfold oV
  have:l.findIdx? (fun e=>e.2.2 == ((some l[p.1]).map (·.2.2)).getD 0)=some p.1:=by
   rw[List.findIdx?_eq_some_iff_getElem]
   refine⟨h1,by simp,fun j hj=>?_⟩
   have:=List.nodup_iff_pairwise_ne.1 h.stamps
   rw[List.pairwise_iff_getElem] at this
   have:=this j p.1 (by simp;omega) (by simpa using h1) hj
   simpa using this
  rw[this]
end
section
variable {κ ν:Type} [DecidableEq κ]
theorem jA0{l:List (Ent κ ν)}{c:Nat}(h:WfE l c){e:Ent κ ν}(he:e∈l)(y:ν):(WL e.1 y l c).1=l.map (fun e'=>if e'.2.2=e.2.2 then(e'.1,y,e'.2.2) else e')∧(WL e.1 y l c).2=c:=by
 refine⟨?_,(dr0 ⟨e,he,rfl⟩).1⟩
 obtain⟨j,hj,rfl⟩:=List.getElem_of_mem he
 unfold WL
 cases hf:QC l[j].1 l 0 with
 | none=>exact absurd rfl (aN hf _ he)
 | some p =>
  obtain⟨h1,h2,_⟩:=lD (i:=p.1) (v:=p.2) hf
  have hn:=List.nodup_iff_pairwise_ne.1 h.keys
  have hs:=List.nodup_iff_pairwise_ne.1 h.stamps
  rw[List.pairwise_map,List.pairwise_iff_getElem] at hn hs
  have hij:p.1=j:=by
   rcases Nat.lt_trichotomy p.1 j with h | h | h
   ·exact absurd h2 (hn p.1 j h1 hj h)
   ·exact h
   ·exact absurd h2.symm (hn j p.1 hj h1 h)
  show l.modify p.1 _=_
  rw[hij]
  apply List.ext_getElem (by simp)
  intro q q1 q2
  have hq:q<l.length:=by simpa using q1
  rw[List.getElem_modify,List.getElem_map]
  by_cases e:j=q
  ·subst e;rw[if_pos rfl,if_pos rfl]
  ·rw[if_neg e,if_neg]
   intro hh
   rcases Nat.lt_trichotomy q j with h | h | h
   ·exact hs q j hq hj h hh
   ·exact e h.symm
   ·exact hs j q hj hq h hh.symm
end
theorem contains_push{seen:Array Nat}{b x:Nat}:(seen.push b).contains x=(seen.contains x||decide (x=b)):=by
 rw[Bool.eq_iff_iff];simp
theorem Si0{α β:Type}(f:α→β):∀(l:List α) (i:Nat),(l.map f).eraseIdx i=(l.eraseIdx i).map f
 | [],_=>by simp
 | a :: l,0=>by simp
 | a :: l,i+1=>by simp [Si0 f l i]
theorem WfE.yi0{κ ν:Type}{l:List (Ent κ ν)}{c:Nat}(h:WfE l c){x e:Ent κ ν}(hx:x∈l)(he:e∈l)(hk:x.1=e.1):x=e:=by
 obtain⟨i,hi,rfl⟩:=List.getElem_of_mem hx
 obtain⟨j,hj,rfl⟩:=List.getElem_of_mem he
 have hn:=List.nodup_iff_pairwise_ne.1 h.keys
 rw[List.pairwise_map,List.pairwise_iff_getElem] at hn
 rcases Nat.lt_trichotomy i j with h | h | h
 ·exact absurd hk (hn i j hi hj h)
 ·subst h;rfl
 ·exact absurd hk.symm (hn j i hj hi h)
theorem WfE.UV{κ ν:Type}{l:List (Ent κ ν)}{c:Nat}(h:WfE l c){x e:Ent κ ν}(hx:x∈l)(he:e∈l)(hk:x.2.2=e.2.2):x=e:=by
 obtain⟨i,hi,rfl⟩:=List.getElem_of_mem hx
 obtain⟨j,hj,rfl⟩:=List.getElem_of_mem he
 have hn:=List.nodup_iff_pairwise_ne.1 h.stamps
 rw[List.pairwise_map,List.pairwise_iff_getElem] at hn
 rcases Nat.lt_trichotomy i j with h | h | h
 ·exact absurd hk (hn i j hi hj h)
 ·subst h;rfl
 ·exact absurd hk.symm (hn j i hj hi h)
def dJ{κ ν:Type}(l:List (Ent κ ν))(seen:Array Nat):Nat:=(l.filter fun e=>!seen.contains e.2.2).length
theorem Aa0{α:Type}{p q:α→Bool}{l:List α}(hpq:∀x∈l,p x=true→q x=true){e:α}(he:e∈l)(h1:p e=false)(h2:q e=true):(l.filter p).length<(l.filter q).length:=by
 induction l with
 | nil=>cases he
 | cons a l ih =>
  have hle:∀l:List α,(∀x∈l,p x=true→q x=true)→(l.filter p).length≤(l.filter q).length:=by
   intro l
   induction l with
   | nil=>intro _;exact Nat.le_refl _
   | cons a l ih =>
    intro h
    have:=ih fun x hx=>h x (List.mem_cons_of_mem _ hx)
    have ha:=h a List.mem_cons_self
    rw[List.filter_cons,List.filter_cons]
    by_cases hp:p a=true
    ·rw[if_pos hp,if_pos (ha hp)];simp only[List.length_cons];omega
    ·rw[if_neg hp]
     split
     ·simp only[List.length_cons];omega
     ·exact this
  have hr:=hle l fun x hx=>hpq x (List.mem_cons_of_mem _ hx)
  rw[List.filter_cons,List.filter_cons]
  rcases List.mem_cons.1 he with rfl | he
  ·rw[if_neg (by rw[h1];decide),if_pos h2]
   simp only[List.length_cons];omega
  ·have:=ih (fun x hx=>hpq x (List.mem_cons_of_mem _ hx)) he
   have ha:=hpq a List.mem_cons_self
   by_cases hp:p a=true
   ·rw[if_pos hp,if_pos (ha hp)];simp only[List.length_cons];omega
   ·rw[if_neg hp]
    split
    ·simp only[List.length_cons];omega
    ·exact this
theorem eQ{κ ν:Type}{l:List (Ent κ ν)}{seen:Array Nat}{e:Ent κ ν}(he:e∈l)(hs:seen.contains e.2.2=false):dJ l (seen.push e.2.2)<dJ l seen:=by
 refine Aa0 (fun x _ hx=>?_) he (by simp [contains_push]) (by rw[hs];rfl)
 rw[contains_push] at hx
 cases hc:seen.contains x.2.2
 ·rfl
 ·rw[hc] at hx;simp at hx
def iN(w:World)(it:Nat):Array Nat:=match w.heap[it]? with
 | some (.mapIter _ _ s _)=>s
 | _=>#[]
section
variable {κ ν:Type} [Enc κ] [Enc ν]
def W9(m:Nat)(l:List (Ent κ ν))(c:Nat):Dat:=⟨fun B=>B.keep m∧B.W.heap[m]? = some (.map (l.map JC).toArray c),fun {B B'} hl ⟨h1,h2⟩=>by
 obtain⟨h3,h4⟩:=hl m h1 (Array.getElem?_eq_some_iff.1 h2).1
 exact⟨h3,h4.trans h2⟩⟩
def nW(it m since:Nat)(seen:Array Nat)(last:Nat):Dat:=⟨fun B=>B.keep it∧B.W.heap[it]? = some (.mapIter (some m) since seen last),fun {B B'} hl ⟨h1,h2⟩=>by
 obtain⟨h3,h4⟩:=hl it h1 (Array.getElem?_eq_some_iff.1 h2).1
 exact⟨h3,h4.trans h2⟩⟩
end
theorem xN{B:Base}{w:World}{σ:List Dat}{j it m since last:Nat}{seen:Array Nat}(h:Rel B w σ)(hj:σ[j]? = some (nW it m since seen last)):iN w it=seen:=by
 have:w.heap[it]? = some (.mapIter (some m) since seen last):=(h.here hj).2
 unfold iN
 rw[this]
abbrev oO(m:Nat):Value := .map (some m)
section
variable {P:Program} {K:Value→World→Prop} {Kp:Value→Prop} {B:Base} {w:World} {σ:List Dat} {T k E:TypeId} {m c:Nat} {κ ν:Type} [Enc κ] [Enc ν] [DecidableEq κ] {l:List (Ent κ ν)}
theorem Rel.setObj(h:Rel B w σ)(i:Nat){d e:Dat}{r:Nat}{o:Obj}(hi:σ[i]? = some e)(he:∀B:Base,e B→B.keep r∧r<B.W.heap.size)(hd:∀B:Base,B.keep r→B.W.heap[r]? = some o→d B):Rel B { w with heap:=w.heap.setIfInBounds r o } (σ.set i d):=by
 obtain⟨cc,h⟩:=h
 obtain⟨hk,hs⟩:=he _ (h.own i e hi)
 have hk:cc r=i+1:=hk
 have hs:r<w.heap.size:=hs
 refine⟨cc,h.step hi ⟨rfl,rfl,rfl,by simp,fun _ _=>rfl,fun j hj hT=>?_⟩ (hd _ hk (by simp [hs]))⟩
 have hjr:r≠j:=by rintro rfl;exact hT hk
 exact Array.getElem?_setIfInBounds_ne hjr
omit [DecidableEq κ] in
theorem W9.lt{B:Base}(h:W9 m l c B):B.keep m∧m<B.W.heap.size:=⟨h.1,(Array.getElem?_eq_some_iff.1 h.2).1⟩
theorem nW.lt{B:Base}{it m since last:Nat}{seen:Array Nat}(h:nW it m since seen last B):B.keep it∧it<B.W.heap.size:=⟨h.1,(Array.getElem?_eq_some_iff.1 h.2).1⟩
theorem mP{r:Nat}{o:Obj}(h:w.heap[r]? = some o)(hn:∀a b f,o ≠ .cells a b f):(getObj r).run P w = .ok o w:=by
 unfold getObj
 simp only[Sem.run,h]
theorem gN{r:Nat}{o o':Obj}(h:w.heap[r]? = some o)(hn:∀a b f,o ≠ .cells a b f):(setObj r o').run P w = .ok () { w with heap:=w.heap.setIfInBounds r o' }:=by
 unfold Go.setObj
 simp only[Sem.run,h]
theorem Rel.mkMap(h:Rel B w σ)(κ ν:Type)[Enc κ][Enc ν](k:∀m w',Rel B w' (σ++[W9 m ([]:List (Ent κ ν)) 0])→K (oO m) w'):upK P (Jg0 T none) w K:=by
 obtain⟨cc,h⟩:=h
 refine vC (v := .map (some w.heap.size)) (w':=w.alloc (.map #[] 0)) (X9 ?_) (k _ _ ⟨WF cc w.heap.size (σ.length+1),h.push (Step.alloc nobody cc w _ _) ⟨by simp [WF],heap_alloc_new w _⟩⟩)
 rfl
theorem Vn0(hb:w.heap[m]? = some (.map (l.map JC).toArray c))(hT:P.underlying T=some (.map k E))(hk:KeyTy P k κ)(z:ν)(hz:(P.info? E).bind (·.zero)=some (Enc.val z))(x:κ)(ok:Bool) :
  (Instr.lookup T (.map (some m)) (Enc.val x) ok).run P w = .ok (if ok then .tuple #[Enc.val ((SF x l).getD z),.bool (SF x l).isSome] else Enc.val ((SF x l).getD z)) w:=by
 have hzr:(zeroValue E).run P w = .ok (Enc.val z) w:=by
  cases hi:P.info? E with
  | none=>rw[hi] at hz;cases hz
  | some i =>
   rw[hi] at hz
   simp only[Option.bind_some] at hz
   simp [zeroValue,typeInfo,hi,hz]
 unfold Instr.lookup
 rw[Sem.run_bind,run_underlying hT]
 simp only[Result.andThen_ok]
 rw[Sem.run_bind]
 simp only[bind_assoc,pure_bind]
 rw[mP hb (by intro a b f h;cases h)]
 simp only[Result.andThen_ok]
 rw[Sem.run_bind,hk.chk]
 simp only[Result.andThen_ok]
 rw[Sem.run_bind,hk.find]
 simp only[Result.andThen_ok]
 unfold SF
 cases hf:QC x l 0 with
 | none=>simp [hzr]
 | some p=>simp
theorem W9.look{w:World}(h:(W9 m l c).here w)(hT:P.underlying T=some (.map k E))(hk:KeyTy P k κ)(z:ν)(hz:(P.info? E).bind (·.zero)=some (Enc.val z))(x:κ){xv yv:Value}(hx:xv=Enc.val x:=by rfl)(hy:yv=Enc.val ((SF x l).getD z):=by rfl) :
  Y0 P (XJ T (.map (some m)) xv false) w Kp=Kp yv:=by
 subst hx hy
 exact bQ (X9 (Vn0 h.2 hT hk z hz x false))
theorem Rel.lookup(h:Rel B w σ)(i:Nat)(hi:σ[i]? = some (W9 m l c))(hT:P.underlying T=some (.map k E))(hk:KeyTy P k κ)(z:ν)(hz:(P.info? E).bind (·.zero)=some (Enc.val z))(x:κ){xv yv:Value}(hx:xv=Enc.val x:=by rfl)(hy:yv=Enc.val ((SF x l).getD z):=by rfl) :
  Y0 P (XJ T (.map (some m)) xv false) w Kp=Kp yv:=by
 subst hx hy
 exact bQ (X9 (Vn0 (h.here hi).2 hT hk z hz x false))
theorem Rel.Of0(h:Rel B w σ)(i:Nat)(hi:σ[i]? = some (W9 m l c))(hT:P.underlying T=some (.map k E))(hk:KeyTy P k κ)(x:κ)(y:ν){xv yv:Value}(kk:∀w',Rel B w' (σ.set i (W9 m (WL x y l c).1 (WL x y l c).2))→K undef w')(hx:xv=Enc.val x:=by rfl)(hy:yv=Enc.val y:=by rfl) :
  upK P (iX T (.map (some m)) xv yv) w K:=by
 subst hx hy
 have hb:=(h.here hi).2
 have hb:w.heap[m]? = some (.map (l.map JC).toArray c):=hb
 refine UZ (w':={ w with heap:=w.heap.setIfInBounds m (.map ((WL x y l c).1.map JC).toArray (WL x y l c).2) }) (em0 ?_) (kk _ (h.setObj i hi (fun B hb=>W9.lt hb) fun B h1 h2=>⟨h1,h2⟩))
 unfold Instr.mapUpdate
 rw[Sem.run_bind,run_underlying hT]
 simp only[Result.andThen_ok]
 rw[Sem.run_bind,mP hb (by intro a b f h;cases h)]
 simp only[Result.andThen_ok]
 rw[Sem.run_bind,hk.chk]
 simp only[Result.andThen_ok]
 rw[Sem.run_bind,hk.find]
 simp only[Result.andThen_ok]
 unfold WL
 cases hf:QC x l 0 with
 | none =>
  simp only[Option.map_none]
  rw[gN hb (by intro a b f h;cases h)]
  congr 4
  simp [JC]
 | some p =>
  obtain⟨h1,h2,_⟩:=lD (i:=p.1) (v:=p.2) hf
  simp only[Option.map_some]
  have e1:(((l.map JC).toArray[p.1]?).map (·.key)).getD (Enc.val x)=Enc.val x:=by simp [h1,JC,h2]
  have e2:(Instr.keyThatStays (Enc.val x) (Enc.val x)).run P w = .ok (Enc.val x) w:=by
   unfold Instr.keyThatStays
   rw[if_pos (hk.bits x)]
   rfl
  rw[e1,Sem.run_bind,e2]
  simp only[Result.andThen_ok]
  rw[gN hb (by intro a b f h;cases h)]
  congr 4
  apply Array.ext'
  rw[Array.toList_modify]
  apply List.ext_getElem (by simp)
  intro j hj1 hj2
  simp only[List.getElem_modify,List.getElem_map,List.getElem_toArray]
  split
  ·rename_i e;subst e;simp [JC,h2]
  ·rfl
theorem Rel.mapEntry(h:Rel B w σ)(i:Nat)(hi:σ[i]? = some (W9 m l c))(hT:P.underlying T=some (.map k E))(hk:KeyTy P k κ)(z:ν)(hz:(P.info? E).bind (·.zero)=some (Enc.val z))(x:κ){xv:Value}
  (kk:∀w',Rel B w' (σ.set i (W9 m (dI x z l c).1 (dI x z l c).2.1))→K (.tuple #[Enc.val (dI x z l c).2.2.2,.int .i64 (dI x z l c).2.2.1]) w') (hx:xv=Enc.val x:=by rfl) :
  upK P (Fb0 T (.map (some m)) xv) w K:=by
 subst hx
 have hb:=(h.here hi).2
 have hb:w.heap[m]? = some (.map (l.map JC).toArray c):=hb
 have hzr:(zeroValue E).run P w = .ok (Enc.val z) w:=by
  cases hi:P.info? E with
  | none=>rw[hi] at hz;cases hz
  | some i =>
   rw[hi] at hz
   simp only[Option.bind_some] at hz
   simp [zeroValue,typeInfo,hi,hz]
 refine vC (w':={ w with heap:=w.heap.setIfInBounds m (.map ((dI x z l c).1.map JC).toArray (dI x z l c).2.1) }) (X9 ?_) (kk _ (h.setObj i hi (fun B hb=>W9.lt hb) fun B h1 h2=>⟨h1,h2⟩))
 unfold Instr.mapEntry
 rw[Sem.run_bind,run_underlying hT]
 simp only[Result.andThen_ok]
 rw[Sem.run_bind,mP hb (by intro a b f h;cases h)]
 simp only[Result.andThen_ok]
 rw[Sem.run_bind,hk.chk]
 simp only[Result.andThen_ok]
 rw[Sem.run_bind,hk.find]
 simp only[Result.andThen_ok]
 unfold dI
 cases hf:QC x l 0 with
 | none =>
  simp only[Option.map_none]
  rw[Sem.run_bind,hzr]
  simp only[Result.andThen_ok]
  rw[Sem.run_bind,gN hb (by intro a b f h;cases h)]
  simp [JC,goInt]
 | some p =>
  obtain⟨h1,h2,_⟩:=lD (i:=p.1) (v:=p.2) hf
  simp only[Option.map_some]
  have e1:(((l.map JC).toArray[p.1]?).map (·.key)).getD (Enc.val x)=Enc.val x:=by simp [h1,JC,h2]
  have e2:(Instr.keyThatStays (Enc.val x) (Enc.val x)).run P w = .ok (Enc.val x) w:=by
   unfold Instr.keyThatStays
   rw[if_pos (hk.bits x)]
   rfl
  rw[e1,Sem.run_bind,e2]
  simp only[Result.andThen_ok]
  rw[Sem.run_bind,gN hb (by intro a b f h;cases h)]
  have e3:((l.map JC).toArray.modify p.1 fun e=>{ e with key:=Enc.val x })=(l.map JC).toArray:=by
   apply Array.ext'
   rw[Array.toList_modify]
   apply List.ext_getElem (by simp)
   intro j hj1 hj2
   simp only[List.getElem_modify,List.getElem_map,List.getElem_toArray]
   split
   ·rename_i e;subst e;simp [JC,h2]
   ·rfl
  simp only[Result.andThen_ok,e3]
  simp [goInt,h1,JC]
omit [DecidableEq κ] in
theorem Rel.entryStore(h:Rel B w σ)(i:Nat)(hi:σ[i]? = some (W9 m l c)){b:Nat}(hin:∃e∈l,e.2.2=b)(y:ν){yv:Value}(kk:∀w',Rel B w' (σ.set i (W9 m (oV b y l) c))→K undef w')(hy:yv=Enc.val y:=by rfl) :
  upK P (DW T (.map (some m)) (.int .i64 b) yv) w K:=by
 subst hy
 have hb:=(h.here hi).2
 have hb:w.heap[m]? = some (.map (l.map JC).toArray c):=hb
 refine UZ (w':={ w with heap:=w.heap.setIfInBounds m (.map ((oV b y l).map JC).toArray c) }) (em0 ?_) (kk _ (h.setObj i hi (fun B hb=>W9.lt hb) fun B h1 h2=>⟨h1,h2⟩))
 unfold Instr.entryStore
 rw[Sem.run_bind,mP hb (by intro a b f h;cases h)]
 simp only[Result.andThen_ok]
 have hA:(asInt (.int .i64 b)).run P w = .ok (b:Int) w:=by simp [asInt,asIntOf]
 rw[Sem.run_bind,hA]
 simp only[Result.andThen_ok]
 have hf:(l.map JC).toArray.findIdx? (fun e=>(e.born:Int) == (b:Int))=l.findIdx? fun e=>e.2.2 == b:=by
  simp only[List.findIdx?_toArray,List.findIdx?_map]
  congr 1
  funext e
  simp only[Function.comp_apply,JC]
  rw[Bool.eq_iff_iff]
  simp
  omega
 rw[hf]
 unfold oV
 cases hfi:l.findIdx? fun e=>e.2.2 == b with
 | none =>
  obtain⟨e,he,h1⟩:=hin
  have:=List.findIdx?_eq_none_iff.1 hfi e he
  simp [h1] at this
 | some j =>
  simp only[]
  rw[gN hb (by intro a b f h;cases h)]
  congr 4
  apply Array.ext'
  rw[Array.toList_modify]
  apply List.ext_getElem (by simp)
  intro q hj1 hj2
  simp only[List.getElem_modify,List.getElem_map,List.getElem_toArray]
  split<;>rfl
theorem Rel.delete(h:Rel B w σ)(i:Nat)(hi:σ[i]? = some (W9 m l c))(hT:P.underlying T=some (.map k E))(hk:KeyTy P k κ)(x:κ){xv:Value}{U:TypeId}{bs:Array Bool}(kk:∀w',Rel B w' (σ.set i (W9 m (Ap0 x l) c))→K (.tuple #[]) w')(hx:xv=Enc.val x:=by rfl) :
  upK P (M5 .delete #[T,k] U bs #[.map (some m),xv]) w K:=by
 subst hx
 have hb:=(h.here hi).2
 have hb:w.heap[m]? = some (.map (l.map JC).toArray c):=hb
 refine vC (v := .tuple #[]) (w':={ w with heap:=w.heap.setIfInBounds m (.map ((Ap0 x l).map JC).toArray c) }) (X9 ?_) (kk _ (h.setObj i hi (fun B hb=>W9.lt hb) fun B h1 h2=>⟨h1,h2⟩))
 unfold Builtin.delete_
 simp only[List.getElem?_toArray,List.getElem?_cons_zero,List.getElem?_cons_succ]
 rw[Sem.run_bind,run_underlying hT]
 simp only[Result.andThen_ok]
 rw[Sem.run_bind]
 rw[mP hb (by intro a b f h;cases h)]
 simp only[Result.andThen_ok]
 rw[Sem.run_bind,hk.chk]
 simp only[Result.andThen_ok]
 rw[Sem.run_bind,hk.find]
 simp only[Result.andThen_ok]
 unfold Ap0
 cases hf:QC x l 0 with
 | none =>
  simp only[Option.map_none]
  rw[Sem.run_bind,gN hb (by intro a b f h;cases h)]
  rfl
 | some p =>
  obtain⟨h1,h2,_⟩:=lD (i:=p.1) (v:=p.2) hf
  simp only[Option.map_some]
  have:((l.map JC).toArray.eraseIdxIfInBounds p.1)=((l.eraseIdx p.1).map JC).toArray:=by
   apply Array.ext'
   simp [Array.eraseIdxIfInBounds,h1,Si0]
  rw[Sem.run_bind,gN hb (by intro a b f h;cases h),this]
  rfl
omit [DecidableEq κ] in
theorem Js0(h:Rel B w σ)(i:Nat)(hi:σ[i]? = some (W9 m l c))(hT:P.underlying T=some (.map k E)){U:TypeId}{bs:Array Bool}:Y0 P (M5 .len #[T] U bs #[.map (some m)]) w Kp=Kp (.int .i64 l.length):=bQ (X9 (by
 have hb:w.heap[m]? = some (.map (l.map JC).toArray c):=(h.here hi).2
 have hg:=mP (P:=P) hb (by intro a b f h;cases h)
 simp [Builtin.len_,run_underlying hT,hg,goInt]))
omit [DecidableEq κ] in
theorem Rel.range(h:Rel B w σ)(i:Nat)(hi:σ[i]? = some (W9 m l c))(hT:P.underlying T=some (.map k E))(kk:∀it w',Rel B w' (σ++[nW it m c #[] c])→K (.pointer (some ⟨it,0,none⟩)) w'):upK P (Il0 T (.map (some m))) w K:=by
 have hb:w.heap[m]? = some (.map (l.map JC).toArray c):=(h.here hi).2
 have hrun:=run_range_map (P:=P) w T k E m _ c hT hb
 obtain⟨cc,h⟩:=h
 refine vC (X9 hrun) (kk _ _ ⟨WF cc w.heap.size (σ.length+1),h.push (Step.alloc nobody cc w _ _) ⟨by simp [WF],heap_alloc_new w _⟩⟩)
omit [DecidableEq κ] in
theorem Rel.next(h:Rel B w σ)(i j it:Nat){seen:Array Nat}(hi:σ[i]? = some (W9 m l c))(hj:σ[j]? = some (nW it m c seen c))(hb:∀e∈l,e.2.2<c)
  (k0:∀w',(∀e∈l,seen.contains e.2.2=true)→Rel B w' σ→K (.tuple #[.bool false]) w')
  (k1:∀e w',e∈l→seen.contains e.2.2=false→Rel B w' (σ.set j (nW it m c (seen.push e.2.2) c))→K (.tuple #[.bool true,Enc.val e.1,Enc.val e.2.1]) w'):upK P (tt0 (.pointer (some ⟨it,0,none⟩)) false T) w K:=by
 have hm:w.heap[m]? = some (.map (l.map JC).toArray c):=(h.here hi).2
 have hit:w.heap[it]? = some (.mapIter (some m) c seen c):=(h.here hj).2
 have hold:∀x∈(l.map JC).toArray.toList,x.born<c:=by
  intro x hx
  have hx:x∈l.map JC:=by simpa only[List.toList_toArray] using hx
  obtain⟨e,he,rfl⟩:=List.mem_map.1 hx
  exact hb e he
 rcases run_next_at (P:=P) w T it m c c seen _ c hit hm hold (Nat.le_refl _) with⟨h0,hr⟩ | ⟨x,hx,w1,hw,hr⟩
 ·refine vC (X9 hr) (k0 w (fun e he=>?_) h)
  have he0:leftOf (l.map JC).toArray seen=#[]:=Array.eq_empty_of_size_eq_zero h0
  cases hc:seen.contains e.2.2 with
  | true=>rfl
  | false =>
   have:JC e∈(leftOf (l.map JC).toArray seen):=by
    unfold leftOf
    rw[Array.mem_filter]
    refine⟨by simp;exact⟨e.1,e.2.1,e.2.2,he,rfl⟩,?_⟩
    show (!seen.contains e.2.2)=true
    rw[hc];rfl
   rw[he0] at this
   simp at this
 ·have hx':x∈leftOf (l.map JC).toArray seen:=by simpa using hx
  unfold leftOf at hx'
  rw[Array.mem_filter] at hx'
  obtain⟨hx1,hx2⟩:=hx'
  obtain⟨e,he,rfl⟩:=List.mem_map.1 (List.mem_toArray.1 hx1)
  have hns:seen.contains e.2.2=false:=by
   have:(!seen.contains e.2.2)=true:=hx2
   simpa using this
  have h1:Rel B w1 σ:=by
   rcases hw with rfl | rfl
   ·exact h
   ·exact h.tick
  exact vC (X9 hr) (k1 e _ he hns (h1.setObj j hj (fun B hb=>nW.lt hb) fun B h1 h2=>⟨h1,h2⟩))
omit [DecidableEq κ] in
theorem Rel.entry(h:Rel B w σ)(i j it:Nat){seen:Array Nat}(hi:σ[i]? = some (W9 m l c)){e:Ent κ ν}(hj:σ[j]? = some (nW it m c (seen.push e.2.2) c))(he:e∈l)(hn:(l.map (·.2.2)).Nodup)
  (kk:∀w',Rel B w' σ→K (.tuple #[Enc.val e.1,Enc.val e.2.1]) w'):upK P (El0 (.pointer (some ⟨it,0,none⟩))) w K:=by
 have hm:w.heap[m]? = some (.map (l.map JC).toArray c):=(h.here hi).2
 have hit:w.heap[it]? = some (.mapIter (some m) c (seen.push e.2.2) c):=(h.here hj).2
 have:=run_entry_at (P:=P) w it m c seen (l.map JC).toArray c (JC e) hit hm (by simp;exact⟨e.1,e.2.1,e.2.2,he,rfl⟩) (by simpa [Function.comp_def,JC] using hn)
 exact vC (X9 this) (kk w h)
omit [Enc κ] [Enc ν] [DecidableEq κ] in
omit [Enc κ] [Enc ν] [DecidableEq κ] in
end
end Go.Proofs.YtngbebnhegcokaaGreatDoor

namespace Go.Proofs.YtngbebnhegcokaaGreatDoor
open Go.RowKit
set_option maxRecDepth 100000
abbrev YA:=kN
abbrev Sec:=G9
def GZ(s:List UInt8)(at_ n:Nat):List UInt8:=s++List.replicate (max s.length (at_+n)-s.length) 0
theorem uW(s:List UInt8)(at_ n:Nat):(GZ s at_ n).length=max s.length (at_+n):=by
 unfold GZ
 rw[List.length_append,List.length_replicate]
 omega
def Kq0(s:List UInt8)(at_:Nat)(t:List UInt8):List UInt8:=(GZ s at_ t.length).take at_++t++(GZ s at_ t.length).drop (at_+t.length)
theorem mo0(s:List UInt8)(at_:Nat)(t:List UInt8):(Kq0 s at_ t).length=max s.length (at_+t.length):=by
 unfold Kq0
 rw[List.length_append,List.length_append,List.length_take,List.length_drop,uW]
 omega
theorem Bz0(s:List UInt8)(at_:Nat)(t:List UInt8)(i:Nat):(Kq0 s at_ t).getD i 0=if at_≤i∧i<at_+t.length then t.getD (i-at_) 0 else s.getD i 0:=by
 have hp:∀j,(GZ s at_ t.length).getD j 0=s.getD j 0:=by
  intro j
  unfold GZ
  simp only[List.getD_eq_getElem?_getD]
  rcases Nat.lt_or_ge j s.length with h | h
  ·rw[List.getElem?_append_left h]
  ·rw[List.getElem?_append_right h,List.getElem?_replicate,List.getElem?_eq_none h]
   split<;>rfl
 unfold Kq0
 simp only[List.getD_eq_getElem?_getD]
 have hl:=uW s at_ t.length
 by_cases h1:at_≤i
 ·by_cases h2:i<at_+t.length
  ·rw[if_pos ⟨h1,h2⟩,List.append_assoc,List.getElem?_append_right (by rw[List.length_take];omega),List.length_take,Nat.min_eq_left (by omega),List.getElem?_append_left (by omega)]
  ·rw[if_neg (by omega),List.getElem?_append_right (by rw[List.length_append,List.length_take];omega),List.length_append,List.length_take,Nat.min_eq_left (by omega),List.getElem?_drop]
   have:=hp i
   simp only[List.getD_eq_getElem?_getD] at this
   rw[←this]
   congr 2
   omega
 ·rw[if_neg (by omega),List.append_assoc,List.getElem?_append_left (by rw[List.length_take];omega),List.getElem?_take,if_pos (by omega)]
  have:=hp i
  simp only[List.getD_eq_getElem?_getD] at this
  exact this
def JO(s:ByteArray)(at_:Nat)(t:ByteArray):ByteArray:=if t=⟨#[]⟩ then s else ofL (Kq0 (bl s) at_ (bl t))
theorem Gx0{t:ByteArray}:t=⟨#[]⟩↔bl t=[]:=by
 constructor
 ·rintro rfl;rfl
 ·intro h;rw[←fV t,h]
section
variable {B:Base}
theorem sE0{s t:ByteArray}{at_:Nat}(hs:s.size≤1073741824)(ht:t.size≤1073741824)(ha:at_≤1073741824):Gives Tryz.prog B (Z0 DU #[.string s,.int .i64 at_,.string t]) (.string (JO s at_ t)):=by
 refine Gives.intro fun B' w K base h k=>?_
 refine lZ.up ?_
 unfold lZ.pt
 rw[VW,K3]
 refine⟨fun e=>?_,fun e=>?_⟩
 ·unfold JO at k
  rw[if_pos e] at k
  exact k _ _ h
 ·unfold JO at k
  rw[if_neg e] at k
  have hs':=B_ s
  have ht':=B_ t
  have hw:IntKind.i64.wrap ((at_:Int)+((bl t).length:Int))=((at_+(bl t).length:Nat):Int):=by rw[E5 (by omega) (by omega)];omega
  have hm:max ((bl s).length:Int) ((at_+(bl t).length:Nat):Int)=((max (bl s).length (at_+(bl t).length):Nat):Int):=by omega
  simp -zeta only[aK K8,Z5,hw,II,hm]
  generalize hn:max (bl s).length (at_+(bl t).length)=n
  refine h.mkSlice (n:=n) (0:UInt8) jN (by kernel_rfl) (by omega) (by omega) fun v w1 h nv=>?_
  obtain⟨g,cap,rfl⟩:=h.Us0 (i:=0) rfl nv
  have hlen:(List.replicate n (0:UInt8)).length=n:=List.length_replicate
  refine h.Rr0 0 (g:=g) (n:=(List.replicate n (0:UInt8)).length) (cap:=cap) (lo:=0) (a:=some ⟨g,0,none⟩) (dc:=cap) rfl jN (Nat.zero_le _) (.inl rfl) fun w2 h=>?_
  have e1:(List.replicate n (0:UInt8)).take 0++(bl s).take ((List.replicate n (0:UInt8)).length-0)++(List.replicate n (0:UInt8)).drop (0+((bl s).take ((List.replicate n (0:UInt8)).length-0)).length)=GZ (bl s) at_ (bl t).length:=by
   unfold GZ
   rw[hlen,Nat.sub_zero,List.take_of_length_le (show (bl s).length≤n by omega),Nat.zero_add,List.drop_replicate,hn]
   rfl
  rw[e1] at h
  have hpl:=uW (bl s) at_ (bl t).length
  have h:Rel B' w2 [Y3 p_ (.slice (some ⟨g,0,none⟩) (List.replicate n (0:UInt8)).length cap) (GZ (bl s) at_ (bl t).length)]:=h
  have hcap:n≤cap:=by
   obtain⟨_,_,he,hc,_⟩:=Y3.read (h.here (i:=0) rfl)
   injection he with _ e2 e3
   omega
  obtain⟨a,ha2,hcut⟩:=FB0 (α:=UInt8) (P:=Tryz.prog) (g:=g) (n:=(List.replicate n (0:UInt8)).length) (cap:=cap) (lo:=at_) jN (by omega) (by omega)
  simp -zeta only[hcut]
  refine h.Rr0 0 (g:=g) (n:=(List.replicate n (0:UInt8)).length) (cap:=cap) (lo:=at_) (a:=a) rfl jN (by omega) (ha2.imp id fun hh=>⟨by omega,hh.2⟩) fun w3 h=>?_
  have e2:(GZ (bl s) at_ (bl t).length).take at_++(bl t).take ((GZ (bl s) at_ (bl t).length).length-at_)++(GZ (bl s) at_ (bl t).length).drop (at_+((bl t).take ((GZ (bl s) at_ (bl t).length).length-at_)).length)=Kq0 (bl s) at_ (bl t):=by
   unfold Kq0
   rw[List.take_of_length_le (show (bl t).length≤(GZ (bl s) at_ (bl t).length).length-at_ by omega)]
  rw[e2] at h
  exact h.toStr (Rd.at (E:=p_) 0 rfl) ia0 OW K8 (k _ _ h)
end
end Go.Proofs.YtngbebnhegcokaaGreatDoor

namespace Go.Proofs.YtngbebnhegcokaaGreatDoor
open Go.RowKit
structure DS where
 fs:Int→YA
 queue:List Sec
 lost:Int
 down:Bool
 armed:Int
 keep:List Int
def F0:YA:=⟨⟨#[]⟩,⟨#[]⟩⟩
def upd(fs:Int→YA)(f:Int)(x:YA):Int→YA:=fun g=>if g=f then x else fs g
theorem upd_same{fs:Int→YA}{f:Int}{x:YA}:upd fs f x f=x:=if_pos rfl
theorem upd_ne{fs:Int→YA}{f g:Int}{x:YA}(h:g≠f):upd fs f x g=fs g:=if_neg h
def iC:DS:=⟨fun _=>F0,[],0,false,0,[]⟩
def CV(s:DS)(f:Int):Int:=if s.down=true then 9 else if f<0 then 1 else if 16≤f then 1 else 0
theorem qU{s:DS}{f:Int}:CV s f=0↔s.down=false∧0≤f∧f<16:=by
 unfold CV
 cases s.down
 ·simp
  split
  ·simp;omega
  ·split
   ·simp;omega
   ·simp;omega
 ·simp
def gi0(f:Int)(q:List Sec)(n:Nat):List Sec:=if(⟨f,n⟩:Sec)∈q then q else q++[⟨f,n⟩]
def JU(f:Int)(q:List Sec)(ns:List Nat):List Sec:=ns.foldl (gi0 f) q
def secs(at_ n:Nat):List Nat:=(List.range ((at_+n-1) / 64+1-at_ / 64)).map fun i=>at_ / 64+i
def KJ(s:DS)(f:Int)(at_:Nat)(t:ByteArray):DS :=
 if t=⟨#[]⟩ then s else { s with fs:=upd s.fs f ⟨JO (s.fs f).now at_ t,(s.fs f).last⟩,queue:=JU f s.queue (secs at_ t.size) }
def ZL(s:DS)(f at_:Int)(t:ByteArray):Int:=if CV s f≠0 then CV s f else if at_<0 then 1 else if 16777216<at_ then 6 else if 16777216-at_<t.size then 6 else 0
def fG(s:DS)(f at_:Int)(t:ByteArray):DS:=if ZL s f at_ t=0 then KJ s f at_.toNat t else s
def gj0(now:ByteArray)(n:Nat):ByteArray:=ofL (((bl now).take (min (n+64) now.size)).drop n)
def yV(keep:List Int)(i:Nat)(q:Sec)(fs:Int→YA):Int→YA :=
 if keep=[] then fs else if keep.getD (i % keep.length) 0 % 2=0 then fs else if(fs q.file).now.size≤64 * q.number.toNat then fs else upd fs q.file ⟨(fs q.file).now,JO (fs q.file).last (64 * q.number.toNat) (gj0 (fs q.file).now (64 * q.number.toNat))⟩
def FK(keep:List Int)(qs:List Sec)(fs:Int→YA):Nat→Int→YA
 | 0=>fs
 | i+1=>yV keep i (qs.getD i ⟨0,0⟩) (FK keep qs fs i)
def SL(s:DS)(keep:List Int):DS :=
 if s.down=true then s else { s with fs:=fun f=>⟨(FK keep s.queue s.fs s.queue.length f).last,(FK keep s.queue s.fs s.queue.length f).last⟩,queue:=[],down:=true,armed:=0 }
def JX(s:DS):Bool:=!s.down&&(!decide (s.armed=0)&&decide (s.armed-1=0))
def vF(s:DS):DS:=if s.down=true∨s.armed=0 then s else { s with armed:=s.armed-1 }
def fB(s:DS)(f at_:Int)(t:ByteArray):DS×Int:=if JX s=true then(SL (fG (vF s) f at_ t) (fG (vF s) f at_ t).keep,9) else(fG (vF s) f at_ t,ZL (vF s) f at_ t)
def TF(s:DS):DS:=if JX s=true then SL (vF s) (vF s).keep else vF s
def OM(s:DS)(f:Int)(x:ByteArray):DS:={ s with fs:=upd s.fs f ⟨x,x⟩,queue:=s.queue.filter fun q=>!decide (q.file=f) }
def L9(s:DS)(f:Int):DS×Int :=
 if CV (TF s) f≠0 then(TF s,CV (TF s) f) else if 0<(TF s).lost then({ TF s with lost:=(TF s).lost-1 },10) else(OM (TF s) f ((TF s).fs f).now,0)
def LD(s:DS)(f at_ size:Int):ByteArray×Int :=
 if CV s f≠0 then(⟨#[]⟩,CV s f) else if at_<0 then(⟨#[]⟩,1) else if size<0 then(⟨#[]⟩,1) else(ofL (((bl (s.fs f).now).drop at_.toNat).take size.toNat),0)
structure DOk (s:DS):Prop where
 now:∀f,(s.fs f).now.size≤16777216
 last:∀f,(s.fs f).last.size≤16777216
 q:∀q∈s.queue,(0≤q.file∧q.file<16)∧0≤q.number∧q.number<262144
 nd:s.queue.Nodup
 lost:0≤s.lost∧s.lost≤9223372036854775807
 armed:0≤s.armed∧s.armed≤9223372036854775807
theorem do0:∀(n:Nat) (l:List Nat),l.Nodup→(∀x∈l,x<n)→l.length≤n
 | 0,l,_,h=>by
  cases l with
  | nil=>exact Nat.le_refl _
  | cons a l=>exact absurd (h a List.mem_cons_self) (Nat.not_lt_zero a)
 | n+1,l,hn,h=>by
  have h1:=do0 n (l.filter fun x=>decide (x≠n)) (hn.filter _) fun x hx=>by
   obtain⟨h2,h3⟩:=List.mem_filter.1 hx
   have:=h x h2
   have:=of_decide_eq_true h3
   omega
  have h2:∀l:List Nat,l.Nodup→l.length≤(l.filter fun x=>decide (x≠n)).length+1:=by
   intro l
   induction l with
   | nil=>intro _;simp
   | cons a l ih =>
    intro hn
    rw[List.nodup_cons] at hn
    rw[List.filter_cons]
    by_cases e:a=n
    ·subst e
     rw[if_neg (by simp)]
     rw[List.filter_eq_self.2 fun x hx=>decide_eq_true (p:=x≠a) fun e=>hn.1 (e ▸ hx)]
     simp
    ·rw[if_pos (by simp [e])]
     have:=ih hn.2
     simp only[List.length_cons]
     omega
  have:=h2 l hn
  omega
theorem DOk.OF0{s:DS}(h:DOk s):s.queue.length≤4194304:=by
 have:(s.queue.map fun q:Sec=>q.file.toNat * 262144+q.number.toNat).length≤4194304:=by
  refine do0 _ _ ?_ fun x hx=>?_
  ·rw[List.nodup_iff_pairwise_ne,List.pairwise_map,List.pairwise_iff_getElem]
   intro i j hi hj hij e
   have h1:=h.q _ (List.getElem_mem hi)
   have h2:=h.q _ (List.getElem_mem hj)
   have h3:=List.nodup_iff_pairwise_ne.1 h.nd
   rw[List.pairwise_iff_getElem] at h3
   refine h3 i j hi hj hij ?_
   have e1:s.queue[i].file=s.queue[j].file:=by omega
   have e2:s.queue[i].number=s.queue[j].number:=by omega
   generalize s.queue[i]=a at e1 e2
   generalize s.queue[j]=b at e1 e2
   obtain⟨a1,a2⟩:=a
   obtain⟨b1,b2⟩:=b
   simp only at e1 e2
   rw[e1,e2]
  ·obtain⟨q,hq,rfl⟩:=List.mem_map.1 hx
   have:=h.q q hq
   omega
 simpa using this
theorem sC0:DOk iC:=⟨fun _=>Nat.zero_le _,fun _=>Nat.zero_le _,fun q hq=>(by cases hq),List.nodup_nil,by decide,by decide⟩
theorem nb0{s t:ByteArray}{at_:Nat}:(JO s at_ t).size=if t=⟨#[]⟩ then s.size else max s.size (at_+t.size):=by
 unfold JO
 split
 ·rfl
 ·rw[Q_,mo0,B_,B_]
theorem dM{f:Int}{ns:List Nat}:∀{q:List Sec} {x:Sec},x∈JU f q ns↔x∈q∨∃n∈ns,x=⟨f,n⟩:=by
 induction ns with
 | nil=>intro q x;simp [JU]
 | cons n ns ih =>
  intro q x
  unfold JU at ih ⊢
  rw[List.foldl_cons,ih]
  unfold gi0
  constructor
  ·rintro(h | ⟨m,hm,rfl⟩)
   ·split at h
    ·exact .inl h
    ·rcases List.mem_append.1 h with h | h
     ·exact .inl h
     ·simp at h;exact .inr ⟨n,List.mem_cons_self,h⟩
   ·exact .inr ⟨m,List.mem_cons_of_mem _ hm,rfl⟩
  ·rintro(h | ⟨m,hm,rfl⟩)
   ·left
    split
    ·exact h
    ·exact List.mem_append_left _ h
   ·rcases List.mem_cons.1 hm with rfl | hm
    ·left
     split
     ·assumption
     ·exact List.mem_append_right _ (by simp)
    ·exact .inr ⟨m,hm,rfl⟩
theorem fp0{f:Int}{ns:List Nat}:∀{q:List Sec},q.Nodup→(JU f q ns).Nodup:=by
 induction ns with
 | nil=>intro q h;exact h
 | cons n ns ih =>
  intro q h
  unfold JU at ih ⊢
  rw[List.foldl_cons]
  refine ih ?_
  unfold gi0
  split
  ·exact h
  ·rename_i hn
   rw[List.nodup_append]
   refine⟨h,by simp,fun a ha b hb=>?_⟩
   simp at hb
   subst hb
   rintro rfl
   exact hn ha
theorem Mg0{at_ n m:Nat}(hn:0<n):m∈secs at_ n↔at_ / 64≤m∧m≤(at_+n-1) / 64:=by
 unfold secs
 rw[List.mem_map]
 constructor
 ·rintro⟨i,hi,rfl⟩
  have:=List.mem_range.1 hi
  omega
 ·intro h
  exact⟨m-at_ / 64,List.mem_range.2 (by omega),by omega⟩
theorem size_pos{t:ByteArray}(h:¬t=⟨#[]⟩):0<t.size:=by
 rw[←B_]
 exact List.length_pos_iff.2 fun e=>h (Gx0.2 e)
theorem DOk.add{s:DS}(h:DOk s){f:Int}(hf:0≤f∧f<16){at_:Nat}{t:ByteArray}(hfit:at_+t.size≤16777216):DOk (KJ s f at_ t):=by
 unfold KJ
 split
 ·exact h
 ·rename_i ht
  have hpos:=size_pos ht
  refine⟨fun g=>?_,fun g=>?_,fun q hq=>?_,fp0 h.nd,h.lost,h.armed⟩
  ·show (upd s.fs f _ g).now.size≤_
   unfold upd
   split
   ·show (JO _ _ _).size≤_
    rw[nb0,if_neg ht]
    have:=h.now f
    omega
   ·exact h.now g
  ·show (upd s.fs f _ g).last.size≤_
   unfold upd
   split
   ·exact h.last f
   ·exact h.last g
  ·rcases dM.1 hq with hq | ⟨n,hn,rfl⟩
   ·exact h.q q hq
   ·have:=(Mg0 hpos).1 hn
    exact⟨hf,by show 0≤(n:Int)∧(n:Int)<262144;omega⟩
theorem Yc0{s:DS}{f at_:Int}{t:ByteArray}:ZL s f at_ t=0↔CV s f=0∧0≤at_∧at_+t.size≤16777216:=by
 unfold ZL
 by_cases h:CV s f=0
 ·rw[if_neg (by simpa using h)]
  constructor
  ·intro h2
   split at h2
   ·cases h2
   ·split at h2
    ·cases h2
    ·split at h2
     ·cases h2
     ·exact⟨h,by omega,by omega⟩
  ·rintro⟨_,h1,h2⟩
   rw[if_neg (by omega),if_neg (by omega),if_neg (by omega)]
 ·rw[if_pos h]
  exact⟨fun e=>absurd e h,fun e=>absurd e.1 h⟩
theorem DOk.write{s:DS}(h:DOk s)(f at_:Int)(t:ByteArray):DOk (fG s f at_ t):=by
 unfold fG
 split
 ·rename_i he
  obtain⟨h1,h2,h3⟩:=Yc0.1 he
  exact h.add (qU.1 h1).2 (by omega)
 ·exact h
theorem dg0{now:ByteArray}{n:Nat}:(gj0 now n).size=min (n+64) now.size-n:=by
 unfold gj0
 rw[Q_,List.length_drop,List.length_take,B_]
 omega
theorem Sg0{keep:List Int}{qs:List Sec}{fs:Int→YA}(h1:∀f,(fs f).now.size≤16777216)(h2:∀f,(fs f).last.size≤16777216)(n:Nat) :
  (∀f,(FK keep qs fs n f).now=(fs f).now)∧∀f,(FK keep qs fs n f).last.size≤16777216:=by
 induction n with
 | zero=>exact⟨fun _=>rfl,h2⟩
 | succ n ih =>
  unfold FK yV
  split
  ·exact ih
  ·split
   ·exact ih
   ·split
    ·exact ih
    ·rename_i hlt
     refine⟨fun f=>?_,fun f=>?_⟩
     ·unfold upd
      split
      ·rename_i e;rw[e];exact ih.1 _
      ·exact ih.1 f
     ·unfold upd
      split
      ·show (JO _ _ _).size≤_
       rw[nb0]
       split
       ·exact ih.2 _
       ·have:=ih.2 (qs.getD n ⟨0,0⟩).file
        have e:=ih.1 (qs.getD n ⟨0,0⟩).file
        have:=h1 (qs.getD n ⟨0,0⟩).file
        rw[e] at hlt
        rw[dg0,e]
        omega
      ·exact ih.2 f
theorem DOk.Ke0{s:DS}(h:DOk s)(keep:List Int):DOk (SL s keep):=by
 unfold SL
 split
 ·exact h
 ·have:=(Sg0 (keep:=keep) (qs:=s.queue) h.now h.last s.queue.length).2
  exact⟨this,this,fun q hq=>(by cases hq),List.nodup_nil,h.lost,(by show (0:Int)≤0∧(0:Int)≤9223372036854775807;decide)⟩
theorem DOk.ends{s:DS}(h:DOk s):DOk (vF s):=by
 unfold vF
 split
 ·exact h
 ·rename_i hn
  have:s.armed≠0:=fun e=>hn (.inr e)
  have:=h.armed
  exact⟨h.now,h.last,h.q,h.nd,h.lost,by show 0≤s.armed-1∧s.armed-1≤_;omega⟩
theorem DOk.come{s:DS}(h:DOk s):DOk (TF s):=by
 unfold TF
 split
 ·exact h.ends.Ke0 _
 ·exact h.ends
theorem DOk.settle{s:DS}(h:DOk s)(f:Int){x:ByteArray}(hx:x.size≤16777216):DOk (OM s f x):=by
 refine⟨fun g=>?_,fun g=>?_,fun q hq=>h.q q (List.mem_filter.1 hq).1,h.nd.filter _,h.lost,h.armed⟩
 ·show (upd s.fs f _ g).now.size≤_
  unfold upd
  split
  ·exact hx
  ·exact h.now g
 ·show (upd s.fs f _ g).last.size≤_
  unfold upd
  split
  ·exact hx
  ·exact h.last g
theorem DOk.fB{s:DS}(h:DOk s)(f at_:Int)(t:ByteArray):DOk (fB s f at_ t).1:=by
 unfold Go.Proofs.YtngbebnhegcokaaGreatDoor.fB
 split
 ·exact(h.ends.write f at_ t).Ke0 _
 ·exact h.ends.write f at_ t
theorem DOk.L9{s:DS}(h:DOk s)(f:Int):DOk (L9 s f).1:=by
 unfold Go.Proofs.YtngbebnhegcokaaGreatDoor.L9
 have hc:=h.come
 split
 ·exact hc
 ·split
  ·rename_i hl
   have:=hc.lost
   exact⟨hc.now,hc.last,hc.q,hc.nd,by show 0≤(TF s).lost-1∧(TF s).lost-1≤_;omega,hc.armed⟩
  ·exact hc.settle f (hc.now f)
end Go.Proofs.YtngbebnhegcokaaGreatDoor

namespace Go.Proofs.YtngbebnhegcokaaGreatDoor
open Go.RowKit
set_option maxRecDepth 100000
theorem XP{B:Base}{v:Value}{l:List ByteArray}(r:O4 v l B)(hl:l.length * 16≤140737488355328)(hl2:l.length≤140737488355328):Makes Tryz.prog B (Z0 iD #[v]) fun v' τ=>τ=[Y3 M3 v' l]:=by
 refine Makes.intro fun B' w K base h k=>?_
 replace r:=base r
 refine WB.up ?_
 unfold WB.pt
 obtain⟨a,cap,rfl,_⟩:=O4.form r
 simp -zeta only[TD ep0]
 rw[R5]
 refine⟨fun e=>?_,fun e=>?_⟩
 ·have:a=none:=by cases a<;>simp_all
  subst this
  obtain⟨_,_,he,_,h0⟩:=r
  have hl0:l=[]:=by
   rcases h0 with h0 | ⟨g,o,h0,_⟩
   ·exact h0
   ·cases he;cases h0
  subst hl0
  exact k _ _ _ rfl (h.VC ByteArray M3)
 ·refine h.MV (α:=ByteArray) K7 fun v1 w1 h nv=>?_
  refine h.append 0 rfl K7 (Rd.base r) (by simpa using hl) (by simpa using hl2) fun v2 w2 h=>?_
  exact k _ _ _ rfl h
theorem oM{B:Base}{v:Value}{l:List Y7}(r:O4 v l B)(hl:l.length * 72≤140737488355328)(hl2:l.length≤140737488355328):Makes Tryz.prog B (Z0 W_ #[v]) fun v' τ=>τ=[Y3 Q3 v' l]:=by
 refine Makes.intro fun B' w K base h k=>?_
 replace r:=base r
 refine LA.up ?_
 unfold LA.pt
 obtain⟨a,cap,rfl,_⟩:=O4.form r
 simp -zeta only[TD uh0]
 rw[R5]
 refine⟨fun e=>?_,fun e=>?_⟩
 ·have:a=none:=by cases a<;>simp_all
  subst this
  obtain⟨_,_,he,_,h0⟩:=r
  have hl0:l=[]:=by
   rcases h0 with h0 | ⟨g,o,h0,_⟩
   ·exact h0
   ·cases he;cases h0
  subst hl0
  exact k _ _ _ rfl (h.VC Y7 Q3)
 ·refine h.MV (α:=Y7) u7 fun v1 w1 h nv=>?_
  refine h.append 0 rfl u7 (Rd.base r) (by simpa using hl) (by simpa using hl2) fun v2 w2 h=>?_
  exact k _ _ _ rfl h
theorem pM{B:Base}{v:Value}{l:List T9}(r:O4 v l B)(hl:l.length * 32≤140737488355328)(hl2:l.length≤140737488355328):Makes Tryz.prog B (Z0 FB #[v]) fun v' τ=>τ=[Y3 R3 v' l]:=by
 refine Makes.intro fun B' w K base h k=>?_
 replace r:=base r
 refine NA.up ?_
 unfold NA.pt
 obtain⟨a,cap,rfl,_⟩:=O4.form r
 simp -zeta only[TD vh0]
 rw[R5]
 refine⟨fun e=>?_,fun e=>?_⟩
 ·have:a=none:=by cases a<;>simp_all
  subst this
  obtain⟨_,_,he,_,h0⟩:=r
  have hl0:l=[]:=by
   rcases h0 with h0 | ⟨g,o,h0,_⟩
   ·exact h0
   ·cases he;cases h0
  subst hl0
  exact k _ _ _ rfl (h.VC T9 R3)
 ·refine h.MV (α:=T9) Q8 fun v1 w1 h nv=>?_
  refine h.append 0 rfl Q8 (Rd.base r) (by simpa using hl) (by simpa using hl2) fun v2 w2 h=>?_
  exact k _ _ _ rfl h
theorem FO{B:Base}{v:Value}{l:List LK}(r:O4 v l B)(hl:l.length * 40≤140737488355328)(hl2:l.length≤140737488355328):Makes Tryz.prog B (Z0 AC #[v]) fun v' τ=>τ=[Y3 iB v' l]:=by
 refine Makes.intro fun B' w K base h k=>?_
 replace r:=base r
 refine BB.up ?_
 unfold BB.pt
 obtain⟨a,cap,rfl,_⟩:=O4.form r
 simp -zeta only[TD qm0]
 rw[R5]
 refine⟨fun e=>?_,fun e=>?_⟩
 ·have:a=none:=by cases a<;>simp_all
  subst this
  obtain⟨_,_,he,_,h0⟩:=r
  have hl0:l=[]:=by
   rcases h0 with h0 | ⟨g,o,h0,_⟩
   ·exact h0
   ·cases he;cases h0
  subst hl0
  exact k _ _ _ rfl (h.VC LK iB)
 ·refine h.MV (α:=LK) wO fun v1 w1 h nv=>?_
  refine h.append 0 rfl wO (Rd.base r) (by simpa using hl) (by simpa using hl2) fun v2 w2 h=>?_
  exact k _ _ _ rfl h
theorem P_{B:Base}{v:Value}{l:List NK}(r:O4 v l B)(hl:l.length * 24≤140737488355328)(hl2:l.length≤140737488355328):Makes Tryz.prog B (Z0 X8 #[v]) fun v' τ=>τ=[Y3 X3 v' l]:=by
 refine Makes.intro fun B' w K base h k=>?_
 replace r:=base r
 refine CB.up ?_
 unfold CB.pt
 obtain⟨a,cap,rfl,_⟩:=O4.form r
 simp -zeta only[TD rm0]
 rw[R5]
 refine⟨fun e=>?_,fun e=>?_⟩
 ·have:a=none:=by cases a<;>simp_all
  subst this
  obtain⟨_,_,he,_,h0⟩:=r
  have hl0:l=[]:=by
   rcases h0 with h0 | ⟨g,o,h0,_⟩
   ·exact h0
   ·cases he;cases h0
  subst hl0
  exact k _ _ _ rfl (h.VC NK X3)
 ·refine h.MV (α:=NK) u6 fun v1 w1 h nv=>?_
  refine h.append 0 rfl u6 (Rd.base r) (by simpa using hl) (by simpa using hl2) fun v2 w2 h=>?_
  exact k _ _ _ rfl h
theorem sN{B:Base}{v:Value}{l:List Int}(r:O4 v l B)(hl:l.length * 8≤140737488355328)(hl2:l.length≤140737488355328):Makes Tryz.prog B (Z0 sD #[v]) fun v' τ=>τ=[Y3 Q0 v' l]:=by
 refine Makes.intro fun B' w K base h k=>?_
 replace r:=base r
 refine WE.up ?_
 unfold WE.pt
 obtain⟨a,cap,rfl,_⟩:=O4.form r
 simp -zeta only[TD Rj0]
 rw[R5]
 refine⟨fun e=>?_,fun e=>?_⟩
 ·have:a=none:=by cases a<;>simp_all
  subst this
  obtain⟨_,_,he,_,h0⟩:=r
  have hl0:l=[]:=by
   rcases h0 with h0 | ⟨g,o,h0,_⟩
   ·exact h0
   ·cases he;cases h0
  subst hl0
  exact k _ _ _ rfl (h.VC Int Q0)
 ·refine h.MV (α:=Int) N8 fun v1 w1 h nv=>?_
  refine h.append 0 rfl N8 (Rd.base r) (by simpa using hl) (by simpa using hl2) fun v2 w2 h=>?_
  exact k _ _ _ rfl h
theorem dK{B:Base}{v f:Value}{l:List Y7}(r:O4 v l B)(hl:l.length≤4611686018427387904)(p:Y7→Bool)
  (hf:∀B':Base,(∀{d:Dat},d B→d B')→∀x∈l,Gives Tryz.prog B' (dA f #[Enc.val x]) (.bool (p x))):Gives Tryz.prog B (Z0 ZA #[v,f]) (.int .i64 (jO p l)):=by
 refine Gives.intro fun B' w K base h k=>?_
 replace r:=base r
 refine J_.up ?_
 unfold J_.pt
 simp -zeta only[O4.len r u7]
 refine F6 (fun x w'=>∃i:Nat,i≤l.length∧x=(.int .i64 i,())∧(∀x∈l.take i,p x=false)∧Rel B' w' []) (fun x _=>l.length-(match x.1 with | .int _ n=>n.toNat | _=>0)) ⟨0,Nat.zero_le _,rfl,(fun x hx=>by simp at hx),h⟩ ?_
 clear h
 rintro x w1 ⟨i,hi,rfl,hno,h⟩ next hnext
 simp -zeta only[G6,K3]
 refine⟨fun hlt=>?_,fun hge=>?_⟩
 ·have hil:i<l.length:=by omega
  obtain⟨g,o,hx,hc⟩:=O4.idx r u7 hil
  simp -zeta only[hx,K6.r9 (h.L6 hc) Y8 rfl]
  refine h.ask (fun B2 own base2=>hf B2 (fun hd=>base2 (base hd)) l[i] (List.getElem_mem hil)) fun w2 h=>?_
  rw[R5]
  refine⟨fun e=>?_,fun e=>?_⟩
  ·rw[zR hil hno e] at k
   exact k _ _ h
  ·rw[Z5,E5 (by omega) (by omega)]
   refine hnext _ _ ⟨i+1,by omega,rfl,?_,h⟩ (by simp only;omega)
   intro x hx
   rw[List.take_succ_eq_append_getElem hil] at hx
   rcases List.mem_append.1 hx with hx | hx
   ·exact hno x hx
   ·simp only[List.mem_cons,List.not_mem_nil,or_false] at hx
    subst hx;exact e
 ·have:i=l.length:=by omega
  subst this
  rw[List.take_length] at hno
  rw[yR hno] at k
  exact k _ _ h
theorem XB{B:Base}{v f:Value}{l:List yD}(r:O4 v l B)(hl:l.length≤4611686018427387904)(p:yD→Bool)
  (hf:∀B':Base,(∀{d:Dat},d B→d B')→∀x∈l,Gives Tryz.prog B' (dA f #[Enc.val x]) (.bool (p x))):Gives Tryz.prog B (Z0 N_ #[v,f]) (.int .i64 (jO p l)):=by
 refine Gives.intro fun B' w K base h k=>?_
 replace r:=base r
 refine P9.up ?_
 unfold P9.pt
 simp -zeta only[O4.len r I6]
 refine F6 (fun x w'=>∃i:Nat,i≤l.length∧x=(.int .i64 i,())∧(∀x∈l.take i,p x=false)∧Rel B' w' []) (fun x _=>l.length-(match x.1 with | .int _ n=>n.toNat | _=>0)) ⟨0,Nat.zero_le _,rfl,(fun x hx=>by simp at hx),h⟩ ?_
 clear h
 rintro x w1 ⟨i,hi,rfl,hno,h⟩ next hnext
 simp -zeta only[G6,K3]
 refine⟨fun hlt=>?_,fun hge=>?_⟩
 ·have hil:i<l.length:=by omega
  obtain⟨g,o,hx,hc⟩:=O4.idx r I6 hil
  simp -zeta only[hx,K6.r9 (h.L6 hc) X7 rfl]
  refine h.ask (fun B2 own base2=>hf B2 (fun hd=>base2 (base hd)) l[i] (List.getElem_mem hil)) fun w2 h=>?_
  rw[R5]
  refine⟨fun e=>?_,fun e=>?_⟩
  ·rw[zR hil hno e] at k
   exact k _ _ h
  ·rw[Z5,E5 (by omega) (by omega)]
   refine hnext _ _ ⟨i+1,by omega,rfl,?_,h⟩ (by simp only;omega)
   intro x hx
   rw[List.take_succ_eq_append_getElem hil] at hx
   rcases List.mem_append.1 hx with hx | hx
   ·exact hno x hx
   ·simp only[List.mem_cons,List.not_mem_nil,or_false] at hx
    subst hx;exact e
 ·have:i=l.length:=by omega
  subst this
  rw[List.take_length] at hno
  rw[yR hno] at k
  exact k _ _ h
theorem fK{B:Base}{v f:Value}{l:List uI}(r:O4 v l B)(hl:l.length≤4611686018427387904)(p:uI→Bool)
  (hf:∀B':Base,(∀{d:Dat},d B→d B')→∀x∈l,Gives Tryz.prog B' (dA f #[Enc.val x]) (.bool (p x))):Gives Tryz.prog B (Z0 aB #[v,f]) (.int .i64 (jO p l)):=by
 refine Gives.intro fun B' w K base h k=>?_
 replace r:=base r
 refine K_.up ?_
 unfold K_.pt
 simp -zeta only[O4.len r ND]
 refine F6 (fun x w'=>∃i:Nat,i≤l.length∧x=(.int .i64 i,())∧(∀x∈l.take i,p x=false)∧Rel B' w' []) (fun x _=>l.length-(match x.1 with | .int _ n=>n.toNat | _=>0)) ⟨0,Nat.zero_le _,rfl,(fun x hx=>by simp at hx),h⟩ ?_
 clear h
 rintro x w1 ⟨i,hi,rfl,hno,h⟩ next hnext
 simp -zeta only[G6,K3]
 refine⟨fun hlt=>?_,fun hge=>?_⟩
 ·have hil:i<l.length:=by omega
  obtain⟨g,o,hx,hc⟩:=O4.idx r ND hil
  simp -zeta only[hx,K6.r9 (h.L6 hc) OQ rfl]
  refine h.ask (fun B2 own base2=>hf B2 (fun hd=>base2 (base hd)) l[i] (List.getElem_mem hil)) fun w2 h=>?_
  rw[R5]
  refine⟨fun e=>?_,fun e=>?_⟩
  ·rw[zR hil hno e] at k
   exact k _ _ h
  ·rw[Z5,E5 (by omega) (by omega)]
   refine hnext _ _ ⟨i+1,by omega,rfl,?_,h⟩ (by simp only;omega)
   intro x hx
   rw[List.take_succ_eq_append_getElem hil] at hx
   rcases List.mem_append.1 hx with hx | hx
   ·exact hno x hx
   ·simp only[List.mem_cons,List.not_mem_nil,or_false] at hx
    subst hx;exact e
 ·have:i=l.length:=by omega
  subst this
  rw[List.take_length] at hno
  rw[yR hno] at k
  exact k _ _ h
theorem sI{B:Base}{v f:Value}{l:List G9}(r:O4 v l B)(hl:l.length≤4611686018427387904)(p:G9→Bool)
  (hf:∀B':Base,(∀{d:Dat},d B→d B')→∀x∈l,Gives Tryz.prog B' (dA f #[Enc.val x]) (.bool (p x))):Gives Tryz.prog B (Z0 X_ #[v,f]) (.int .i64 (jO p l)):=by
 refine Gives.intro fun B' w K base h k=>?_
 replace r:=base r
 refine Z9.up ?_
 unfold Z9.pt
 simp -zeta only[O4.len r jA]
 refine F6 (fun x w'=>∃i:Nat,i≤l.length∧x=(.int .i64 i,())∧(∀x∈l.take i,p x=false)∧Rel B' w' []) (fun x _=>l.length-(match x.1 with | .int _ n=>n.toNat | _=>0)) ⟨0,Nat.zero_le _,rfl,(fun x hx=>by simp at hx),h⟩ ?_
 clear h
 rintro x w1 ⟨i,hi,rfl,hno,h⟩ next hnext
 simp -zeta only[G6,K3]
 refine⟨fun hlt=>?_,fun hge=>?_⟩
 ·have hil:i<l.length:=by omega
  obtain⟨g,o,hx,hc⟩:=O4.idx r jA hil
  simp -zeta only[hx,K6.r9 (h.L6 hc) J9 rfl]
  refine h.ask (fun B2 own base2=>hf B2 (fun hd=>base2 (base hd)) l[i] (List.getElem_mem hil)) fun w2 h=>?_
  rw[R5]
  refine⟨fun e=>?_,fun e=>?_⟩
  ·rw[zR hil hno e] at k
   exact k _ _ h
  ·rw[Z5,E5 (by omega) (by omega)]
   refine hnext _ _ ⟨i+1,by omega,rfl,?_,h⟩ (by simp only;omega)
   intro x hx
   rw[List.take_succ_eq_append_getElem hil] at hx
   rcases List.mem_append.1 hx with hx | hx
   ·exact hno x hx
   ·simp only[List.mem_cons,List.not_mem_nil,or_false] at hx
    subst hx;exact e
 ·have:i=l.length:=by omega
  subst this
  rw[List.take_length] at hno
  rw[yR hno] at k
  exact k _ _ h
theorem RQ{B:Base}{v f:Value}{l:List Int}(r:O4 v l B)(hl:l.length≤4611686018427387904)(p:Int→Bool)
  (hf:∀B':Base,(∀{d:Dat},d B→d B')→∀x∈l,Gives Tryz.prog B' (dA f #[Enc.val x]) (.bool (p x))):Gives Tryz.prog B (Z0 nE #[v,f]) (.int .i64 (jO p l)):=by
 refine Gives.intro fun B' w K base h k=>?_
 replace r:=base r
 refine MC.up ?_
 unfold MC.pt
 simp -zeta only[O4.len r N8]
 refine F6 (fun x w'=>∃i:Nat,i≤l.length∧x=(.int .i64 i,())∧(∀x∈l.take i,p x=false)∧Rel B' w' []) (fun x _=>l.length-(match x.1 with | .int _ n=>n.toNat | _=>0)) ⟨0,Nat.zero_le _,rfl,(fun x hx=>by simp at hx),h⟩ ?_
 clear h
 rintro x w1 ⟨i,hi,rfl,hno,h⟩ next hnext
 simp -zeta only[G6,K3]
 refine⟨fun hlt=>?_,fun hge=>?_⟩
 ·have hil:i<l.length:=by omega
  obtain⟨g,o,hx,hc⟩:=O4.idx r N8 hil
  simp -zeta only[hx,K6.ld0 (h.L6 hc) Y2 rfl]
  refine h.ask (fun B2 own base2=>hf B2 (fun hd=>base2 (base hd)) l[i] (List.getElem_mem hil)) fun w2 h=>?_
  rw[R5]
  refine⟨fun e=>?_,fun e=>?_⟩
  ·rw[zR hil hno e] at k
   exact k _ _ h
  ·rw[Z5,E5 (by omega) (by omega)]
   refine hnext _ _ ⟨i+1,by omega,rfl,?_,h⟩ (by simp only;omega)
   intro x hx
   rw[List.take_succ_eq_append_getElem hil] at hx
   rcases List.mem_append.1 hx with hx | hx
   ·exact hno x hx
   ·simp only[List.mem_cons,List.not_mem_nil,or_false] at hx
    subst hx;exact e
 ·have:i=l.length:=by omega
  subst this
  rw[List.take_length] at hno
  rw[yR hno] at k
  exact k _ _ h
theorem gK{B:Base}{v f:Value}{l:List T9}(r:O4 v l B)(hl:l.length≤4611686018427387904)(p:T9→Bool)
  (hf:∀B':Base,(∀{d:Dat},d B→d B')→∀x∈l,Gives Tryz.prog B' (dA f #[Enc.val x]) (.bool (p x))):Gives Tryz.prog B (Z0 bB #[v,f]) (.int .i64 (jO p l)):=by
 refine Gives.intro fun B' w K base h k=>?_
 replace r:=base r
 refine L_.up ?_
 unfold L_.pt
 simp -zeta only[O4.len r Q8]
 refine F6 (fun x w'=>∃i:Nat,i≤l.length∧x=(.int .i64 i,())∧(∀x∈l.take i,p x=false)∧Rel B' w' []) (fun x _=>l.length-(match x.1 with | .int _ n=>n.toNat | _=>0)) ⟨0,Nat.zero_le _,rfl,(fun x hx=>by simp at hx),h⟩ ?_
 clear h
 rintro x w1 ⟨i,hi,rfl,hno,h⟩ next hnext
 simp -zeta only[G6,K3]
 refine⟨fun hlt=>?_,fun hge=>?_⟩
 ·have hil:i<l.length:=by omega
  obtain⟨g,o,hx,hc⟩:=O4.idx r Q8 hil
  simp -zeta only[hx,K6.r9 (h.L6 hc) Z7 rfl]
  refine h.ask (fun B2 own base2=>hf B2 (fun hd=>base2 (base hd)) l[i] (List.getElem_mem hil)) fun w2 h=>?_
  rw[R5]
  refine⟨fun e=>?_,fun e=>?_⟩
  ·rw[zR hil hno e] at k
   exact k _ _ h
  ·rw[Z5,E5 (by omega) (by omega)]
   refine hnext _ _ ⟨i+1,by omega,rfl,?_,h⟩ (by simp only;omega)
   intro x hx
   rw[List.take_succ_eq_append_getElem hil] at hx
   rcases List.mem_append.1 hx with hx | hx
   ·exact hno x hx
   ·simp only[List.mem_cons,List.not_mem_nil,or_false] at hx
    subst hx;exact e
 ·have:i=l.length:=by omega
  subst this
  rw[List.take_length] at hno
  rw[yR hno] at k
  exact k _ _ h
theorem OI{B:Base}{v f:Value}{l:List T9}(r:O4 v l B)(hl:l.length≤4611686018427387904)(p:T9→Bool)
  (hf:∀B':Base,(∀{d:Dat},d B→d B')→∀x∈l,Gives Tryz.prog B' (dA f #[Enc.val x]) (.bool (p x))):Gives Tryz.prog B (Z0 uA #[v,f]) (.bool (l.any p)):=by
 refine Gives.intro fun B' w K base h k=>?_
 replace r:=base r
 refine h_.up ?_
 unfold h_.pt
 refine h.ask (fun B2 own base2=>gK (base2 r) hl p fun B3 base3 x hx=>hf B3 (fun hd=>base3 (base2 (base hd))) x hx) fun w1 h=>?_
 have e:decide (0≤jO p l)=l.any p:=by
  rw[Bool.eq_iff_iff,decide_eq_true_eq,List.any_eq_true]
  constructor
  ·intro h0
   have:=(wZ (p:=p) (l:=l)).1
   refine Classical.byContradiction fun hno=>?_
   have:=this.2 fun x hx=>by
    cases hp:p x with
    | false=>rfl
    | true=>exact absurd ⟨x,hx,hp⟩ hno
   omega
  ·rintro⟨x,hx,hp⟩
   have:=(wZ (p:=p) (l:=l)).1
   refine Int.not_lt.1 fun hlt=>?_
   rw[this.1 hlt x hx] at hp
   cases hp
 simp -zeta only[FC,e]
 exact k _ _ h
theorem aI{B:Base}{v f:Value}{l:List G9}(hl:l.length≤4611686018427387904)(p:G9→Bool)
  (hf:∀B':Base,(∀{d:Dat},d B→d B')→∀x∈l,Gives Tryz.prog B' (dA f #[Enc.val x]) (.bool (p x))):Does Tryz.prog B (Y3 R4 v l) (Z0 R_ #[v,f]) fun u e' τ=>e'=Y3 R4 u (l.filter fun x=>!p x)∧τ=[]:=by
 refine Does.intro fun B' w K base h k=>?_
 refine V9.up ?_
 unfold V9.pt
 refine h.ask (fun B2 own base2=>sI (Y3.read (own (i:=0) rfl)) hl p fun B3 base3 x hx=>hf B3 (fun hd=>base3 (base2 (base hd))) x hx) fun w1 h=>?_
 simp -zeta only[F7,K3]
 refine⟨fun e=>?_,fun e=>?_⟩
 ·have hno:=(wZ (p:=p) (l:=l)).1.1 (by omega)
  have hfl:(l.filter fun x=>!p x)=l:=List.filter_eq_self.2 fun x hx=>by simp [hno x hx]
  rw[hfl] at k
  exact k _ _ _ _ ⟨rfl,rfl⟩ h
 ·obtain⟨m,hm,hml,hmp,hmno⟩:∃m:Nat,jO p l=m∧∃hm:m<l.length,p l[m]=true∧∀x∈l.take m,p x=false:=by
   unfold jO at e ⊢
   split at e
   ·rename_i i hi
    obtain⟨h1,h2,h3⟩:=List.findIdx?_eq_some_iff_getElem.1 hi
    refine⟨i,rfl,h1,h2,fun x hx=>?_⟩
    obtain⟨j,hj,rfl⟩:=List.getElem_of_mem hx
    have:=h3 j (by simp at hj;omega)
    simp at this ⊢
    exact this
   ·exact absurd rfl e
  rw[hm]
  obtain⟨g,cap,rfl⟩:=h.open_ (i:=0) rfl (by omega)
  simp -zeta only[Z5]
  rw[E5 (by omega) (by omega)]
  refine F6 (fun x w'=>∃(i j:Nat) (l':List G9),j≤l.length∧i<j∧x=(.int .i64 i,.int .i64 j,())∧l'.length=l.length∧l'.take i=(l.take j).filter (fun x=>!p x)∧l'.drop j=l.drop j∧Rel B' w' [Y3 R4 (.slice (some ⟨g,0,none⟩) l.length cap) l'])
   (fun x _=>l.length-(match x.2.1 with | .int _ n=>n.toNat | _=>0)) ⟨m,m+1,l,by omega,by omega,by simp,rfl,?_,rfl,h⟩ ?_
  ·rw[List.take_succ_eq_append_getElem hml,List.filter_append,List.filter_eq_self.2 fun x hx=>by simp [hmno x hx]]
   simp [hmp]
  clear h
  rintro x w2 ⟨i,j,l',hj,hij,rfl,hl',ht,hd,h⟩ next hnext
  have hrd:=Y3.read (h.here (i:=0) rfl)
  simp -zeta only[O4.len hrd jA,hl',G6,K3]
  refine⟨fun hlt=>?_,fun hge=>?_⟩
  ·have hjl:j<l.length:=by omega
   have hjl':j<l'.length:=by omega
   have hel:l'[j]=l[j]:=by
    have h1:(l'.drop j)[0]? = (l.drop j)[0]? := by rw[hd]
    simpa [hjl,hjl'] using h1
   have hd1:l'.drop (j+1)=l.drop (j+1):=by
    have:=congrArg (List.drop 1) hd
    simpa using this
   have hs:(l.take (j+1)).filter (fun x=>!p x)=(l.take j).filter (fun x=>!p x)++(if p l[j]=true then [] else [l[j]]):=by
    rw[List.take_succ_eq_append_getElem hjl,List.filter_append]
    congr 1
    cases hp:p l[j]<;>simp [hp]
   refine P6 fun J hJ=>?_
   replace hJ:∀w' (i:Nat) (l':List G9),i<j+1→l'.length=l.length→l'.take i=(l.take (j+1)).filter (fun x=>!p x)→l'.drop (j+1)=l.drop (j+1)→Rel B' w' [Y3 R4 (.slice (some ⟨g,0,none⟩) l.length cap) l']→J (.int .i64 i,()) w':=by
    intro w' i l' h1 h2 h3 h4 h5
    refine hJ _ _ ?_
    show M0 _ _ _
    rw[Z5,E5 (by omega) (by omega)]
    exact hnext _ _ ⟨i,j+1,l',by omega,h1,rfl,h2,h3,h4,h5⟩ (by simp only;omega)
   clear hnext
   have hc:=h.elem (α:=G9) (i:=0) (j:=j) rfl hjl'
   rw[hel] at hc
   simp -zeta only[aX (α:=G9) jA hjl,K6.r9 hc J9 rfl]
   refine h.R8 (ds:=(l[j]:G9).cs.toArray) PP rfl J9 rfl (fun v hv=>Enc.one l[j] v hv) fun b w3 h=>?_
   simp -zeta only[h.r9 1 rfl J9 rfl]
   refine h.ask (fun B2 own base2=>hf B2 (fun hd=>base2 (base hd)) l[j] (List.getElem_mem hjl)) fun w4 h=>?_
   simp -zeta only[V7,G5]
   rw[R5]
   refine⟨fun hp=>?_,fun hp=>?_⟩
   ·refine hJ w4 i l' (by omega) hl' ?_ hd1 (h.take 1)
    rw[hs,if_pos hp,ht,List.append_nil]
   ·simp -zeta only[h.r9 1 rfl J9 rfl,aX (α:=G9) jA (show i<l.length by omega)]
    refine h.Nl0 (α:=G9) 0 rfl l[j] (j:=i) (by omega) J9 rfl rfl fun w5 h=>?_
    simp -zeta only[Z5]
    rw[E5 (by omega) (by omega)]
    refine hJ w5 (i+1) (l'.set i l[j]) (by omega) (by simp [hl']) ?_ ?_ (h.take 1)
    ·rw[hs,if_neg (by rw[hp];decide),←ht,List.take_succ_eq_append_getElem (by simp;omega),List.take_set_of_le (Nat.le_refl _)]
     simp
    ·rw[List.drop_set_of_lt (by omega),hd1]
  ·have:j=l.length:=by omega
   subst this
   rw[List.take_length] at ht
   rw[O4.Me0 hrd jA (lo:=i) (hi:=l'.length) Bnd.some Bnd.none (by omega) (Nat.le_refl _),hl']
   refine h.Fe0 0 rfl jA (by omega) fun w3 h=>?_
   rw[ht] at h
   exact k _ _ _ _ ⟨rfl,rfl⟩ h
end Go.Proofs.YtngbebnhegcokaaGreatDoor

namespace Go.Proofs.YtngbebnhegcokaaGreatDoor
open Go.RowKit
set_option maxRecDepth 100000
theorem fv0:KeyTy Tryz.prog Q0 Int:=KeyTy.int IV
theorem Jl0(n:Nat)(k:IntKind)(a:Int):Instr.sameBits n (.int k a) (.int k a)=true:=by cases n<;>simp [Instr.sameBits]
theorem br0(n:Nat)(a b:Int):Instr.sameBits (n+1) (.agg #[.int .i64 a,.int .i64 b]) (.agg #[.int .i64 a,.int .i64 b])=true:=by simp [Instr.sameBits,Jl0]
theorem uF0:KeyTy Tryz.prog R4 Sec:=KeyTy.agg (fs:=Tryz.prog.fieldsOf R4) (by kernel_rfl) (fun _=>rfl) (by kernel_rfl) (fun x y w=>HY x y w) (fun x=>br0 9999 x.file x.number)
structure DF (s:DS) (lf:List (Ent Int YA)) (cf:Nat) (ls:List (Ent Sec Bool)) (cs:Nat):Prop where
 wf:WfE lf cf
 files:∀f,s.fs f=(SF f lf).getD F0
 ws:WfE ls cs
 set_:∀q,(SF q ls).getD false=decide (q∈s.queue)
 ok:DOk s
abbrev DX:=((Nat×List (Ent Int YA)×Nat)×(Nat×List (Ent Sec Bool)×Nat))×Value
abbrev dcs(m:Nat)(qv:Value)(m2:Nat)(s:DS)(kv:Value):Array Value:=#[oO m,qv,oO m2,.int .i64 s.lost,.bool s.down,.int .i64 s.armed,kv]
abbrev parts(p:Nat)(s:DS)(kv:Value)(x:DX):List Dat:=[O1 p P5 (dcs x.1.1.1 x.2 x.1.2.1 s kv),W9 x.1.1.1 x.1.1.2.1 x.1.1.2.2,Y3 R4 x.2 s.queue,W9 x.1.2.1 x.1.2.2.1 x.1.2.2.2]
def Z6(p:Nat)(s:DS)(kv:Value):Dat:=Dat.ex fun x:DX=>(Dat.pure (DF s x.1.1.2.1 x.1.1.2.2 x.1.2.2.1 x.1.2.2.2∧kv.oneCell'=true)).and (yU (parts p s kv x))
section
variable {B:Base} {w:World} {p:Nat} {s:DS} {kv:Value}
theorem Z6.open_(h:Rel B w [Z6 p s kv]):∃m lf cf m2 ls cs qv,DF s lf cf ls cs∧kv.oneCell'=true∧Rel B w [O1 p P5 (dcs m qv m2 s kv),W9 m lf cf,Y3 R4 qv s.queue,W9 m2 ls cs]:=by
 obtain⟨x,h⟩:=h.ex (i:=0) rfl
 obtain⟨⟨h1,h2⟩,h⟩:=h.VS (i:=0) rfl
 have h:=Rel.kX (σ:=[]) (L:=parts p s kv x) h
 exact⟨_,_,_,_,_,_,_,h1,h2,h⟩
theorem Z6.close{m cf m2 cs:Nat}{lf:List (Ent Int YA)}{ls:List (Ent Sec Bool)}{qv:Value}(hf:DF s lf cf ls cs)(hk:kv.oneCell'=true)(h:Rel B w [O1 p P5 (dcs m qv m2 s kv),W9 m lf cf,Y3 R4 qv s.queue,W9 m2 ls cs]):Rel B w [Z6 p s kv]:=by
 have h:=Rel.kR (σ:=[]) h
 exact h.imp (i:=0) (e:=Z6 p s kv) rfl fun B hB=>⟨(((m,lf,cf),(m2,ls,cs)),qv),⟨hf,hk⟩,hB⟩
theorem Z6.jP(h:Z6 p s kv B):∃m lf cf m2 ls cs qv,DF s lf cf ls cs∧O1 p P5 (dcs m qv m2 s kv) B∧W9 m lf cf B∧Y3 R4 qv s.queue B∧W9 m2 ls cs B:=by
 obtain⟨x,⟨h1,h2⟩,h3⟩:=h
 exact⟨_,_,_,_,_,_,_,h1,Dat.star.left h3,Dat.star.left (Dat.star.right h3),Dat.star.left (Dat.star.right (Dat.star.right h3)),Dat.star.left (Dat.star.right (Dat.star.right (Dat.star.right h3)))⟩
theorem Z6.ok(h:Z6 p s kv B):DOk s∧kv.oneCell'=true:=by
 obtain⟨x,⟨h1,h2⟩,h3⟩:=h
 exact⟨h1.ok,h2⟩
theorem My0{m m2:Nat}{qv:Value}(hc:O1 p P5 (dcs m qv m2 s kv) B)(f:Int):Gives Tryz.prog B (Z0 iJ #[ptr p,.int .i64 f]) (.int .i64 (CV s f)):=by
 refine Gives.intro fun B' w K base h k=>?_
 replace hc:=base hc
 refine uP.up ?_
 unfold uP.pt
 unfold CV at k
 simp -zeta only[J5,U0 PT,Nat.zero_add,O1.ld (h.L6 hc) AB (o:=4) rfl]
 rw[R5]
 refine⟨fun e=>?_,fun e=>?_⟩
 ·rw[if_pos e] at k;exact k _ _ h
 ·rw[if_neg (by rw[e];decide)] at k
  simp -zeta only[G6,FC,K3]
  refine⟨fun h1=>?_,fun h1=>⟨fun h2=>?_,fun h2=>?_⟩⟩
  ·rw[if_pos h1] at k;exact k _ _ h
  ·rw[if_neg h1,if_pos h2] at k;exact k _ _ h
  ·rw[if_neg h1,if_neg h2] at k;exact k _ _ h
theorem za0{lf:List (Ent Int YA)}{cf:Nat}{ls:List (Ent Sec Bool)}{cs m:Nat}(hF:DF s lf cf ls cs)(h:(W9 m lf cf).here w)(f:Int){Kp:Value→Prop}:Y0 Tryz.prog (XJ O6 (oO m) (.int .i64 f) false) w Kp=Kp (.agg #[.string (s.fs f).now,.string (s.fs f).last]) :=
 W9.look (x:=f) h IB fv0 F0 gQ rfl (by rw[←hF.files];rfl)
theorem dp0(hd:Z6 p s kv B)(f at_ size:Int):Gives Tryz.prog B (Z0 KH #[ptr p,.int .i64 f,.int .i64 at_,.int .i64 size]) (.tuple #[.string (LD s f at_ size).1,.int .i64 (LD s f at_ size).2]):=by
 refine Gives.intro fun B' w K base h k=>?_
 obtain⟨m,lf,cf,m2,ls,cs,qv,hF,hc,hm,hq,hs⟩:=Z6.jP (base hd)
 refine XN.up ?_
 unfold XN.pt
 unfold LD at k
 refine h.ask (fun B2 own base2=>My0 (base2 hc) f) fun w1 h=>?_
 simp -zeta only[Q7,G5,K3]
 refine⟨fun e0=>?_,fun e0=>?_⟩
 rotate_left
 ·rw[if_pos e0] at k;exact k _ _ h
 rw[if_neg (by simpa using e0)] at k
 simp -zeta only[G6,K3]
 refine⟨fun e1=>?_,fun e1=>⟨fun e2=>?_,fun e2=>?_⟩⟩
 ·rw[if_pos e1] at k;exact k _ _ h
 ·rw[if_neg e1,if_pos e2] at k;exact k _ _ h
 rw[if_neg e1,if_neg e2] at k
 have hsz:=hF.ok.now f
 have hb:=B_ (s.fs f).now
 simp -zeta only[J5,U0 VG,Nat.add_zero,O1.ld (h.L6 hc) b_ (o:=0) rfl,za0 hF (h.L6 hm),qn0 (cs:=#[.string (s.fs f).now,.string (s.fs f).last]) (v := .string (s.fs f).now) XX rfl,aK K8,YK]
 have e3:min at_ ((bl (s.fs f).now).length:Int)=((min at_.toNat (bl (s.fs f).now).length:Nat):Int):=by omega
 rw[e3,qR K8 (lo:=min at_.toNat (bl (s.fs f).now).length) (hi:=(s.fs f).now.size) Bnd.some Bnd.none (by omega) (Nat.le_refl _)]
 have e4:(bl (s.fs f).now).take (s.fs f).now.size=bl (s.fs f).now:=by rw[←hb,List.take_length]
 rw[e4]
 have e5:(bl (s.fs f).now).drop (min at_.toNat (bl (s.fs f).now).length)=(bl (s.fs f).now).drop at_.toNat:=by
  rcases Nat.le_total at_.toNat (bl (s.fs f).now).length with h | h
  ·rw[Nat.min_eq_left h]
  ·rw[Nat.min_eq_right h,List.drop_length,List.drop_of_length_le h]
 rw[e5]
 generalize hr:(bl (s.fs f).now).drop at_.toNat=r at k ⊢
 simp -zeta only[aK K8,YK]
 have e6:min size ((bl (ofL r)).length:Int)=((min size.toNat r.length:Nat):Int):=by
  show min size (r.length:Int)=_
  omega
 rw[e6,qR K8 (lo:=0) (hi:=min size.toNat r.length) Bnd.none Bnd.some (Nat.zero_le _) (by show _≤r.length;omega)]
 have e7:ofL (((bl (ofL r)).take (min size.toNat r.length)).drop 0)=ofL (r.take size.toNat):=by
  show ofL ((r.take (min size.toNat r.length)).drop 0)=_
  rw[List.drop_zero]
  have:r.take (min size.toNat r.length)=r.take size.toNat:=by
   rcases Nat.le_total size.toNat r.length with h | h
   ·rw[Nat.min_eq_left h]
   ·rw[Nat.min_eq_right h,List.take_length,List.take_of_length_le h]
  rw[this]
 rw[e7]
 exact k _ _ h
theorem Rx0:Does Tryz.prog B (Z6 p s kv) (Z0 LH #[ptr p]) fun v e' τ=>v = .bool (JX s)∧e'=Z6 p (vF s) kv∧τ=[]:=by
 refine Does.intro fun B' w K base h k=>?_
 obtain⟨m,lf,cf,m2,ls,cs,qv,hF,hk,h⟩:=Z6.open_ h
 refine ZN.up ?_
 unfold ZN.pt
 have hok:=hF.ok.armed
 simp -zeta only[J5,U0 PT,U0 RX,Nat.zero_add,h.ld 0 rfl AB (o:=4) rfl,h.ld 0 rfl Y2 (o:=5) rfl]
 rw[R5]
 have same:JX s=false→vF s=s→K (.bool false) w:=fun e1 e2=>by
  refine k _ _ [] _ ⟨by rw[e1],rfl,rfl⟩ ?_
  rw[e2]
  exact Z6.close hF hk h
 refine⟨fun e=>same (by unfold JX;rw[e];rfl) (by unfold vF;rw[if_pos (.inl e)]),fun e=>?_⟩
 simp -zeta only[F7,K3]
 refine⟨fun e1=>same (by unfold JX;rw[decide_eq_true e1];simp) (by unfold vF;rw[if_pos (.inr e1)]),fun e1=>?_⟩
 clear same
 rw[TB,E5 (by omega) (by omega)]
 refine h.st 0 rfl Y2 (show 5<7 by omega) rfl fun w1 h=>?_
 simp -zeta only[h.ld 0 rfl Y2 (o:=5) rfl,F7]
 have e2:vF s={ s with armed:=s.armed-1 }:=by unfold vF;rw[if_neg (by rw[e];simpa using e1)]
 have e3:JX s=decide (s.armed-1=0):=by unfold JX;rw[e,decide_eq_false e1];rfl
 have hF':DF (vF s) lf cf ls cs:=⟨hF.wf,by rw[e2];exact hF.files,hF.ws,by rw[e2];exact hF.set_,hF.ok.ends⟩
 refine k _ _ [] _ ⟨by rw[e3],rfl,rfl⟩ ?_
 have h:Rel B' w1 [O1 p P5 (dcs m qv m2 (vF s) kv),W9 m lf cf,Y3 R4 qv (vF s).queue,W9 m2 ls cs]:=by rw[e2];exact h
 exact Z6.close hF' hk h
theorem tu0{m c:Nat}{l:List (Ent Sec Bool)}(hw:WfE l c){fv:Value}(p:Sec→Bool)(hf:∀B':Base,(∀{d:Dat},d B→d B')→∀e∈l,Gives Tryz.prog B' (dA fv #[Enc.val e.1,Enc.val e.2.1]) (.bool (p e.1))) :
  Does Tryz.prog B (W9 m l c) (Z0 N9 #[oO m,fv]) fun v e' τ=>v = .tuple #[]∧e'=W9 m (l.filter fun e=>!p e.1) c∧τ=[]:=by
 refine Does.intro fun B' w K base h k=>?_
 refine O8.up ?_
 unfold O8.pt
 refine h.range 0 rfl NE fun it w1 h=>?_
 have e0:(l.filter fun e=>!((#[]:Array Nat).contains e.2.2&&p e.1))=l:=List.filter_eq_self.2 fun e _=>by simp
 refine F6 (fun _ w'=>∃seen:Array Nat,Rel B' w' [W9 m (l.filter fun e=>!(seen.contains e.2.2&&p e.1)) c,nW it m c seen c]) (fun _ w'=>dJ l (iN w' it)) ⟨#[],by rw[e0];exact h⟩ ?_
 clear h
 rintro x w2 ⟨seen,h⟩ next hnext
 have hms:=xN h (j:=1) rfl
 have hwf:=hw.filter fun e=>!(seen.contains e.2.2&&p e.1)
 refine h.next 0 1 it rfl rfl hwf.below (fun w3 hall h=>?_) (fun e w3 he hns h=>?_)
 ·rw[show (U5 (.tuple #[.bool false]) 0)=(U5 (.tuple #[.bool false]) 0) from rfl,F5 (v := .bool false) (fun w=>rfl),d_]
  have e1:(l.filter fun e=>!(seen.contains e.2.2&&p e.1))=l.filter fun e=>!p e.1:=by
   refine List.filter_congr fun e he=>?_
   cases hb:!(seen.contains e.2.2&&p e.1) with
   | true =>
    have:=hall e (List.mem_filter.2 ⟨he,hb⟩)
    rw[this] at hb
    simpa using hb.symm
   | false =>
    simp at hb
    rw[hb.2];rfl
  rw[e1] at h
  exact k _ _ [] _ ⟨rfl,rfl,rfl⟩ (h.take 1)
 ·have hel:e∈l:=(List.mem_filter.1 he).1
  rw[UU,lC]
  refine h.entry 0 1 it rfl rfl he hwf.stamps fun w4 h=>?_
  rw[M9,D9]
  refine h.R8 (ds:=e.1.cs.toArray) PP rfl J9 rfl (fun v hv=>Enc.one e.1 v hv) fun b w5 h=>?_
  simp -zeta only[h.r9 2 rfl J9 rfl]
  refine h.ask (fun B2 own base2=>hf B2 (fun hd=>base2 (base hd)) e hel) fun w6 h=>?_
  have step:∀x∈l,x≠e→(seen.push e.2.2).contains x.2.2=seen.contains x.2.2:=fun x hx hne=>by
   rw[contains_push,decide_eq_false fun hh=>hne (hw.UV hx hel hh),Bool.or_false]
  have hself:(seen.push e.2.2).contains e.2.2=true:=by simp [contains_push]
  rw[R5]
  refine⟨fun hp=>?_,fun hp=>?_⟩
  ·simp -zeta only[h.r9 2 rfl J9 rfl]
   refine h.delete 0 rfl NE uF0 e.1 fun w7 h=>?_
   have e2:Ap0 e.1 (l.filter fun e=>!(seen.contains e.2.2&&p e.1))=l.filter fun x=>!((seen.push e.2.2).contains x.2.2&&p x.1):=by
    rw[Wr0 hwf.keys,List.filter_filter]
    refine List.filter_congr fun x hx=>?_
    by_cases hxe:x=e
    ·subst hxe;rw[hself,hp];simp
    ·rw[step x hx hxe,decide_eq_true (p:=x.1≠e.1) (fun hh=>hxe (hw.yi0 hx hel hh)),Bool.true_and]
   rw[e2] at h
   have h:=h.take 2
   refine hnext _ _ ⟨_,h⟩ ?_
   show dJ l (iN w7 it)<dJ l (iN w2 it)
   rw[hms,xN h (j:=1) rfl]
   exact eQ hel hns
  ·have e2:(l.filter fun e=>!(seen.contains e.2.2&&p e.1))=l.filter fun x=>!((seen.push e.2.2).contains x.2.2&&p x.1):=by
    refine List.filter_congr fun x hx=>?_
    by_cases hxe:x=e
    ·subst hxe;rw[hself,hp];simp
    ·rw[step x hx hxe]
   have h:=h.take 2
   rw[e2] at h
   refine hnext _ _ ⟨_,h⟩ ?_
   show dJ l (iN w6 it)<dJ l (iN w2 it)
   rw[hms,xN h (j:=1) rfl]
   exact eQ hel hns
end
end Go.Proofs.YtngbebnhegcokaaGreatDoor

namespace Go.Proofs.YtngbebnhegcokaaGreatDoor
open Go.RowKit
set_option maxRecDepth 100000
section
variable {B:Base} {w:World} {p:Nat} {s:DS} {kv:Value}
theorem Tv0{b:Nat}{f:Int}(hc:O1 b Q0 #[.int .i64 f] B)(x:Sec):Gives Tryz.prog B (dA (.func (.func zD) #[] #[ptr b]) #[Enc.val x]) (.bool (decide (x.file=f))):=by
 refine Gives.intro fun B' w K base h k=>?_
 replace hc:=base hc
 refine YH ?_
 refine EA.up (p0:=x.v) (t1:=ptr b) (EA.call ?_)
 unfold EA.pt
 refine h.box fun b2 w1 h=>?_
 have h:Rel B' w1 [O1 b2 R4 x.cs.toArray]:=h
 simp -zeta only[U0 tQ,Nat.add_zero,h.ld 0 rfl Y2 (o:=0) rfl,O1.ld (h.L6 hc) Y2 (o:=0) rfl,F7]
 exact k _ _ h
theorem Uv0{b:Nat}{f:Int}(hc:O1 b Q0 #[.int .i64 f] B)(x:Sec)(y:Bool):Gives Tryz.prog B (dA (.func (.func BD) #[] #[ptr b]) #[Enc.val x,Enc.val y]) (.bool (decide (x.file=f))):=by
 refine Gives.intro fun B' w K base h k=>?_
 replace hc:=base hc
 refine YH ?_
 refine GA.up (p0:=x.v) (t1 := .bool y) (t2:=ptr b) (GA.call ?_)
 unfold GA.pt
 refine h.box fun b2 w1 h=>?_
 have h:Rel B' w1 [O1 b2 R4 x.cs.toArray]:=h
 simp -zeta only[U0 tQ,Nat.add_zero,h.ld 0 rfl Y2 (o:=0) rfl,O1.ld (h.L6 hc) Y2 (o:=0) rfl,F7]
 exact k _ _ h
theorem oA0(f:Int){x:ByteArray}(hx:x.size≤16777216):Does Tryz.prog B (Z6 p s kv) (Z0 TM #[ptr p,.int .i64 f,.string x]) fun v e' τ=>v = .tuple #[]∧e'=Z6 p (OM s f x) kv∧τ=[]:=by
 refine Does.intro fun B' w K base h k=>?_
 obtain⟨m,lf,cf,m2,ls,cs,qv,hF,hk,h⟩:=Z6.open_ h
 have hql:=hF.ok.OF0
 refine ZK.up ?_
 unfold ZK.pt
 refine h.box fun b w1 h=>?_
 have h:Rel B' w1 [O1 p P5 (dcs m qv m2 s kv),W9 m lf cf,Y3 R4 qv s.queue,W9 m2 ls cs,O1 b Q0 #[.int .i64 f]]:=h
 have h:=h.tick
 simp -zeta only[J5,U0 VG,Nat.add_zero,h.ld 0 rfl b_ (o:=0) rfl,h.ld 4 rfl Y2 (o:=0) rfl,fU]
 refine h.Of0 1 rfl IB fv0 f (⟨x,x⟩:YA) fun w2 h=>?_
 simp -zeta only[U0 wP,U0 OT,Nat.zero_add,h.ld 0 rfl nD (o:=1) rfl,TI]
 refine h.act 2 rfl (fun B2 own base2=>aI (by omega) (fun q=>decide (q.file=f)) fun B3 base3 q hq=>Tv0 (base3 (own (j:=4) (by decide) rfl)) q) fun qv' e' τ w3 hp h=>?_
 obtain⟨rfl,rfl⟩:=hp
 have h1:qv'.oneCell'=true:=h.oneCell (i:=2) rfl
 refine h.st 0 rfl nD (show 1<7 by omega) h1 fun w4 h=>?_
 simp -zeta only[h.ld 0 rfl jB (o:=2) rfl]
 refine h.act 3 rfl (fun B2 own base2=>tu0 hF.ws (fun q=>decide (q.file=f)) fun B3 base3 e he=>Uv0 (base3 (own (j:=4) (by decide) rfl)) e.1 e.2.1) fun v e' τ w5 hp h=>?_
 obtain⟨rfl,rfl,rfl⟩:=hp
 have h:=h.take 4
 have hF':DF (OM s f x) (WL f (⟨x,x⟩:YA) lf cf).1 (WL f (⟨x,x⟩:YA) lf cf).2 (ls.filter fun e=>!decide (e.1.file=f)) cs:=by
  refine⟨hF.wf.set _ _,fun g=>?_,hF.ws.filter _,fun q=>?_,hF.ok.settle f hx⟩
  ·rw[xU hF.wf.keys]
   show upd s.fs f _ g=_
   unfold upd
   split
   ·rfl
   ·exact hF.files g
  ·rw[df0 hF.ws (fun q:Sec=>!decide (q.file=f))]
   show _=decide (q∈s.queue.filter fun q=>!decide (q.file=f))
   by_cases e:q.file=f
   ·rw[if_neg (by simp [e])]
    simp [List.mem_filter,e]
   ·rw[if_pos (by simp [e]),hF.set_ q]
    simp [List.mem_filter,e]
 exact k _ _ [] _ ⟨rfl,rfl,rfl⟩ (Z6.close hF' hk h)
theorem sk0{x:Sec}{z:Bool}{l:List (Ent Sec Bool)}{c:Nat}:∃e∈(dI x z l c).1,e.2.2=(dI x z l c).2.2.1:=by
 unfold dI
 cases hf:QC x l 0 with
 | none=>exact⟨(x,z,c),List.mem_append_right _ (by simp),rfl⟩
 | some q =>
  obtain⟨h1,_,_⟩:=lD (i:=q.1) (v:=q.2) hf
  refine⟨l[q.1],List.getElem_mem h1,?_⟩
  show _=((l[q.1]?).map (·.2.2)).getD 0
  rw[List.getElem?_eq_getElem h1]
  rfl
theorem Yt0{f:Int}{q:List Sec}{ns:List Nat}{j:Nat}(hj:j<ns.length):JU f q (ns.take (j+1))=gi0 f (JU f q (ns.take j)) ns[j]:=by
 unfold JU
 rw[List.take_succ_eq_append_getElem hj,List.foldl_append]
 rfl
theorem fA0{at_ n j:Nat}(hj:j<(secs at_ n).length):(secs at_ n)[j]=at_ / 64+j:=by simp [secs]
theorem gA0(at_ n:Nat):(secs at_ n).length=(at_+n-1) / 64+1-at_ / 64:=by simp [secs]
theorem MD0(f at_:Int){t:ByteArray}(ht:t.size≤9223372036854775807):Does Tryz.prog B (Z6 p s kv) (Z0 GN #[ptr p,.int .i64 f,.int .i64 at_,.string t]) fun v e' τ=>v = .int .i64 (ZL s f at_ t)∧e'=Z6 p (fG s f at_ t) kv∧τ=[]:=by
 refine Does.intro fun B' w K base h k=>?_
 obtain⟨m,lf,cf,m2,ls,cs,qv,hF,hk,h⟩:=Z6.open_ h
 refine JM.up ?_
 unfold JM.pt
 have no:∀e w' ,ZL s f at_ t=e→e≠0→Rel B' w' [O1 p P5 (dcs m qv m2 s kv),W9 m lf cf,Y3 R4 qv s.queue,W9 m2 ls cs]→K (.int .i64 e) w':=by
  intro e w' he hne h
  refine k _ _ [] _ ⟨by rw[he],rfl,rfl⟩ ?_
  have:fG s f at_ t=s:=by unfold fG;rw[if_neg (by rw[he];exact hne)]
  rw[this]
  exact Z6.close hF hk h
 refine h.ask (fun B2 own base2=>My0 (own (i:=0) rfl) f) fun w1 h=>?_
 simp -zeta only[Q7,G5,K3]
 refine⟨fun e0=>?_,fun e0=>no _ _ (by unfold ZL;rw[if_pos e0]) e0 h⟩
 have e0':¬CV s f≠0:=by simpa using e0
 simp -zeta only[G6,x9,K3]
 refine⟨fun e1=>no _ _ (by unfold ZL;rw[if_neg e0',if_pos e1]) (by decide) h,fun e1=>⟨fun e2=>no _ _ (by unfold ZL;rw[if_neg e0',if_neg e1,if_pos e2]) (by decide) h,fun e2=>?_⟩⟩
 have hbt:=B_ t
 have hw:IntKind.i64.wrap (16777216-at_)=16777216-at_:=E5 (by omega) (by omega)
 simp -zeta only[aK K8,TB,hw,x9,K3]
 refine⟨fun e3=>no _ _ (by unfold ZL;rw[if_neg e0',if_neg e1,if_neg e2,if_pos (by omega)]) (by decide) h,fun e3=>?_⟩
 have hE:ZL s f at_ t=0:=Yc0.2 ⟨by simpa using e0,by omega,by omega⟩
 have hW:fG s f at_ t=KJ s f at_.toNat t:=by unfold fG;rw[if_pos hE]
 rw[hE,hW] at k
 obtain⟨a,rfl⟩:∃a:Nat,at_=a:=⟨at_.toNat,by omega⟩
 have hat:(a:Int).toNat=a:=by omega
 rw[hat] at k
 clear no
 rw[VW,K3]
 refine⟨fun e4=>k _ _ [] _ ⟨rfl,rfl,rfl⟩ (by unfold KJ;rw[if_pos e4];exact Z6.close hF hk h),fun e4=>?_⟩
 have hpos:=size_pos e4
 have hnow:=hF.ok.now f
 simp -zeta only[J5,U0 VG,Nat.add_zero,h.ld 0 rfl b_ (o:=0) rfl,za0 hF (h.here (i:=1) rfl)]
 refine h.R8 (ds:=(s.fs f).cs.toArray) gQ rfl TN rfl (fun v hv=>Enc.one (s.fs f) v hv) fun x w2 h=>?_
 simp -zeta only[U0 SX,Nat.add_zero,h.ld 4 rfl U6 (o:=0) rfl]
 refine h.ask (fun B2 own base2=>sE0 (s:=(s.fs f).now) (t:=t) (at_:=a) (by omega) (by omega) (by omega)) fun w3 h=>?_
 refine h.st 4 rfl U6 (show 0<2 by omega) rfl fun w4 h=>?_
 have h:=h.tick
 simp -zeta only[h.ld 0 rfl b_ (o:=0) rfl,h.r9 4 rfl TN rfl]
 refine h.Of0 1 rfl IB fv0 f (⟨JO (s.fs f).now a t,(s.fs f).last⟩:YA) fun w5 h=>?_
 have hq1:IntKind.i64.wrap ((a:Int).tdiv 64)=((a / 64:Nat):Int):=by
  rw[Int.tdiv_eq_ediv_of_nonneg (by omega),E5 (by omega) (by omega)];omega
 simp -zeta only[Fr0 (show (64:Int)≠0 by decide),hq1]
 have h:=h.take 4
 have hadd:=hF.ok.add (f:=f) (qU.1 e0).2 (at_:=a) (t:=t) (by omega)
 have hA:KJ s f a t={ s with fs:=upd s.fs f ⟨JO (s.fs f).now a t,(s.fs f).last⟩,queue:=JU f s.queue (secs a t.size) }:=by unfold KJ;rw[if_neg e4]
 generalize hlf:WL f (⟨JO (s.fs f).now a t,(s.fs f).last⟩:YA) lf cf=lfc at h
 obtain⟨lf',cf'⟩:=lfc
 have hwf':WfE lf' cf':=by have:=hF.wf.set f (⟨JO (s.fs f).now a t,(s.fs f).last⟩:YA);rw[hlf] at this;exact this
 have hfiles:∀g,(KJ s f a t).fs g=(SF g lf').getD F0:=by
  intro g
  have e:lf'=(WL f (⟨JO (s.fs f).now a t,(s.fs f).last⟩:YA) lf cf).1:=by rw[hlf]
  rw[hA,e,xU hF.wf.keys]
  show upd s.fs f _ g=_
  unfold upd
  split
  ·rfl
  ·exact hF.files g
 have hsl:=gA0 a t.size
 have hqn:∀j,(JU f s.queue ((secs a t.size).take j)).length≤s.queue.length+j:=by
  intro j
  have:∀(ns:List Nat) (q:List Sec),(JU f q ns).length≤q.length+ns.length:=by
   intro ns
   induction ns with
   | nil=>intro q;exact Nat.le_refl _
   | cons n ns ih =>
    intro q
    unfold JU at ih ⊢
    rw[List.foldl_cons]
    refine Nat.le_trans (ih _) ?_
    unfold gi0
    split
    ·simp only[List.length_cons];omega
    ·simp only[List.length_append,List.length_cons,List.length_nil];omega
  refine Nat.le_trans (this _ _) ?_
  rw[List.length_take]
  omega
 have hql:=hF.ok.OF0
 refine F6 (fun x w'=>∃(j:Nat) (qv:Value) (ls:List (Ent Sec Bool)) (cs:Nat),j≤(secs a t.size).length∧x=(.int .i64 ((a / 64+j:Nat):Int),())∧WfE ls cs∧(∀q,(SF q ls).getD false=decide (q∈JU f s.queue ((secs a t.size).take j))) ∧
   Rel B' w' [O1 p P5 (dcs m qv m2 s kv),W9 m lf' cf',Y3 R4 qv (JU f s.queue ((secs a t.size).take j)),W9 m2 ls cs]) (fun x _=>a / 64+(secs a t.size).length-(match x.1 with | .int _ n=>n.toNat | _=>0))
  ⟨0,qv,ls,cs,Nat.zero_le _,rfl,hF.ws,hF.set_,h⟩ ?_
 clear h
 rintro x2 w6 ⟨j,qv,ls,cs,hj,rfl,hws,hset,h⟩ next hnext
 have hqj:=hqn j
 have hw1:IntKind.i64.wrap ((a:Int)+((bl t).length:Int))=((a+(bl t).length:Nat):Int):=by rw[E5 (by omega) (by omega)];omega
 have hw2:IntKind.i64.wrap (((a+(bl t).length:Nat):Int)-1)=((a+(bl t).length-1:Nat):Int):=by rw[E5 (by omega) (by omega)];omega
 have hw3:IntKind.i64.wrap (((a+(bl t).length-1:Nat):Int).tdiv 64)=(((a+(bl t).length-1) / 64:Nat):Int):=by
  rw[Int.tdiv_eq_ediv_of_nonneg (by omega),E5 (by omega) (by omega)];omega
 simp -zeta only[Z5,hw1,TB,hw2,Fr0 (show (64:Int)≠0 by decide),hw3,WC,K3]
 refine⟨fun hle=>?_,fun hgt=>?_⟩
 ·have hjl:j<(secs a t.size).length:=by omega
  have hsg:=fA0 hjl
  refine P6 fun J hJ=>?_
  replace hJ:∀(qv:Value) (ls:List (Ent Sec Bool)) (cs:Nat) w',WfE ls cs→(∀q,(SF q ls).getD false=decide (q∈JU f s.queue ((secs a t.size).take (j+1)))) →
    Rel B' w' [O1 p P5 (dcs m qv m2 s kv),W9 m lf' cf',Y3 R4 qv (JU f s.queue ((secs a t.size).take (j+1))),W9 m2 ls cs]→J () w':=by
   intro qv ls cs w' h1 h2 h
   refine hJ _ _ ?_
   rw[E5 (by omega) (by omega)]
   exact hnext _ _ ⟨j+1,qv,ls,cs,hjl,by rw[show ((a / 64+j:Nat):Int)+1=((a / 64+(j+1):Nat):Int) by omega],h1,h2,h⟩ (by simp only;omega)
  clear hnext
  rw[pY]
  refine h.R8 (ds:=(⟨f,((a / 64+j:Nat):Int)⟩:Sec).cs.toArray) PP rfl J9 rfl (fun v hv=>Enc.one (⟨f,((a / 64+j:Nat):Int)⟩:Sec) v hv) fun b w7 h=>?_
  have h:=h.tick
  simp -zeta only[J5,U0 OT,Nat.zero_add,h.ld 0 rfl jB (o:=2) rfl,h.r9 4 rfl J9 rfl,
   h.lookup 3 rfl NE uF0 false dB0 (⟨f,((a / 64+j:Nat):Int)⟩:Sec) (xv := .agg (⟨f,((a / 64+j:Nat):Int)⟩:Sec).cs.toArray) (yv := .bool ((SF (⟨f,((a / 64+j:Nat):Int)⟩:Sec) ls).getD false)),hset,V7,G5,K3]
  have hs1:=Yt0 (f:=f) (q:=s.queue) hjl
  rw[hsg] at hs1
  unfold gi0 at hs1
  refine⟨fun hin=>?_,fun hin=>?_⟩
  ·rw[if_pos hin] at hs1
   rw[hs1] at hJ
   exact hJ qv ls cs _ hws hset (h.take 4)
  ·rw[if_neg hin] at hs1
   have h:=h.tick
   simp -zeta only[U0 wP,Nat.zero_add,h.ld 0 rfl jB (o:=2) rfl,h.r9 4 rfl J9 rfl,h.ld 0 rfl nD (o:=1) rfl]
   refine h.XH (⟨f,((a / 64+j:Nat):Int)⟩:Sec) jA (by decide) fun tv w8 h=>?_
   refine⟨h.is 0 rfl nD (o:=1) rfl,h.bV 4 rfl J9 rfl,h.is 0 rfl jB (o:=2) rfl,?_⟩
   refine h.append 2 rfl jA (l2:=[(⟨f,((a / 64+j:Nat):Int)⟩:Sec)]) (Rd.at 5 (E:=R4) rfl) (by simp;omega) (by simp;omega) fun qv' w9 h=>?_
   refine⟨h.bV 4 rfl J9 rfl,h.is 0 rfl jB (o:=2) rfl,?_⟩
   have h1:qv'.oneCell'=true:=h.oneCell (i:=2) rfl
   refine h.st 0 rfl nD (show 1<7 by omega) h1 fun w10 h=>?_
   refine⟨h.bV 4 rfl J9 rfl,?_⟩
   refine h.mapEntry 3 rfl NE uF0 false dB0 (⟨f,((a / 64+j:Nat):Int)⟩:Sec) fun w11 h=>?_
   rw[D9]
   refine h.entryStore 3 rfl sk0 true fun w12 h=>?_
   obtain⟨es1,es2⟩:=kc0 (x:=(⟨f,((a / 64+j:Nat):Int)⟩:Sec)) (y:=true) (z:=false) hws
   rw[es1,es2] at h
   have h:=h.take 4
   rw[hs1] at hJ
   refine hJ qv' _ _ _ (hws.set _ _) (fun q=>?_) h
   rw[xU hws.keys]
   by_cases e:q=⟨f,((a / 64+j:Nat):Int)⟩
   ·rw[if_pos e]
    subst e
    simp
   ·rw[if_neg e,hset q]
    exact decide_eq_decide.2 ⟨fun h=>List.mem_append_left _ h,fun h=>(List.mem_append.1 h).elim id fun h=>absurd (List.mem_singleton.1 h) e⟩
 ·have hjl:j=(secs a t.size).length:=by omega
  subst hjl
  rw[List.take_length] at h hset
  refine k _ _ [] _ ⟨rfl,rfl,rfl⟩ ?_
  have hF':DF (KJ s f a t) lf' cf' ls cs:=⟨hwf',hfiles,hws,by rw[hA];exact hset,hadd⟩
  refine Z6.close (m:=m) (m2:=m2) (qv:=qv) hF' hk ?_
  rw[hA]
  exact h
def yQ(l:List (Ent Int YA))(seen:Array Nat):List (Ent Int YA):=l.map fun e=>if seen.contains e.2.2=true then(e.1,(⟨e.2.1.last,e.2.1.last⟩:YA),e.2.2) else e
theorem Ip0(l:List (Ent Int YA))(seen:Array Nat):(yQ l seen).map (·.1)=l.map (·.1):=by
 unfold yQ
 rw[List.map_map]
 refine List.map_congr_left fun e _=>?_
 simp only[Function.comp_apply]
 split<;>rfl
theorem PU(l:List (Ent Int YA))(seen:Array Nat):(yQ l seen).map (·.2.2)=l.map (·.2.2):=by
 unfold yQ
 rw[List.map_map]
 refine List.map_congr_left fun e _=>?_
 simp only[Function.comp_apply]
 split<;>rfl
theorem Bx0{l:List (Ent Int YA)}{c:Nat}(h:WfE l c)(seen:Array Nat):WfE (yQ l seen) c:=by
 refine⟨by rw[Ip0];exact h.keys,by rw[PU];exact h.stamps,fun e he=>?_⟩
 have hm:e.2.2∈(yQ l seen).map (·.2.2):=List.mem_map_of_mem he
 rw[PU] at hm
 obtain⟨e',he',h1⟩:=List.mem_map.1 hm
 rw[←h1]
 exact h.below e' he'
theorem zu0(l:List (Ent Int YA)):yQ l #[]=l:=by
 unfold yQ
 have:(fun e:Ent Int YA=>if(#[]:Array Nat).contains e.2.2=true then(e.1,(⟨e.2.1.last,e.2.1.last⟩:YA),e.2.2) else e)=id:=by
  funext e
  simp
 rw[this,List.map_id]
theorem Qu0{l:List (Ent Int YA)}(g:YA→YA)(x:Int):SF x (l.map fun e=>(e.1,g e.2.1,e.2.2))=(SF x l).map g:=by
 induction l with
 | nil=>rfl
 | cons e l ih =>
  unfold SF at ih ⊢
  simp only[List.map_cons,QC]
  by_cases h:x=e.1
  ·rw[if_pos h,if_pos h];rfl
  ·rw[if_neg h,if_neg h,oN x (List.map _ l),oN x l,Option.map_map,Option.map_map,Option.map_map]
   have:=ih
   rw[Option.map_map] at this
   exact this
theorem qB0(a:Int):IntKind.wrap .i64 (BitVec.ofInt IntKind.i64.bits a &&& BitVec.ofInt IntKind.i64.bits 1).toNat=a % 2:=HE0 1 (by omega) a 1 rfl
theorem Tr0{v:Value}{keep:List Int}(r:O4 v keep B)(hkl:keep.length≤9223372036854775807):Does Tryz.prog B (Z6 p s kv) (Z0 lG #[ptr p,v]) fun u e' τ=>u = .tuple #[]∧e'=Z6 p (SL s keep) kv∧τ=[]:=by
 refine Does.intro fun B' w K base h k=>?_
 replace r:=base r
 obtain⟨m,lf,cf,m2,ls,cs,qv,hF,hk,h⟩:=Z6.open_ h
 have hql:=hF.ok.OF0
 refine GM.up ?_
 unfold GM.pt
 simp -zeta only[J5,U0 PT,Nat.zero_add,h.ld 0 rfl AB (o:=4) rfl]
 rw[R5]
 refine⟨fun e=>k _ _ [] _ ⟨rfl,rfl,rfl⟩ (by unfold SL;rw[if_pos e];exact Z6.close hF hk h),fun e=>?_⟩
 refine h.st 0 rfl AB (show 4<7 by omega) rfl fun w1 h=>?_
 simp -zeta only[U0 RX,U0 wP,Nat.zero_add]
 refine h.st 0 rfl Y2 (show 5<7 by omega) rfl fun w2 h=>?_
 have hqr:=Y3.read (h.here (i:=2) rfl)
 simp -zeta only[h.ld 0 rfl nD (o:=1) rfl,O4.len hqr jA]
 clear hqr
 have h:Rel B' w2 [O1 p P5 #[oO m,qv,oO m2,.int .i64 s.lost,.bool true,.int .i64 0,kv],W9 m lf cf,Y3 R4 qv s.queue,W9 m2 ls cs]:=h
 refine F6 (fun x w'=>∃(i:Nat) (lf:List (Ent Int YA)) (cf:Nat),i≤s.queue.length∧x=(.int .i64 i,())∧WfE lf cf∧(∀f,FK keep s.queue s.fs i f=(SF f lf).getD F0) ∧
   Rel B' w' [O1 p P5 #[oO m,qv,oO m2,.int .i64 s.lost,.bool true,.int .i64 0,kv],W9 m lf cf,Y3 R4 qv s.queue,W9 m2 ls cs]) (fun x _=>s.queue.length-(match x.1 with | .int _ n=>n.toNat | _=>0))
  ⟨0,lf,cf,Nat.zero_le _,rfl,hF.wf,hF.files,h⟩ ?_
 clear h
 rintro x w3 ⟨i,lf,cf,hi,rfl,hwf,hfs,h⟩ next hnext
 obtain⟨hsn,hsl⟩:=Sg0 (keep:=keep) (qs:=s.queue) hF.ok.now hF.ok.last i
 simp -zeta only[G6,K3]
 refine⟨fun hlt=>?_,fun hge=>?_⟩
 ·have hil:i<s.queue.length:=by omega
  have hgd:s.queue.getD i ⟨0,0⟩=s.queue[i]:=by rw[List.getD_eq_getElem?_getD,List.getElem?_eq_getElem hil];rfl
  have hqi:=hF.ok.q _ (List.getElem_mem hil)
  generalize hq:s.queue[i]=q at hqi hgd
  have hstep:FK keep s.queue s.fs (i+1)=yV keep i q (FK keep s.queue s.fs i):=by
   show yV keep i (s.queue.getD i ⟨0,0⟩) _=_
   rw[hgd]
  refine P6 fun J hJ=>?_
  replace hJ:∀(lf:List (Ent Int YA)) (cf:Nat) w',WfE lf cf→(∀f,FK keep s.queue s.fs (i+1) f=(SF f lf).getD F0) →
    Rel B' w' [O1 p P5 #[oO m,qv,oO m2,.int .i64 s.lost,.bool true,.int .i64 0,kv],W9 m lf cf,Y3 R4 qv s.queue,W9 m2 ls cs]→J () w':=by
   intro lf cf w' h1 h2 h
   refine hJ _ _ ?_
   rw[Z5,E5 (by omega) (by omega)]
   exact hnext _ _ ⟨i+1,lf,cf,hil,rfl,h1,h2,h⟩ (by simp only;omega)
  clear hnext
  have same:(yV keep i q (FK keep s.queue s.fs i)=FK keep s.queue s.fs i)→∀w' σ,Rel B' w' ([O1 p P5 #[oO m,qv,oO m2,.int .i64 s.lost,.bool true,.int .i64 0,kv],W9 m lf cf,Y3 R4 qv s.queue,W9 m2 ls cs]++σ)→J () w':=by
   intro e w' σ h
   exact hJ lf cf w' hwf (by rw[hstep,e];exact hfs) h.drop
  obtain⟨g,o,hx,hc⟩:=O4.idx (P:=Tryz.prog) (Y3.read (h.here (i:=2) rfl)) jA hil
  rw[hq] at hc
  simp -zeta only[hx,K6.r9 hc J9 rfl]
  refine h.R8 (ds:=q.cs.toArray) PP rfl J9 rfl (fun v hv=>Enc.one q v hv) fun b w4 h=>?_
  have h:=h.tick
  have hlook:∀{w:World} (hm:(W9 m lf cf).here w) {Kp:Value→Prop},Y0 Tryz.prog (XJ O6 (oO m) (.int .i64 q.file) false) w Kp=Kp (.agg #[.string (FK keep s.queue s.fs i q.file).now,.string (FK keep s.queue s.fs i q.file).last]) :=
   fun {w} hm {Kp}=>W9.look (x:=q.file) hm IB fv0 F0 gQ rfl (by rw[←hfs];rfl)
  have hw1:IntKind.i64.wrap (q.number * 64)=q.number * 64:=E5 (by omega) (by omega)
  simp -zeta only[J5,U0 VG,U0 tQ,U0 md0,Nat.add_zero,Nat.zero_add,h.ld 0 rfl b_ (o:=0) rfl,h.ld 4 rfl Y2 (o:=0) rfl,h.ld 4 rfl Y2 (o:=1) rfl,hlook (h.here (i:=1) rfl),Er0,hw1]
  refine h.alloc gQ fun fb w5 h=>?_
  refine⟨h.is 4 rfl Y2 (o:=1) rfl,Cy0 (hlook (h.here (i:=1) rfl)),h.is 4 rfl Y2 (o:=0) rfl,h.is 0 rfl b_ (o:=0) rfl,?_⟩
  generalize hfv:FK keep s.queue s.fs i q.file=fv at hlook
  have hfn:=hsn q.file
  have hfl:=hsl q.file
  rw[hfv] at hfn hfl
  have hnow:=hF.ok.now q.file
  rw[←hfn] at hnow
  refine h.YG 5 rfl TN (ds:=fv.cs.toArray) rfl rfl (fun v hv=>Enc.one fv v hv) fun w6 h=>?_
  refine⟨h.is 4 rfl Y2 (o:=1) rfl,?_⟩
  simp -zeta only[O4.len r N8,F7,K3]
  refine⟨fun e1=>same (by unfold yV;rw[if_pos (List.eq_nil_of_length_eq_zero (by omega))]) _ _ h,fun e1=>?_⟩
  have hk0:keep≠[]:=fun e=>e1 (by rw[e];rfl)
  have hkp:0<keep.length:=List.length_pos_iff.2 hk0
  have hmod:i % keep.length<keep.length:=Nat.mod_lt _ hkp
  have hrem:(i:Int).tmod (keep.length:Int)=((i % keep.length:Nat):Int):=by
   rw[Int.tmod_eq_emod_of_nonneg (by omega)]
   exact(Int.natCast_emod _ _).symm
  obtain⟨g2,o2,hx2,hc2⟩:=O4.idx r N8 (P:=Tryz.prog) hmod
  have hkd:keep.getD (i % keep.length) 0=keep[i % keep.length]:=by rw[List.getD_eq_getElem?_getD,List.getElem?_eq_getElem hmod];rfl
  simp -zeta only[uB0 (show (keep.length:Int)≠0 by omega),hrem,hx2,K6.ld0 (h.L6 hc2) Y2 rfl,fZ,qB0,F7,K3]
  refine⟨fun e2=>same (by unfold yV;rw[if_neg hk0,hkd,if_pos e2]) _ _ h,fun e2=>?_⟩
  have hbn:=B_ fv.now
  simp -zeta only[U0 SX,U0 UX,Nat.add_zero,Nat.zero_add,h.ld 5 rfl U6 (o:=0) rfl,aK K8,FC,K3]
  refine⟨fun e3=>same (by unfold yV;rw[if_neg hk0,hkd,if_neg e2,hfv,if_pos (by omega)]) _ _ h,fun e3=>?_⟩
  clear same
  have hS:yV keep i q (FK keep s.queue s.fs i)=upd (FK keep s.queue s.fs i) q.file ⟨fv.now,JO fv.last (64 * q.number.toNat) (gj0 fv.now (64 * q.number.toNat))⟩:=by
   unfold yV;rw[if_neg hk0,hkd,if_neg e2,hfv,if_neg (by omega)]
  have h:=h.tick
  have hw2:IntKind.i64.wrap (q.number * 64+64)=q.number * 64+64:=E5 (by omega) (by omega)
  have hmin:min (q.number * 64+64) ((bl fv.now).length:Int)=((min (64 * q.number.toNat+64) fv.now.size:Nat):Int):=by omega
  have hn64:q.number * 64=((64 * q.number.toNat:Nat):Int):=by omega
  simp -zeta only[h.ld 5 rfl U6 (o:=0) rfl,h.ld 5 rfl U6 (o:=1) rfl,aK K8,Z5,hw2,YK,hmin]
  rw[hn64,qR K8 (lo:=64 * q.number.toNat) (hi:=min (64 * q.number.toNat+64) fv.now.size) Bnd.some Bnd.some (by omega) (by omega)]
  have hps:=dg0 (now:=fv.now) (n:=64 * q.number.toNat)
  refine h.ask (fun B2 own base2=>sE0 (s:=fv.last) (t:=gj0 fv.now (64 * q.number.toNat)) (at_:=64 * q.number.toNat) (by omega) (by omega) (by omega)) fun w7 h=>?_
  refine h.st 5 rfl U6 (show 1<2 by omega) rfl fun w8 h=>?_
  have h:=h.tick
  simp -zeta only[h.ld 0 rfl b_ (o:=0) rfl,h.ld 4 rfl Y2 (o:=0) rfl,h.r9 5 rfl TN rfl]
  refine h.Of0 1 rfl IB fv0 q.file (⟨fv.now,JO fv.last (64 * q.number.toNat) (gj0 fv.now (64 * q.number.toNat))⟩:YA) fun w9 h=>?_
  refine hJ _ _ _ (hwf.set _ _) (fun f=>?_) (h.take 4)
  rw[hstep,hS,xU hwf.keys]
  unfold upd
  split
  ·rfl
  ·exact hfs f
 ·have hie:i=s.queue.length:=by omega
  subst hie
  clear hnext
  simp -zeta only[J5,U0 VG,Nat.add_zero,h.ld 0 rfl b_ (o:=0) rfl]
  refine h.range 1 rfl IB fun it w4 h=>?_
  refine F6 (fun _ w'=>∃seen:Array Nat,Rel B' w' [O1 p P5 #[oO m,qv,oO m2,.int .i64 s.lost,.bool true,.int .i64 0,kv],W9 m (yQ lf seen) cf,Y3 R4 qv s.queue,W9 m2 ls cs,nW it m cf seen cf]) (fun _ w'=>dJ lf (iN w' it))
   ⟨#[],by rw[zu0];exact h⟩ ?_
  clear h
  rintro x w5 ⟨seen,h⟩ next hnext
  have hms:=xN h (j:=4) rfl
  have hwd:=Bx0 hwf seen
  refine h.next 1 4 it rfl rfl hwd.below (fun w6 hall h=>?_) (fun e1 w6 he hns h=>?_)
  ·rw[F5 (v := .bool false) (fun w=>rfl),d_]
   refine h.mkMap Sec Bool fun m3 w7 h=>?_
   simp -zeta only[J5,U0 wP,U0 OT,Nat.zero_add]
   refine h.st 0 rfl nD (show 1<7 by omega) rfl fun w8 h=>?_
   refine h.st 0 rfl jB (show 2<7 by omega) rfl fun w9 h=>?_
   have h:=h.VC Sec R4
   have h:=h.pick [0,1,6,5] (by decide)
   have hC:SL s keep={ s with fs:=fun f=>⟨(FK keep s.queue s.fs s.queue.length f).last,(FK keep s.queue s.fs s.queue.length f).last⟩,queue:=[],down:=true,armed:=0 }:=by
    unfold SL;rw[if_neg (by rw[e];decide)]
   have hall2:yQ lf seen=lf.map fun e=>(e.1,(⟨e.2.1.last,e.2.1.last⟩:YA),e.2.2):=by
    unfold yQ
    refine List.map_congr_left fun e he=>?_
    have hm:e.2.2∈(yQ lf seen).map (·.2.2):=by rw[PU];exact List.mem_map_of_mem he
    obtain⟨e',he',h1⟩:=List.mem_map.1 hm
    have:=hall e' he'
    rw[h1] at this
    rw[if_pos this]
   have hF':DF (SL s keep) (yQ lf seen) cf [] 0:=by
    refine⟨hwd,fun f=>?_,WfE.nil,fun q=>?_,hF.ok.Ke0 keep⟩
    ·rw[hC,hall2,Qu0 (fun v=>(⟨v.last,v.last⟩:YA))]
     show (⟨_,_⟩:YA)=_
     rw[hfs f]
     cases SF f lf<;>rfl
    ·rw[hC];simp [SF,QC]
   refine k _ _ [] _ ⟨rfl,rfl,rfl⟩ (Z6.close (m:=m) (m2:=m3) (qv := .slice none 0 0) hF' hk ?_)
   rw[hC]
   exact h
  ·rw[UU,lC]
   refine h.entry 1 4 it rfl rfl he hwd.stamps fun w7 h=>?_
   rw[M9,D9]
   refine h.R8 (ds:=e1.2.1.cs.toArray) gQ rfl TN rfl (fun v hv=>Enc.one e1.2.1 v hv) fun b w8 h=>?_
   have h:=h.tick
   simp -zeta only[J5,U0 VG,U0 UX,Nat.add_zero,Nat.zero_add,h.ld 0 rfl b_ (o:=0) rfl,h.ld 5 rfl U6 (o:=1) rfl,fU]
   refine h.Of0 1 rfl IB fv0 e1.1 (⟨e1.2.1.last,e1.2.1.last⟩:YA) fun w9 h=>?_
   obtain⟨s1,s2⟩:=jA0 hwd he (⟨e1.2.1.last,e1.2.1.last⟩:YA)
   rw[s1,s2] at h
   obtain⟨e0,he0,h0⟩:=List.mem_map.1 he
   have he0':e1=e0:=by
    rw[←h0]
    split
    ·rename_i hc
     have:e1.2.2=e0.2.2:=by rw[←h0,if_pos hc]
     rw[this,hc] at hns
     cases hns
    ·rfl
   have hd:(yQ lf seen).map (fun e'=>if e'.2.2=e1.2.2 then(e'.1,(⟨e1.2.1.last,e1.2.1.last⟩:YA),e'.2.2) else e')=yQ lf (seen.push e1.2.2):=by
    unfold yQ
    rw[List.map_map]
    refine List.map_congr_left fun x hx=>?_
    simp only[Function.comp_apply,contains_push]
    by_cases hxe:x=e1
    ·subst hxe
     rw[hns]
     simp
    ·have hne:x.2.2≠e1.2.2:=fun hh=>hxe (by rw[he0'] at hh ⊢;exact hwf.UV hx he0 hh)
     cases hc:seen.contains x.2.2<;>simp [hne]
   rw[hd] at h
   have h:=h.take 5
   refine hnext _ _ ⟨_,h⟩ ?_
   show dJ lf (iN w9 it)<dJ lf (iN w5 it)
   rw[hms,xN h (j:=4) rfl,he0']
   rw[he0'] at hns
   exact eQ he0 hns
end
end Go.Proofs.YtngbebnhegcokaaGreatDoor

namespace Go.Proofs.YtngbebnhegcokaaGreatDoor
open Go.RowKit
set_option maxRecDepth 100000
theorem AR(s:DS):(vF s).keep=s.keep:=by unfold vF;split<;>rfl
theorem Gy0(s:DS)(f:Int)(a:Nat)(t:ByteArray):(KJ s f a t).keep=s.keep:=by unfold KJ;split<;>rfl
theorem zY(s:DS)(f a:Int)(t:ByteArray):(fG s f a t).keep=s.keep:=by unfold fG;split;exact Gy0 _ _ _ _;rfl
theorem Df0(s:DS)(k:List Int):(SL s k).keep=s.keep:=by unfold SL;split<;>rfl
theorem Ca0(s:DS):(TF s).keep=s.keep:=by unfold TF;split;rw[Df0,AR];exact AR s
theorem GG(s:DS)(f a:Int)(t:ByteArray):(fB s f a t).1.keep=s.keep:=by
 unfold fB
 split
 ·show (SL _ _).keep=_;rw[Df0,zY,AR]
 ·show (fG _ _ _ _).keep=_;rw[zY,AR]
theorem cB(s:DS)(f:Int):(L9 s f).1.keep=s.keep:=by
 unfold L9
 split
 ·exact Ca0 s
 ·split
  ·exact Ca0 s
  ·exact Ca0 s
section
variable {B:Base} {w:World} {p:Nat} {s:DS} {kv:Value}
theorem On0{σ:List Dat}(hr:Rel B w σ)(i:Nat)(hi:σ[i]? = some (Z6 p s kv)){Kp:Value→Prop}(k:Kp kv):M0 Tryz.prog (D5 (ptr p)) fun t0=>M0 Tryz.prog (O0 P5 t0 6) fun t=>Y0 Tryz.prog (X0 R6 t) w Kp:=by
 obtain⟨m,lf,cf,m2,ls,cs,qv,hF,hc,hm,hq,hs⟩:=Z6.jP (hr.here hi)
 rw[J5,U0 Oh0,Nat.zero_add,O1.ld hc wF (o:=6) rfl]
 exact k
theorem Vj0(r:O4 kv s.keep B)(hkl:s.keep.length≤1000000)(f at_:Int){t:ByteArray}(ht:t.size≤9223372036854775807):Does Tryz.prog B (Z6 p s kv) (Z0 mG #[ptr p,.int .i64 f,.int .i64 at_,.string t])
  fun v e' τ=>v = .int .i64 (fB s f at_ t).2∧e'=Z6 p (fB s f at_ t).1 kv∧τ=[]:=by
 refine Does.intro fun B' w K base h k=>?_
 replace r:=base r
 refine IM.up ?_
 unfold IM.pt
 unfold fB at k
 refine h.act 0 rfl (fun B2 own base2=>Rx0) fun v e' τ w1 hp h=>?_
 obtain⟨rfl,rfl,rfl⟩:=hp
 refine h.act 0 rfl (fun B2 own base2=>MD0 f at_ ht) fun v e' τ w2 hp h=>?_
 obtain⟨rfl,rfl,rfl⟩:=hp
 have h:Rel B' w2 [Z6 p (fG (vF s) f at_ t) kv]:=h
 rw[R5]
 refine⟨fun e=>?_,fun e=>?_⟩
 ·rw[if_pos e] at k
  refine On0 h 0 rfl ?_
  have hk:(fG (vF s) f at_ t).keep=s.keep:=by rw[zY,AR]
  refine h.act 0 rfl (fun B2 own base2=>Tr0 (keep:=(fG (vF s) f at_ t).keep) (by rw[hk];exact base2 r) (by rw[hk];omega)) fun v e' τ w3 hp h=>?_
  obtain⟨rfl,rfl,rfl⟩:=hp
  exact k _ _ [] _ ⟨rfl,rfl,rfl⟩ h
 ·rw[if_neg (by rw[e];decide)] at k
  exact k _ _ [] _ ⟨rfl,rfl,rfl⟩ h
theorem RE0{σ:List Dat}{K:World→Prop}(r:O4 kv s.keep B)(hkl:s.keep.length≤1000000)(h:Rel B w [Z6 p s kv])(k:∀w',Rel B w' [Z6 p (TF s) kv]→K w') :
  upK Tryz.prog (Z0 LH #[ptr p]) w fun t7 w5=>ifB t7 (M0 Tryz.prog (D5 (ptr p)) fun t10=>M0 Tryz.prog (O0 P5 t10 6) fun t11=>Y0 Tryz.prog (X0 R6 t11) w5 fun t12=>upK Tryz.prog (Z0 lG #[ptr p,t12]) w5 fun t13 w6=>K w6) (K w5):=by
 refine h.act 0 rfl (fun B2 own base2=>Rx0) fun v e' τ w1 hp h=>?_
 obtain⟨rfl,rfl,rfl⟩:=hp
 unfold TF at k
 rw[R5]
 refine⟨fun e=>?_,fun e=>?_⟩
 ·rw[if_pos e] at k
  refine On0 h 0 rfl ?_
  have hk:(vF s).keep=s.keep:=AR s
  refine h.act 0 rfl (fun B2 own base2=>Tr0 (keep:=(vF s).keep) (by rw[hk];exact base2 r) (by rw[hk];omega)) fun v e' τ w3 hp h=>?_
  obtain⟨rfl,rfl,rfl⟩:=hp
  exact k _ h
 ·rw[if_neg (by rw[e];decide)] at k
  exact k _ h
theorem ba0(r:O4 kv s.keep B)(hkl:s.keep.length≤1000000)(f:Int):Does Tryz.prog B (Z6 p s kv) (Z0 aC #[ptr p,.int .i64 f]) fun v e' τ=>v = .int .i64 (L9 s f).2∧e'=Z6 p (L9 s f).1 kv∧τ=[]:=by
 refine Does.intro fun B' w K base h k=>?_
 replace r:=base r
 refine YN.up ?_
 unfold YN.pt
 unfold L9 at k
 refine P6 fun J hJ=>?_
 replace hJ:∀w',Rel B' w' [Z6 p (TF s) kv]→J () w':=by
  intro w1 h
  refine hJ _ _ ?_
  clear hJ
  obtain⟨m,lf,cf,m2,ls,cs,qv,hF,hk,h⟩:=Z6.open_ h
  refine h.ask (fun B2 own base2=>My0 (own (i:=0) rfl) f) fun w2 h=>?_
  simp -zeta only[Q7,G5,K3]
  refine⟨fun e0=>?_,fun e0=>?_⟩
  ·rw[if_neg (by simpa using e0)] at k
   simp -zeta only[J5,U0 Nh0,Nat.zero_add,h.ld 0 rfl Y2 (o:=3) rfl,x9,K3]
   refine⟨fun e1=>?_,fun e1=>?_⟩
   ·rw[if_pos e1] at k
    have hl:=hF.ok.lost
    rw[TB,E5 (by omega) (by omega)]
    refine h.st 0 rfl Y2 (show 3<7 by omega) rfl fun w3 h=>?_
    have hF':DF { TF s with lost:=(TF s).lost-1 } lf cf ls cs:=⟨hF.wf,hF.files,hF.ws,hF.set_,⟨hF.ok.now,hF.ok.last,hF.ok.q,hF.ok.nd,by show 0≤(TF s).lost-1∧(TF s).lost-1≤_;omega,hF.ok.armed⟩⟩
    exact k _ _ [] _ ⟨rfl,rfl,rfl⟩ (Z6.close hF' hk h)
   ·rw[if_neg e1] at k
    simp -zeta only[U0 VG,Nat.add_zero,h.ld 0 rfl b_ (o:=0) rfl,za0 hF (h.here (i:=1) rfl),qn0 (cs:=#[.string ((TF s).fs f).now,.string ((TF s).fs f).last]) (v := .string ((TF s).fs f).now) XX rfl]
    have hn:=hF.ok.now f
    have h:=Z6.close hF hk h
    refine h.act 0 rfl (fun B2 own base2=>oA0 f hn) fun v e' τ w3 hp h=>?_
    obtain⟨rfl,rfl,rfl⟩:=hp
    exact k _ _ [] _ ⟨rfl,rfl,rfl⟩ h
  ·rw[if_pos e0] at k
   exact k _ _ [] _ ⟨rfl,rfl,rfl⟩ (Z6.close hF hk h)
 exact RE0 (σ:=[]) (K:=fun w=>J () w) r hkl h hJ
theorem zp0:Makes Tryz.prog B (Z0 jY #[]) fun v τ=>∃p,v=ptr p∧τ=[Z6 p iC (.slice none 0 0)]:=by
 refine Makes.intro fun B' w K base h k=>?_
 refine kZ.up ?_
 unfold kZ.pt
 refine h.mkMap Int YA fun m w1 h=>?_
 refine h.mkMap Sec Bool fun m2 w2 h=>?_
 rw[sa0]
 refine h.box fun p w3 h=>?_
 have h:=h.VC Sec R4
 have h:=h.pick [2,0,3,1] (by decide)
 have hF:DF iC [] 0 [] 0:=⟨WfE.nil,fun _=>rfl,WfE.nil,fun q=>by simp [SF,QC,iC],sC0⟩
 exact k _ _ _ ⟨p,rfl,rfl⟩ (Z6.close (m:=m) (m2:=m2) (qv := .slice none 0 0) hF rfl h)
end
end Go.Proofs.YtngbebnhegcokaaGreatDoor

namespace Go.Proofs.YtngbebnhegcokaaGreatDoor
open Go.RowKit
set_option maxRecDepth 100000
end Go.Proofs.YtngbebnhegcokaaGreatDoor

namespace Go.Proofs.YtngbebnhegcokaaGreatDoor
open Go.RowKit
set_option maxRecDepth 100000
theorem qZ{s:DS}(h:s.armed=0):JX s=false∧vF s=s:=by
 unfold JX vF
 rw[h]
 simp
theorem nk0{s:DS}(h:s.armed=0):TF s=s:=by
 obtain⟨h1,h2⟩:=qZ h
 unfold TF
 rw[if_neg (by rw[h1];decide),h2]
theorem di0{s:DS}(h:s.armed=0)(f a:Int)(t:ByteArray):fB s f a t=(fG s f a t,ZL s f a t):=by
 obtain⟨h1,h2⟩:=qZ h
 unfold fB
 rw[if_neg (by rw[h1];decide),h2]
theorem Oz0{s:DS}{f a n:Int}(h:CV s f=0)(ha:0≤a)(hn:0≤n):LD s f a n=(ofL (((bl (s.fs f).now).drop a.toNat).take n.toNat),0):=by
 unfold LD
 rw[if_neg (by simpa using h),if_neg (by omega),if_neg (by omega)]
structure QI (f:Int) (X:ByteArray) (s:DS):Prop where
 fs:s.fs f=⟨X,X⟩
 q:∀q∈s.queue,q.file≠f
theorem Eo0{f:Int}{keep:List Int}{qs:List Sec}{fs:Int→YA}(hq:∀q∈qs,q.file≠f):∀n,n≤qs.length→FK keep qs fs n f=fs f:=by
 intro n
 induction n with
 | zero=>intro _;rfl
 | succ n ih =>
  intro hn
  have hg:qs.getD n ⟨0,0⟩=qs[n]'(by omega):=by rw[List.getD_eq_getElem?_getD,List.getElem?_eq_getElem (by omega)];rfl
  have hne:=hq _ (List.getElem_mem (show n<qs.length by omega))
  show yV keep n (qs.getD n ⟨0,0⟩) (FK keep qs fs n) f=_
  rw[hg]
  unfold yV
  split
  ·exact ih (by omega)
  ·split
   ·exact ih (by omega)
   ·split
    ·exact ih (by omega)
    ·rw[upd_ne (Ne.symm hne)]
     exact ih (by omega)
theorem QI.Ke0{f:Int}{X:ByteArray}{s:DS}(h:QI f X s)(keep:List Int):QI f X (SL s keep):=by
 unfold SL
 split
 ·exact h
 ·refine⟨?_,fun q hq=>by cases hq⟩
  show (⟨(FK keep s.queue s.fs s.queue.length f).last,(FK keep s.queue s.fs s.queue.length f).last⟩:YA)=_
  rw[Eo0 h.q _ (Nat.le_refl _),h.fs]
theorem QI.ends{f:Int}{X:ByteArray}{s:DS}(h:QI f X s):QI f X (vF s):=by unfold vF;split;exact h;exact⟨h.fs,h.q⟩
theorem QI.come{f:Int}{X:ByteArray}{s:DS}(h:QI f X s):QI f X (TF s):=by unfold TF;split;exact h.ends.Ke0 _;exact h.ends
theorem QI.write{f g:Int}{X:ByteArray}{s:DS}(h:QI f X s)(hg:g≠f)(a:Int)(t:ByteArray):QI f X (fG s g a t):=by
 unfold fG KJ
 split
 ·split
  ·exact h
  ·refine⟨?_,fun q hq=>?_⟩
   ·show upd s.fs g _ f=_
    rw[upd_ne (Ne.symm hg)];exact h.fs
   ·rcases dM.1 hq with hq | ⟨n,_,rfl⟩
    ·exact h.q q hq
    ·exact hg
 ·exact h
theorem QI.settle{f g:Int}{X Y:ByteArray}{s:DS}(h:QI f X s)(hg:g≠f):QI f X (OM s g Y):=by
 refine⟨?_,fun q hq=>h.q q (List.mem_filter.1 hq).1⟩
 show upd s.fs g _ f=_
 rw[upd_ne (Ne.symm hg)];exact h.fs
end Go.Proofs.YtngbebnhegcokaaGreatDoor

namespace Go.Proofs.YtngbebnhegcokaaGreatDoor
open Go.RowKit
set_option maxRecDepth 100000
end Go.Proofs.YtngbebnhegcokaaGreatDoor

namespace Go.Proofs.YtngbebnhegcokaaGreatDoor
open Go.RowKit
set_option maxRecDepth 100000
theorem uw0(s:DS)(f a:Int)(t:ByteArray):ZL s f a t=if CV s f≠0 then CV s f else if a<0 then 1 else if ¬(0≤a∧a+t.size≤16777216) then 6 else 0:=by
 unfold ZL
 by_cases c0:CV s f≠0
 ·rw[if_pos c0,if_pos c0]
 rw[if_neg c0,if_neg c0]
 by_cases c1:a<0
 ·rw[if_pos c1,if_pos c1]
 rw[if_neg c1,if_neg c1]
 by_cases c2:16777216<a
 ·rw[if_pos c2,if_pos (by omega)]
 rw[if_neg c2]
 by_cases c3:16777216-a<t.size
 ·rw[if_pos c3,if_pos (by omega)]
 ·rw[if_neg c3,if_neg (by omega)]
theorem im0{s:DS}(hd:s.down=false){f a:Int}{t:ByteArray}:ZL s f a t=0↔(0≤f∧f<16)∧0≤a∧a+t.size≤16777216:=by
 have hm:=qU (s:=s) (f:=f)
 rw[uw0]
 constructor
 ·intro h
  by_cases c0:CV s f≠0
  ·rw[if_pos c0] at h;exact absurd h c0
  rw[if_neg c0] at h
  by_cases c1:a<0
  ·rw[if_pos c1] at h;omega
  rw[if_neg c1] at h
  by_cases c2:0≤a∧a+t.size≤16777216
  ·exact⟨(hm.1 (by simpa using c0)).2,c2⟩
  ·rw[if_pos c2] at h;omega
 ·rintro⟨h1,h2,h3⟩
  rw[if_neg (by rw[hm.2 ⟨hd,h1⟩];decide),if_neg (by omega),if_neg (by omega)]
end Go.Proofs.YtngbebnhegcokaaGreatDoor

