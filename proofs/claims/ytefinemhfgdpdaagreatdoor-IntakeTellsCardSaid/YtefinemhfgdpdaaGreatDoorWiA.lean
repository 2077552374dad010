/-
  The library's functions that the wire encoding calls: the shelf's contracts at this seat's program. No condition.
-/
import Derived.Shelf.Lay
import Derived.Shelf.Strconv.Itoa3
import Derived.Shelf.Strconv.AtoiAll
import Derived.Shelf.Strings.BuilderK
import Derived.Shelf.Small.Strs
import Derived.Shelf.Small.Wraps
import Derived.Ground.NamesProg
import Derived.Test.YtefinemhfgdpdaaGreatDoorProg
import Derived.Test.YtefinemhfgdpdaaGreatDoorWireP
import Derived.Test.YtefinemhfgdpdaaGreatDoorTypes
import Derived.Test.YtefinemhfgdpdaaGreatDoorPt0
import Derived.Test.YtefinemhfgdpdaaGreatDoorPt1
import Derived.Test.YtefinemhfgdpdaaGreatDoorPt2
import Derived.Test.YtefinemhfgdpdaaGreatDoorPt3
import Derived.WideLaws
import Derived.Lib.LaidTab
import Derived.Test.YtefinemhfgdpdaaGreatDoorSpA
--@auto
namespace Go.Proofs
open Go.Shelf
def Tryz.laysItoa_ren : Go.Shelf.Ren := ⟨fun | 171 => 91 | 243 => 123 | 246 => 138 | 283 => 159 | 284 => 160 | 285 => 161 | 286 => 162 | 129 => 149 | 317 => 181 | 318 => 182 | 319 => 183 | 320 => 184 | 337 => 189 | 338 => 190 | n => n, fun | 3 => 3 | 9 => 9 | 2 => 2 | 4 => 4 | 171 => 167 | 0 => 0 | 53 => 163 | 37 => 97 | 5 => 5 | 173 => 169 | 212 => 190 | 51 => 161 | 20 => 20 | 213 => 191 | 46 => 143 | 232 => 205 | 233 => 206 | n => n, fun | 17 => 0 | 18 => 4 | 19 => 5 | n => n⟩
theorem Tryz.laysItoa : Go.Proofs.LaysM.n171 Tryz.prog Tryz.laysItoa_ren := {
  mixed := by kernel_rfl
  f129 := Tryz.func149.trans (congrArg some (by kernel_rfl))
  f171 := Tryz.func91.trans (congrArg some (by kernel_rfl))
  f243 := Tryz.func123.trans (congrArg some (by kernel_rfl))
  f246 := Tryz.func138.trans (congrArg some (by kernel_rfl))
  f283 := Tryz.func159.trans (congrArg some (by kernel_rfl))
  f284 := Tryz.func160.trans (congrArg some (by kernel_rfl))
  f285 := Tryz.func161.trans (congrArg some (by kernel_rfl))
  f286 := Tryz.func162.trans (congrArg some (by kernel_rfl))
  f317 := Tryz.func181.trans (congrArg some (by kernel_rfl))
  f318 := Tryz.func182.trans (congrArg some (by kernel_rfl))
  f319 := Tryz.func183.trans (congrArg some (by kernel_rfl))
  f320 := Tryz.func184.trans (congrArg some (by kernel_rfl))
  f337 := Tryz.func189.trans (congrArg some (by kernel_rfl))
  f338 := Tryz.func190.trans (congrArg some (by kernel_rfl))
  t0 := Tryz.underlying0
  a0 := Tryz.isAgg0
  z0 := Tryz.sizeOf0
  v0 := Tryz.zeroValue0
  t2 := Tryz.underlying2
  a2 := Tryz.isAgg2
  z2 := Tryz.sizeOf2
  v2 := Tryz.zeroValue2
  t3 := Tryz.underlying3
  a3 := Tryz.isAgg3
  z3 := Tryz.sizeOf3
  v3 := Tryz.zeroValue3
  t4 := Tryz.underlying4
  a4 := Tryz.isAgg4
  z4 := Tryz.sizeOf4
  v4 := Tryz.zeroValue4
  t5 := Tryz.underlying5
  a5 := Tryz.isAgg5
  z5 := Tryz.sizeOf5
  v5 := Tryz.zeroValue5
  t9 := Tryz.underlying9
  a9 := Tryz.isAgg9
  z9 := Tryz.sizeOf9
  v9 := Tryz.zeroValue9
  t20 := Tryz.underlying20
  a20 := Tryz.isAgg20
  z20 := Tryz.sizeOf20
  v20 := Tryz.zeroValue20
  t37 := Tryz.underlying97
  a37 := Tryz.isAgg97
  z37 := Tryz.sizeOf97
  v37 := Tryz.zeroValue97
  t46 := Tryz.underlying143
  a46 := Tryz.isAgg143
  z46 := Tryz.sizeOf143
  v46 := Tryz.zeroValue143
  t51 := Tryz.underlying161
  a51 := Tryz.isAgg161
  z51 := Tryz.sizeOf161
  v51 := Tryz.zeroValue161
  t53 := Tryz.underlying163
  a53 := Tryz.isAgg163
  z53 := Tryz.sizeOf163
  v53 := Tryz.zeroValue163
  t171 := Tryz.underlying167
  a171 := Tryz.isAgg167
  z171 := Tryz.sizeOf167
  v171 := Tryz.zeroValue167
  t173 := Tryz.underlying169
  a173 := Tryz.isAgg169
  z173 := Tryz.sizeOf169
  v173 := Tryz.zeroValue169
  t212 := Tryz.underlying190
  a212 := Tryz.isAgg190
  z212 := Tryz.sizeOf190
  v212 := Tryz.zeroValue190
  t213 := Tryz.underlying191
  a213 := Tryz.isAgg191
  z213 := Tryz.sizeOf191
  t232 := Tryz.underlying205
  a232 := Tryz.isAgg205
  z232 := Tryz.sizeOf205
  v232 := Tryz.zeroValue205
  t233 := Tryz.underlying206
  a233 := Tryz.isAgg206
  z233 := Tryz.sizeOf206
  v233 := Tryz.zeroValue206
  g17 := by kernel_rfl
  g18 := by kernel_rfl
  g19 := by kernel_rfl
  i0 := by kernel_rfl
  i2 := by kernel_rfl
  i3 := by kernel_rfl
  i4 := by kernel_rfl
  i5 := by kernel_rfl
  i9 := by kernel_rfl
  i20 := by kernel_rfl
  i37 := by kernel_rfl
  i46 := by kernel_rfl
  i51 := by kernel_rfl
  i53 := by kernel_rfl
  i171 := by kernel_rfl
  i173 := by kernel_rfl
  i212 := by kernel_rfl
  i232 := by kernel_rfl
  i233 := by kernel_rfl
  m17 := by kernel_rfl
  m18 := by kernel_rfl
  m19 := by kernel_rfl }
def Tryz.laysAtoi_ren : Go.Shelf.Ren := ⟨fun | 172 => 128 | 244 => 151 | 245 => 152 | 247 => 170 | 279 => 171 | 280 => 172 | 281 => 173 | 282 => 174 | 287 => 186 | 316 => 187 | 171 => 91 | 205 => 188 | 321 => 191 | 322 => 192 | 243 => 123 | 246 => 138 | 283 => 159 | 284 => 160 | 285 => 161 | 286 => 162 | 129 => 149 | 317 => 181 | 318 => 182 | 319 => 183 | 320 => 184 | 337 => 189 | 338 => 190 | n => n, fun | 9 => 9 | 3 => 3 | 75 => 101 | 76 => 102 | 4 => 4 | 5 => 5 | 167 => 177 | 37 => 97 | 0 => 0 | 85 => 178 | 2 => 2 | 168 => 180 | 53 => 163 | 175 => 195 | 46 => 143 | 210 => 198 | 127 => 127 | 145 => 204 | 143 => 202 | 21 => 21 | 171 => 167 | 173 => 169 | 212 => 190 | 51 => 161 | 20 => 20 | 213 => 191 | 232 => 205 | 233 => 206 | 80 => 47 | n => n, fun | 15 => 2 | 16 => 3 | 17 => 0 | 18 => 4 | 19 => 5 | n => n⟩
theorem Tryz.laysAtoi : Go.Proofs.LaysC.n172 Tryz.prog Tryz.laysAtoi_ren := {
  mixed := by kernel_rfl
  f129 := Tryz.func149.trans (congrArg some (by kernel_rfl))
  f171 := Tryz.func91.trans (congrArg some (by kernel_rfl))
  f172 := Tryz.func128.trans (congrArg some (by kernel_rfl))
  f205 := Tryz.func188.trans (congrArg some (by kernel_rfl))
  f243 := Tryz.func123.trans (congrArg some (by kernel_rfl))
  f244 := Tryz.func151.trans (congrArg some (by kernel_rfl))
  f245 := Tryz.func152.trans (congrArg some (by kernel_rfl))
  f246 := Tryz.func138.trans (congrArg some (by kernel_rfl))
  f247 := Tryz.func170.trans (congrArg some (by kernel_rfl))
  f279 := Tryz.func171.trans (congrArg some (by kernel_rfl))
  f280 := Tryz.func172.trans (congrArg some (by kernel_rfl))
  f281 := Tryz.func173.trans (congrArg some (by kernel_rfl))
  f282 := Tryz.func174.trans (congrArg some (by kernel_rfl))
  f283 := Tryz.func159.trans (congrArg some (by kernel_rfl))
  f284 := Tryz.func160.trans (congrArg some (by kernel_rfl))
  f285 := Tryz.func161.trans (congrArg some (by kernel_rfl))
  f286 := Tryz.func162.trans (congrArg some (by kernel_rfl))
  f287 := Tryz.func186.trans (congrArg some (by kernel_rfl))
  f316 := Tryz.func187.trans (congrArg some (by kernel_rfl))
  f317 := Tryz.func181.trans (congrArg some (by kernel_rfl))
  f318 := Tryz.func182.trans (congrArg some (by kernel_rfl))
  f319 := Tryz.func183.trans (congrArg some (by kernel_rfl))
  f320 := Tryz.func184.trans (congrArg some (by kernel_rfl))
  f321 := Tryz.func191.trans (congrArg some (by kernel_rfl))
  f322 := Tryz.func192.trans (congrArg some (by kernel_rfl))
  f337 := Tryz.func189.trans (congrArg some (by kernel_rfl))
  f338 := Tryz.func190.trans (congrArg some (by kernel_rfl))
  t0 := Tryz.underlying0
  a0 := Tryz.isAgg0
  z0 := Tryz.sizeOf0
  v0 := Tryz.zeroValue0
  t2 := Tryz.underlying2
  a2 := Tryz.isAgg2
  z2 := Tryz.sizeOf2
  v2 := Tryz.zeroValue2
  t3 := Tryz.underlying3
  a3 := Tryz.isAgg3
  z3 := Tryz.sizeOf3
  v3 := Tryz.zeroValue3
  t4 := Tryz.underlying4
  a4 := Tryz.isAgg4
  z4 := Tryz.sizeOf4
  v4 := Tryz.zeroValue4
  t5 := Tryz.underlying5
  a5 := Tryz.isAgg5
  z5 := Tryz.sizeOf5
  v5 := Tryz.zeroValue5
  t9 := Tryz.underlying9
  a9 := Tryz.isAgg9
  z9 := Tryz.sizeOf9
  v9 := Tryz.zeroValue9
  t20 := Tryz.underlying20
  a20 := Tryz.isAgg20
  z20 := Tryz.sizeOf20
  v20 := Tryz.zeroValue20
  t21 := Tryz.underlying21
  a21 := Tryz.isAgg21
  z21 := Tryz.sizeOf21
  v21 := Tryz.zeroValue21
  t37 := Tryz.underlying97
  a37 := Tryz.isAgg97
  z37 := Tryz.sizeOf97
  v37 := Tryz.zeroValue97
  t46 := Tryz.underlying143
  a46 := Tryz.isAgg143
  z46 := Tryz.sizeOf143
  v46 := Tryz.zeroValue143
  t51 := Tryz.underlying161
  a51 := Tryz.isAgg161
  z51 := Tryz.sizeOf161
  v51 := Tryz.zeroValue161
  t53 := Tryz.underlying163
  a53 := Tryz.isAgg163
  z53 := Tryz.sizeOf163
  v53 := Tryz.zeroValue163
  t75 := Tryz.underlying101
  a75 := Tryz.isAgg101
  z75 := Tryz.sizeOf101
  v75 := Tryz.zeroValue101
  t76 := Tryz.underlying102
  a76 := Tryz.isAgg102
  z76 := Tryz.sizeOf102
  v76 := Tryz.zeroValue102
  t85 := Tryz.underlying178
  a85 := Tryz.isAgg178
  z85 := Tryz.sizeOf178
  v85 := Tryz.zeroValue178
  t127 := Tryz.underlying127
  a127 := Tryz.isAgg127
  z127 := Tryz.sizeOf127
  v127 := Tryz.zeroValue127
  t143 := Tryz.underlying202
  a143 := Tryz.isAgg202
  z143 := Tryz.sizeOf202
  v143 := Tryz.zeroValue202
  t145 := Tryz.underlying204
  a145 := Tryz.isAgg204
  z145 := Tryz.sizeOf204
  v145 := Tryz.zeroValue204
  t167 := Tryz.underlying177
  a167 := Tryz.isAgg177
  z167 := Tryz.sizeOf177
  v167 := Tryz.zeroValue177
  t168 := Tryz.underlying180
  a168 := Tryz.isAgg180
  z168 := Tryz.sizeOf180
  v168 := Tryz.zeroValue180
  t171 := Tryz.underlying167
  a171 := Tryz.isAgg167
  z171 := Tryz.sizeOf167
  v171 := Tryz.zeroValue167
  t173 := Tryz.underlying169
  a173 := Tryz.isAgg169
  z173 := Tryz.sizeOf169
  v173 := Tryz.zeroValue169
  t175 := Tryz.underlying195
  a175 := Tryz.isAgg195
  z175 := Tryz.sizeOf195
  v175 := Tryz.zeroValue195
  t210 := Tryz.underlying198
  a210 := Tryz.isAgg198
  z210 := Tryz.sizeOf198
  v210 := Tryz.zeroValue198
  t212 := Tryz.underlying190
  a212 := Tryz.isAgg190
  z212 := Tryz.sizeOf190
  v212 := Tryz.zeroValue190
  t213 := Tryz.underlying191
  a213 := Tryz.isAgg191
  z213 := Tryz.sizeOf191
  t232 := Tryz.underlying205
  a232 := Tryz.isAgg205
  z232 := Tryz.sizeOf205
  v232 := Tryz.zeroValue205
  t233 := Tryz.underlying206
  a233 := Tryz.isAgg206
  z233 := Tryz.sizeOf206
  v233 := Tryz.zeroValue206
  g15 := by kernel_rfl
  g16 := by kernel_rfl
  g17 := by kernel_rfl
  g18 := by kernel_rfl
  g19 := by kernel_rfl
  t80 := Tryz.underlying47
  a80 := Tryz.isAgg47
  z80 := Tryz.sizeOf47
  v80 := Tryz.zeroValue47
  i0 := by kernel_rfl
  i2 := by kernel_rfl
  i3 := by kernel_rfl
  i4 := by kernel_rfl
  i5 := by kernel_rfl
  i9 := by kernel_rfl
  i20 := by kernel_rfl
  i21 := by kernel_rfl
  i37 := by kernel_rfl
  i46 := by kernel_rfl
  i51 := by kernel_rfl
  i53 := by kernel_rfl
  i75 := by kernel_rfl
  i76 := by kernel_rfl
  i80 := by kernel_rfl
  i85 := by kernel_rfl
  i127 := by kernel_rfl
  i143 := by kernel_rfl
  i145 := by kernel_rfl
  i167 := by kernel_rfl
  i168 := by kernel_rfl
  i171 := by kernel_rfl
  i173 := by kernel_rfl
  i175 := by kernel_rfl
  i210 := by kernel_rfl
  i212 := by kernel_rfl
  i232 := by kernel_rfl
  i233 := by kernel_rfl
  m15 := by kernel_rfl
  m16 := by kernel_rfl
  m17 := by kernel_rfl
  m18 := by kernel_rfl
  m19 := by kernel_rfl
  c0 := by kernel_rfl
  c2 := by kernel_rfl
  c3 := by kernel_rfl
  c4 := by kernel_rfl
  c5 := by kernel_rfl
  c9 := by kernel_rfl
  c20 := by kernel_rfl
  c21 := by kernel_rfl
  c37 := by kernel_rfl
  c46 := by kernel_rfl
  c51 := by kernel_rfl
  c53 := by kernel_rfl
  c75 := by kernel_rfl
  c76 := by kernel_rfl
  c80 := by kernel_rfl
  c85 := by kernel_rfl
  c127 := by kernel_rfl
  c143 := by kernel_rfl
  c145 := by kernel_rfl
  c167 := by kernel_rfl
  c168 := by kernel_rfl
  c171 := by kernel_rfl
  c173 := by kernel_rfl
  c175 := by kernel_rfl
  c210 := by kernel_rfl
  c212 := by kernel_rfl
  c213 := by kernel_rfl
  c232 := by kernel_rfl
  c233 := by kernel_rfl }
def Tryz.laysString_ren : Go.Shelf.Ren := ⟨fun | 169 => 76 | n => n, fun | 70 => 96 | 9 => 9 | 0 => 0 | 72 => 99 | 37 => 97 | 127 => 127 | 3 => 3 | 5 => 5 | n => n, fun | n => n⟩
theorem Tryz.laysString : Go.Proofs.Lays.n169 Tryz.prog Tryz.laysString_ren := {
  mixed := by kernel_rfl
  f169 := Tryz.func76.trans (congrArg some (by kernel_rfl))
  t0 := Tryz.underlying0
  a0 := Tryz.isAgg0
  z0 := Tryz.sizeOf0
  v0 := Tryz.zeroValue0
  t3 := Tryz.underlying3
  a3 := Tryz.isAgg3
  z3 := Tryz.sizeOf3
  v3 := Tryz.zeroValue3
  t9 := Tryz.underlying9
  a9 := Tryz.isAgg9
  z9 := Tryz.sizeOf9
  v9 := Tryz.zeroValue9
  t37 := Tryz.underlying97
  a37 := Tryz.isAgg97
  z37 := Tryz.sizeOf97
  v37 := Tryz.zeroValue97
  t70 := Tryz.underlying96
  a70 := Tryz.isAgg96
  z70 := Tryz.sizeOf96
  v70 := Tryz.zeroValue96
  t72 := Tryz.underlying99
  a72 := Tryz.isAgg99
  z72 := Tryz.sizeOf99
  v72 := Tryz.zeroValue99
  t127 := Tryz.underlying127
  a127 := Tryz.isAgg127
  z127 := Tryz.sizeOf127
  v127 := Tryz.zeroValue127 }
def Tryz.laysIndex_ren : Go.Shelf.Ren := ⟨fun | 137 => 127 | 217 => 150 | 266 => 169 | n => n, fun | 9 => 9 | 5 => 5 | 3 => 3 | n => n, fun | n => n⟩
theorem Tryz.laysIndex : Go.Proofs.Lays.n137 Tryz.prog Tryz.laysIndex_ren := {
  mixed := by kernel_rfl
  f137 := Tryz.func127.trans (congrArg some (by kernel_rfl))
  f217 := Tryz.func150.trans (congrArg some (by kernel_rfl))
  f266 := Tryz.func169.trans (congrArg some (by kernel_rfl))
  t3 := Tryz.underlying3
  a3 := Tryz.isAgg3
  z3 := Tryz.sizeOf3
  v3 := Tryz.zeroValue3
  t5 := Tryz.underlying5
  a5 := Tryz.isAgg5
  z5 := Tryz.sizeOf5
  v5 := Tryz.zeroValue5
  t9 := Tryz.underlying9
  a9 := Tryz.isAgg9
  z9 := Tryz.sizeOf9
  v9 := Tryz.zeroValue9 }
def Tryz.laysCut_ren : Go.Shelf.Ren := ⟨fun | 103 => 131 | 210 => 153 | 206 => 175 | n => n, fun | 9 => 9 | 4 => 4 | 24 => 146 | 3 => 3 | n => n, fun | n => n⟩
theorem Tryz.laysCut : Go.Proofs.Lays.n103 Tryz.prog Tryz.laysCut_ren := {
  mixed := by kernel_rfl
  f103 := Tryz.func131.trans (congrArg some (by kernel_rfl))
  f206 := Tryz.func175.trans (congrArg some (by kernel_rfl))
  f210 := Tryz.func153.trans (congrArg some (by kernel_rfl))
  t3 := Tryz.underlying3
  a3 := Tryz.isAgg3
  z3 := Tryz.sizeOf3
  v3 := Tryz.zeroValue3
  t4 := Tryz.underlying4
  a4 := Tryz.isAgg4
  z4 := Tryz.sizeOf4
  v4 := Tryz.zeroValue4
  t9 := Tryz.underlying9
  a9 := Tryz.isAgg9
  z9 := Tryz.sizeOf9
  v9 := Tryz.zeroValue9
  t24 := Tryz.underlying146
  a24 := Tryz.isAgg146
  z24 := Tryz.sizeOf146
  v24 := Tryz.zeroValue146 }
end Go.Proofs
/-
  strconv.Itoa, strconv.Atoi, strings.IndexByte, strings.CutPrefix, strings.Builder as calls over what one owns. No condition.
-/
--@auto
namespace Go.Proofs.YtefinemhfgdpdaaGreatDoor
open Go.RowKit Go.Shelf
set_option maxRecDepth 100000

/-! ### What the base has to hold -/
/-- A package-level variable: its cells. -/
def varD (g : Nat) (cs : List Value) : Dat := ⟨fun B => B.keep g ∧ ∃ E fz, B.W.heap[g]? = some (.cells cs.toArray E fz), fun {B B'} hl ⟨h1, E, fz, h2⟩ => by
  obtain ⟨h3, h4⟩ := hl g h1 (Array.getElem?_eq_some_iff.1 h2).1
  exact ⟨h3, E, fz, h4.trans h2⟩⟩
theorem gPow_eq : Tryz.prog.globalNamed "internal/strconv.uint64pow10" = some G_internal_strconv_uint64pow10 := by kernel_rfl
def powD : Dat := varD G_internal_strconv_uint64pow10 (Lib.pow10Tab.map (Value.int .u64))
def wireD : Dat := powD.and ((Dat.ex fun e : TypeId × Value => varD G_strconv_ErrSyntax [.iface e.1 e.2]).and (Dat.ex fun e : TypeId × Value => varD G_strconv_ErrRange [.iface e.1 e.2]))

/-! ### The shelf's contracts, at this program's numbers -/
set_option maxRecDepth 100000 in
theorem sItoa {n : Int} (h0 : -9223372036854775808 ≤ n) (h1 : n ≤ 9223372036854775807) (w : World) (htab : Lib.TabIs Tryz.prog w "internal/strconv.uint64pow10" .u64 Lib.pow10Tab) :
    Calls Tryz.prog F_strconv_Itoa #[.int .i64 n] w fun e w' => e = .returned (.string ⟨(Lib.itoa n).toArray⟩) ∧ ∃ k os, w' = Go.Sort.grow (w.drewN k) os := Any.strconv_Itoa Tryz.laysItoa n h0 h1 w htab
set_option maxRecDepth 100000 in
theorem sAtoiOk (s : ByteArray) (hmax : s.size ≤ 9223372036854775806) (v : Int) (h : Lib.atoiAll s.data.toList = .ok v) (w : World) :
    Calls Tryz.prog F_strconv_Atoi #[.string s] w fun e w' => e = .returned (.tuple #[.int .i64 v, .nilIface]) ∧ (w' = w ∨ ∃ t, w' = Lib.bytesWorld w T_uint8 t) := Any.strconv_Atoi_ok Tryz.laysAtoi s hmax v h w
set_option maxRecDepth 100000 in
theorem sAtoiSyn (s : ByteArray) (hlim : s.size ≤ 281474976710656) (h0 : ∀ v, Lib.atoiAll s.data.toList ≠ .ok v) (h1 : Lib.atoiAll s.data.toList ≠ .range) (ev : Value) (w : World) (hv : w.cell? ⟨G_strconv_ErrSyntax, 0, none⟩ = some ev) (hev : ev = .nilIface ∨ ∃ te pe, ev = .iface te pe) :
    Calls Tryz.prog F_strconv_Atoi #[.string s] w fun e w' => ∃ n t p, e = .returned (.tuple #[.int .i64 n, .iface t p]) ∧ Below w.heap.size w w' := by
  have h := Any.strconv_Atoi_syntax Tryz.laysAtoi s hlim (by rcases e : Lib.atoiAll s.data.toList with v | _ | _ <;> first | rfl | exact absurd e h1 | exact absurd e (h0 _)) ev w hv hev
  refine Calls.mono (f := F_strconv_Atoi) h ?_
  rintro e w' ⟨N, rfl, _, _, hb⟩
  exact ⟨_, _, _, rfl, hb⟩
set_option maxRecDepth 100000 in
theorem sAtoiRng (s : ByteArray) (hlim : s.size ≤ 281474976710656) (h : Lib.atoiAll s.data.toList = .range) (ev : Value) (w : World) (hv : w.cell? ⟨G_strconv_ErrRange, 0, none⟩ = some ev) (hev : ev = .nilIface ∨ ∃ te pe, ev = .iface te pe) :
    Calls Tryz.prog F_strconv_Atoi #[.string s] w fun e w' => ∃ n t p, e = .returned (.tuple #[.int .i64 n, .iface t p]) ∧ Below w.heap.size w w' := by
  have h := Any.strconv_Atoi_range Tryz.laysAtoi s hlim h ev w hv hev
  refine Calls.mono (f := F_strconv_Atoi) h ?_
  rintro e w' ⟨N, rfl, _, _, hb⟩
  exact ⟨_, _, _, rfl, hb⟩
set_option maxRecDepth 100000 in
theorem sIndex (s : ByteArray) (c : Int) (w : World) :
    Calls Tryz.prog F_strings_IndexByte #[.string s, .int .u8 c] w fun e w' => e = .returned (.int .i64 (Lib.indexByte s.data.toList c.toNat.toUInt8)) ∧ w' = w := Any.strings_IndexByte Tryz.laysIndex s c w
set_option maxRecDepth 100000 in
theorem sCut (s p : ByteArray) (w : World) :
    Calls Tryz.prog F_strings_CutPrefix #[.string s, .string p] w fun e w' => e = .returned (.tuple #[.string ⟨(Lib.trimPrefix s.data.toList p.data.toList).toArray⟩, .bool (Lib.hasPrefix s.data.toList p.data.toList)]) ∧ w' = w := Any.strings_CutPrefix Tryz.laysCut s p w

section
variable {B : Base} {w w' : World} {σ : List Dat}
/-- What was there stays; there may be more. -/
theorem Rel.below (h : Rel B w σ) (hb : Below w.heap.size w w') : Rel B w' σ := by
  obtain ⟨c, h⟩ := h
  refine ⟨paint c w.heap.size 0, hb.os.trans h.os, hb.tape.trans h.tape, hb.output.trans h.output, Nat.le_trans h.size hb.size, fun k hk hs => ?_, fun k hk hs => ?_, fun j d hj => ?_⟩
  · have := Nat.lt_of_lt_of_le hs h.size
    rw [paint, if_pos this]; exact h.keepc k hk hs
  · have := Nat.lt_of_lt_of_le hs h.size
    rw [hb.block k this]; exact h.same k hk hs
  · refine d.mono (fun k hk hs => ?_) (h.own j d hj)
    have hk : c k = j + 1 := hk
    have hs : k < w.heap.size := hs
    exact ⟨by show paint c w.heap.size 0 k = j + 1; rw [paint, if_pos hs]; exact hk, hb.block k hs⟩
theorem below_grow (w : World) (k : Nat) (os : Array Obj) : Below w.heap.size w (Go.Sort.grow (w.drewN k) os) := by
  refine ⟨rfl, rfl, rfl, ?_, fun j hj => ?_⟩
  · rw [Go.Sort.size_grow]
    exact Nat.le_add_right _ _
  · exact Go.Sort.heap_grow_old _ _ hj
theorem varD.cell {g : Nat} {cs : List Value} {v : Value} (h : (varD g cs).here w) (hv : cs[0]? = some v) : w.cell? ⟨g, 0, none⟩ = some v := by
  obtain ⟨_, E, fz, h2⟩ := h
  have h2 : w.heap[g]? = some (.cells cs.toArray E fz) := h2
  simp only [World.cell?, h2]
  simpa using hv
theorem powD.pow (h : powD.here w) : Lib.TabIs Tryz.prog w "internal/strconv.uint64pow10" .u64 Lib.pow10Tab := by
  obtain ⟨_, E, fz, h2⟩ := h
  have h2 : w.heap[G_internal_strconv_uint64pow10]? = some (.cells (Lib.pow10Tab.map (Value.int .u64)).toArray E fz) := h2
  unfold Lib.TabIs World.var?
  rw [gPow_eq]
  simp only [Option.bind_some, h2]
theorem wireD.syn (h : wireD.here w) : ∃ t p, w.cell? ⟨G_strconv_ErrSyntax, 0, none⟩ = some (.iface t p) := by
  obtain ⟨_, ⟨e, h2⟩, _⟩ := h
  exact ⟨e.1, e.2, varD.cell h2 rfl⟩
theorem wireD.rng (h : wireD.here w) : ∃ t p, w.cell? ⟨G_strconv_ErrRange, 0, none⟩ = some (.iface t p) := by
  obtain ⟨_, _, ⟨e, h2⟩⟩ := h
  exact ⟨e.1, e.2, varD.cell h2 rfl⟩

/-! ### Numerals -/
instance wireD.coe {B : Base} : Coe (wireD B) (powD B) := ⟨fun h => h.1⟩
theorem itoa_g (hB : powD B) {n : Int} (hn : inI n) : Gives Tryz.prog B (sCall F_strconv_Itoa #[.int .i64 n]) (.string (ofL (Lib.itoa n))) := by
  refine Gives.intro fun B' w K base h k => ?_
  have hw := h.hereB (base hB)
  refine strconv_Itoa.up (Calls.mono (sItoa hn.1 hn.2 w (powD.pow hw)) ?_)
  rintro e w' ⟨rfl, m, os, rfl⟩
  exact k _ _ (h.below (below_grow w m os))
/-- What Atoi answers: the number and no error, or an error. -/
def AtoiV (s : Bs) (v : Value) : Prop := (∃ n, Lib.atoiAll s = .ok n ∧ v = .tuple #[.int .i64 n, .nilIface]) ∨ ((∀ n, Lib.atoiAll s ≠ .ok n) ∧ ∃ n t p, v = .tuple #[.int .i64 n, .iface t p])
theorem atoi_r {K : Value → World → Prop} (hB : wireD B) (h : Rel B w σ) {s : ByteArray} (hs : s.size ≤ 281474976710656) (k : ∀ v w', AtoiV (bl s) v → Rel B w' σ → K v w') : upK Tryz.prog (sCall F_strconv_Atoi #[.string s]) w K := by
  have hw := h.hereB hB
  rcases ha : Lib.atoiAll s.data.toList with n | _ | _
  · skip
    refine strconv_Atoi.up (Calls.mono (sAtoiOk s (by omega) n ha w) ?_)
    rintro e w' ⟨rfl, hw'⟩
    refine k _ _ (.inl ⟨n, ha, rfl⟩) ?_
    rcases hw' with rfl | ⟨t, rfl⟩
    · exact h
    · exact h.below (Lib.bytesWorld_below _ _ _)
  · skip
    obtain ⟨t, p, hc⟩ := wireD.syn hw
    refine strconv_Atoi.up (Calls.mono (sAtoiSyn s hs (fun v hv => by rw [ha] at hv; cases hv) (fun hv => by rw [ha] at hv; cases hv) _ w hc (.inr ⟨t, p, rfl⟩)) ?_)
    rintro e w' ⟨n, t, p, rfl, hb⟩
    exact k _ _ (.inr ⟨fun n hn => (by rw [show Lib.atoiAll (bl s) = _ from ha] at hn; cases hn), _, _, _, rfl⟩) (h.below hb)
  · skip
    obtain ⟨t, p, hc⟩ := wireD.rng hw
    refine strconv_Atoi.up (Calls.mono (sAtoiRng s hs ha _ w hc (.inr ⟨t, p, rfl⟩)) ?_)
    rintro e w' ⟨n, t, p, rfl, hb⟩
    exact k _ _ (.inr ⟨fun n hn => (by rw [show Lib.atoiAll (bl s) = _ from ha] at hn; cases hn), _, _, _, rfl⟩) (h.below hb)
theorem index_g (s : ByteArray) (c : Int) : Gives Tryz.prog B (sCall F_strings_IndexByte #[.string s, .int .u8 c]) (.int .i64 (Lib.indexByte (bl s) c.toNat.toUInt8)) := by
  refine Gives.intro fun B' w K base h k => ?_
  refine strings_IndexByte.up (Calls.mono (sIndex s c w) ?_)
  rintro e w' ⟨rfl, rfl⟩
  exact k _ _ h
theorem cut_g (s p : ByteArray) : Gives Tryz.prog B (sCall F_strings_CutPrefix #[.string s, .string p]) (.tuple #[.string (ofL (Lib.trimPrefix (bl s) (bl p))), .bool (Lib.hasPrefix (bl s) (bl p))]) := by
  refine Gives.intro fun B' w K base h k => ?_
  refine strings_CutPrefix.up (Calls.mono (sCut s p w) ?_)
  rintro e w' ⟨rfl, rfl⟩
  exact k _ _ h
theorem index_first {e : UInt8} : ∀ {a : Bs} (r : Bs), e ∉ a → Lib.indexByte (a ++ e :: r) e = a.length
  | [], r, _ => by simp [Lib.indexByte]
  | x :: a, r, h => by
    have hx : ¬ x = e := fun hh => h (by rw [hh]; exact List.mem_cons_self)
    have ih := index_first (a := a) r fun hh => h (List.mem_cons_of_mem _ hh)
    rw [List.cons_append, Lib.indexByte, ih]
    simp only [beq_iff_eq, hx, if_false]
    rw [if_neg (by omega), List.length_cons]
    omega
theorem index_none {e : UInt8} : ∀ {a : Bs}, e ∉ a → Lib.indexByte a e = -1
  | [], _ => rfl
  | x :: a, h => by
    have hx : ¬ x = e := fun hh => h (by rw [hh]; exact List.mem_cons_self)
    have ih := index_none (a := a) fun hh => h (List.mem_cons_of_mem _ hh)
    rw [Lib.indexByte, ih]
    simp [hx]
theorem first_split {e : UInt8} : ∀ {l : Bs}, e ∈ l → ∃ a r, l = a ++ e :: r ∧ e ∉ a
  | x :: l, h => by
    by_cases hx : x = e
    · subst hx; exact ⟨[], l, rfl, by simp⟩
    · rcases List.mem_cons.1 h with h | h
      · exact absurd h.symm hx
      · obtain ⟨a, r, rfl, ha⟩ := first_split h
        refine ⟨x :: a, r, rfl, fun hh => ?_⟩
        rcases List.mem_cons.1 hh with hh | hh
        · exact hx hh.symm
        · exact ha hh

/-! ### Interface values and nil -/
theorem neq_iface_nil {T u : TypeId} {x : Value} {xo yo : Operand} {Kp : Value → Prop} (hT : Tryz.prog.underlying T = some (.interface (Tryz.prog.methodsAt T))) : pureK Tryz.prog (sBin .neq T xo yo (.iface u x) .nilIface) Kp = Kp (.bool true) :=
  pureK_eq fun w => sBin_eq rfl (run_neq_held_nil w T u x hT)
theorem neq_nil_nil {T : TypeId} {xo : Operand} {v : Value} {Kp : Value → Prop} (hT : Tryz.prog.underlying T = some (.interface (Tryz.prog.methodsAt T))) : pureK Tryz.prog (sBin .neq T xo (.const v) .nilIface .nilIface) Kp = Kp (.bool false) :=
  pureK_eq fun w => sBin_eq (by unfold eqGuard; cases xo <;> rfl) (run_neq_nil_nil w T hT)

/-! ### strings.Builder -/
theorem zero_run {P : Program} {T : TypeId} {v : Value} (h : (P.info? T).bind (·.zero) = some v) (w : World) : (zeroValue T).run P w = .ok v w := by
  cases hi : P.info? T with
  | none => rw [hi] at h; cases h
  | some i =>
    rw [hi] at h
    have h : i.zero = some v := h
    simp [zeroValue, typeInfo, hi, h]
theorem exS : Builder.Extra Tryz.prog Tryz.laysString_ren where
  sizeBuilder := by kernel_rfl
  liesBuilder := by kernel_rfl
  t5 := (by kernel_rfl : Tryz.prog.underlying T_uint8 = some (.int .u8))
  a5 := fun w => isAgg_sc (by kernel_rfl : scB Tryz.prog T_uint8 = true)
  z5 := fun w => size_sc (by kernel_rfl : scB Tryz.prog T_uint8 = true)
  v5 := fun w => zero_run (by kernel_rfl : (Tryz.prog.info? T_uint8).bind (·.zero) = some (.int .u8 0)) w
  infoByte := by kernel_rfl
  cellsByte := by kernel_rfl
  sizeByte := by kernel_rfl
  neB5 := by decide
/-- A builder at b that holds the bytes l; it and its buffer lie from lo on. -/
def bldD (lo b : Nat) (l : Bs) : Dat := ⟨fun B => B.keep b ∧ lo ≤ b ∧ ∃ p v, (p = .pointer none ∨ p = .pointer (some ⟨b, 0, none⟩)) ∧ B.W.heap[b]? = some (.cells #[p, v] T_strings_Builder (0, 0)) ∧
    ((v = .slice none 0 0 ∧ l = []) ∨ ∃ g cap cur fz, v = .slice (some ⟨g, 0, none⟩) l.length cap ∧ lo ≤ g ∧ g ≠ b ∧ B.keep g ∧ B.W.heap[g]? = some (.cells cur T_uint8 fz) ∧ fz.2 ≤ l.length ∧ l.length ≤ cap ∧ cap ≤ maxLen ∧ cur.size = cap ∧ cur.toList.take l.length = Lib.byteCells l),
  fun {B B'} hl ⟨h1, h2, p, v, h3, h4, h5⟩ => by
    obtain ⟨h6, h7⟩ := hl b h1 (Array.getElem?_eq_some_iff.1 h4).1
    refine ⟨h6, h2, p, v, h3, h7.trans h4, ?_⟩
    rcases h5 with h5 | ⟨g, cap, cur, fz, e1, e2, e3, e4, e5, e6⟩
    · exact .inl h5
    · obtain ⟨h8, h9⟩ := hl g e4 (Array.getElem?_eq_some_iff.1 e5).1
      exact .inr ⟨g, cap, cur, fz, e1, e2, e3, h8, h9.trans e5, e6⟩⟩
theorem byteCells_len (l : Bs) : (Lib.byteCells l).length = l.length := Lib.byteCells_length l
theorem bldD.is {lo b : Nat} {l : Bs} (h : (bldD lo b l).here w) : Lib.IsBuilderF T_strings_Builder T_uint8 lo b (Lib.byteCells l) w := by
  obtain ⟨_, h2, p, v, h3, h4, h5⟩ := h
  have h4 : w.heap[b]? = some (.cells #[p, v] T_strings_Builder (0, 0)) := h4
  have key : Lib.BuilderAtF T_strings_Builder T_uint8 lo b p (Lib.byteCells l) w := by
    refine ⟨h2, v, h4, ⟨by rw [Nat.mul_one], ?_⟩, ?_⟩
    · rw [byteCells_len]
      rcases h5 with ⟨e1, e2⟩ | ⟨g, cap, cur, fz, e1, e2, e3, e4, e5, e6, e7, e8, e9, e10⟩
      · exact .inl ⟨e1, by rw [e2]; rfl⟩
      · exact .inr ⟨g, cap, cur, fz, e1, e2, e5, by rw [Nat.mul_one]; exact e6, e7, e8, by rw [Nat.mul_one]; exact e9, by rw [Nat.mul_one]; exact e10⟩
    · rcases h5 with ⟨e1, e2⟩ | ⟨g, cap, cur, fz, e1, e2, e3, e4, e5, e6, e7, e8, e9, e10⟩
      · rw [e1]; simp [Value.ownBlock]
      · rw [e1]; simp [Value.ownBlock, e3]
  rcases h3 with rfl | rfl
  · exact .inl key
  · exact .inr key
/-- Back from the shelf's words: all that lies from lo on is the builder's. -/
theorem bldD.of {lo b : Nat} {l : Bs} (h : Lib.IsBuilderF T_strings_Builder T_uint8 lo b (Lib.byteCells l) w) (hs : lo ≤ w.heap.size) : (bldD lo b l) ⟨w, fun k => (if k < lo then 0 else 1) = 1⟩ := by
  have key : ∀ p, (p = .pointer none ∨ p = .pointer (some ⟨b, 0, none⟩)) → Lib.BuilderAtF T_strings_Builder T_uint8 lo b p (Lib.byteCells l) w → (bldD lo b l) ⟨w, fun k => (if k < lo then 0 else 1) = 1⟩ := by
    rintro p hp ⟨h1, v, h2, ⟨_, h3⟩, h4⟩
    have kp : ∀ g, lo ≤ g → (if g < lo then (0 : Nat) else 1) = 1 := fun g hg => if_neg (by omega)
    refine ⟨kp b h1, h1, p, v, hp, h2, ?_⟩
    rw [byteCells_len] at h3
    rcases h3 with ⟨e1, e2⟩ | ⟨g, cap, cur, fz, e1, e2, e3, e4, e5, e6, e7, e8⟩
    · exact .inl ⟨e1, List.eq_nil_of_length_eq_zero e2⟩
    · refine .inr ⟨g, cap, cur, fz, e1, e2, fun hh => h4 ?_, kp g e2, e3, by omega, e5, e6, by omega, by rw [Nat.mul_one] at e8; exact e8⟩
      rw [e1, hh]; rfl
  rcases h with h | h
  · exact key _ (.inl rfl) h
  · exact key _ (.inr rfl) h
theorem Rel.bldStep {lo b : Nat} {l l' : Bs} (h : Rel B w [bldD lo b l]) (hlo : B.W.heap.size ≤ lo) (hs : lo ≤ w.heap.size) (hb : Below lo w w') (hn : Lib.IsBuilderF T_strings_Builder T_uint8 lo b (Lib.byteCells l') w') : Rel B w' [bldD lo b l'] := by
  obtain ⟨c, h⟩ := h
  refine ⟨fun k => if k < lo then 0 else 1, hb.os.trans h.os, hb.tape.trans h.tape, hb.output.trans h.output, Nat.le_trans h.size hb.size, fun k hk hs => if_pos (by omega), fun k hk hs => ?_, fun j d hj => ?_⟩
  · rw [hb.block k (by omega)]; exact h.same k hk hs
  · cases j with
    | zero =>
      cases hj
      exact bldD.of hn (Nat.le_trans hs hb.size)
    | succ j => simp at hj
theorem bytes_str (s : ByteArray) : Lib.strCells s = Lib.byteCells (bl s) := rfl
theorem Rel.bldLo {lo b : Nat} {l : Bs} (h : Rel B w [bldD lo b l]) : lo ≤ w.heap.size := by
  obtain ⟨_, h2, p, v, _, h4, _⟩ := h.here (i := 0) rfl
  have h4 : w.heap[b]? = some (.cells #[p, v] T_strings_Builder (0, 0)) := h4
  have := (Array.getElem?_eq_some_iff.1 h4).1
  omega
theorem eql_pnil_pnil {T : TypeId} {xo yo : Operand} {Kp : Value → Prop} (hT : Tryz.prog.underlying T = some (.pointer (Tryz.prog.pointee T))) : pureK Tryz.prog (sBin .eql T xo yo (.pointer none) (.pointer none)) Kp = Kp (.bool true) :=
  pureK_eq fun w => sBin_eq rfl (run_eql_pointer_nil w T none hT)
theorem neq_pnil_pnil {T : TypeId} {xo yo : Operand} {Kp : Value → Prop} (hT : Tryz.prog.underlying T = some (.pointer (Tryz.prog.pointee T))) : pureK Tryz.prog (sBin .neq T xo yo (.pointer none) (.pointer none)) Kp = Kp (.bool false) :=
  pureK_eq fun w => sBin_eq rfl (run_neq_pointer_nil w T none hT)
theorem noEscape_up {v : Value} {K : Value → World → Prop} (h : K v w) : upK Tryz.prog (sCall F_internal_abi_NoEscape #[v]) w K := by
  refine upK_of (v := v) (w' := w) ?_ h
  show (callFunc F_internal_abi_NoEscape #[v]).run Tryz.prog w = _
  rw [run_callFunc_extern (fn := fn_internal_abi_NoEscape) (by kernel_rfl) (by kernel_rfl) (by kernel_rfl) (by kernel_rfl) (e := Extern.AbiNoEscape.same) (by kernel_rfl)]
  rfl
theorem builder_info : ∃ j, Tryz.prog.info? T_strings_Builder = some j ∧ j.size = 2 := by
  have : (Tryz.prog.info? T_strings_Builder).map (·.size) = some 2 := by kernel_rfl
  obtain ⟨j, h1, h2⟩ := Option.map_eq_some_iff.1 this
  exact ⟨j, h1, h2⟩
theorem bCheck {lo b : Nat} {bs : List Value} {K : Value → World → Prop} (h : Lib.IsBuilderF T_strings_Builder T_uint8 lo b bs w) (k : ∀ w1, Lib.BuilderAtF T_strings_Builder T_uint8 lo b (.pointer (some ⟨b, 0, none⟩)) bs w1 → Below lo w w1 → K (.tuple #[]) w1) :
    upK Tryz.prog (sCall F_strings_Builder_copyCheck #[.pointer (some ⟨b, 0, none⟩)]) w K := by
  obtain ⟨j, hj, hjs⟩ := builder_info
  have hpt : Tryz.prog.underlying T_p_strings_Builder = some (.pointer T_strings_Builder) := by kernel_rfl
  have hup : Tryz.prog.underlying T_unsafe_Pointer = some .unsafePointer := by kernel_rfl
  refine strings_Builder_copyCheck.up (strings_Builder_copyCheck.call ?_)
  unfold strings_Builder_copyCheck.pt
  rcases h with h | h
  · simp -zeta only [nil_ptr, field_addr f_strings_Builder_0, Nat.add_zero, ld_sc sc_p_strings_Builder h.cell0, eql_pnil_pnil U_p_strings_Builder, ifB_true]
    refine upK_of (vN_run (Lib.run_to_unsafe (w := w) ⟨b, 0, none⟩ hpt hup hj (by rw [hjs]; decide) h.shape (Nat.zero_lt_succ 1))) ?_
    refine noEscape_up ?_
    refine upK_of (vN_run (Lib.run_from_unsafe (w := w) ⟨b, 0, none⟩ hup hpt hj h.shape (by kernel_rfl))) ?_
    obtain ⟨h1, v, h2, h3, h4⟩ := h
    refine st_sc (c := fun _ => 0) (t := 0) sc_p_strings_Builder (cs := #[.pointer none, v]) ⟨rfl, h2⟩ (by show 0 < 2; omega) rfl fun _ _ => ?_
    exact k _ (Lib.BuilderAtF.used ⟨h1, v, h2, h3, h4⟩ _) ((Below.refl lo w).setCell (p := ⟨b, 0, none⟩) h1 _)
  · have hne : ∀ {Kp : Value → Prop} {xo yo : Operand}, pureK Tryz.prog (sBin .neq T_p_strings_Builder xo yo (.pointer (some ⟨b, 0, none⟩)) (.pointer (some ⟨b, 0, none⟩))) Kp = Kp (.bool false) := fun {Kp xo yo} => pureK_eq fun w => sBin_eq rfl (Lib.run_neq_ptr_same w ⟨b, 0, none⟩ hpt hj)
    simp -zeta only [nil_ptr, field_addr f_strings_Builder_0, Nat.add_zero, ld_sc sc_p_strings_Builder h.cell0, bin_eql_ptr_nil U_p_strings_Builder, ifB_false, hne]
    exact k _ h (Below.refl lo w)
theorem bWrite {lo b : Nat} {bs : List Value} {s : ByteArray} {K : Value → World → Prop} (h : Lib.IsBuilderF T_strings_Builder T_uint8 lo b bs w) (hlen : bs.length + s.size ≤ 140737488355328) (hlo : lo ≤ w.heap.size)
    (k : ∀ v w', Lib.BuilderAtF T_strings_Builder T_uint8 lo b (.pointer (some ⟨b, 0, none⟩)) (bs ++ Lib.strCells s) w' → Below lo w w' → K v w') : upK Tryz.prog (sCall F_strings_Builder_WriteString #[.pointer (some ⟨b, 0, none⟩), .string s]) w K := by
  obtain ⟨i0, hi, hz0, hz1, hz2⟩ := info_parts (show (Tryz.prog.info? T_uint8).map (fun i => (i.zero, i.size, i.bytes)) = some (some (.int .u8 0), 1, 1) by kernel_rfl)
  refine strings_Builder_WriteString.up (strings_Builder_WriteString.call ?_)
  unfold strings_Builder_WriteString.pt
  refine bCheck h fun w1 h1 hb1 => ?_
  obtain ⟨hB, v, hbk, hown, hne⟩ := h1
  have c1 : w1.cell? ⟨b, 1, none⟩ = some v := by rw [Lib.cell_of_heap hbk]; rfl
  simp -zeta only [nil_ptr, field_addr f_strings_Builder_1, Nat.zero_add, ld_sc sc_s_uint8 c1]
  have hlt : b < w1.heap.size := (Array.getElem?_eq_some_iff.1 hbk).1
  obtain ⟨v', w2, hr, hown', hgrow, _⟩ := Lib.run_append_own_stringF (P := Tryz.prog) w1 lo T_s_uint8 T_string T_s_uint8 T_uint8 i0 U_s_uint8 U_string hi hz0 hz1 hz2 v bs.length bs hown s (by unfold maxLen; omega) (by omega) (by have := hb1.size; omega)
  refine upK_of (vN_run hr) ?_
  have hb2 : w2.heap[b]? = some (.cells #[.pointer (some ⟨b, 0, none⟩), v] T_strings_Builder (0, 0)) := by
    rw [hgrow.block b hlt (fun e => hne e.symm)]
    exact hbk
  have h1c : v'.oneCell' = true := by
    rcases hown'.2 with ⟨hv, _⟩ | ⟨g, cap, cur, fz, hv, _⟩ <;> rw [hv] <;> rfl
  refine st_sc (c := fun _ => 0) (t := 0) sc_s_uint8 (cs := #[.pointer (some ⟨b, 0, none⟩), v]) ⟨rfl, hb2⟩ (by show 1 < 2; omega) h1c fun _ _ => ?_
  simp -zeta only [len_string U_string]
  refine k _ _ (Lib.BuilderAtF.put (T := T_strings_Builder) (e := T_uint8) hB hb2 (bs' := bs ++ Lib.strCells s) (by simpa [Lib.strCells_length] using hown') (by decide)) ?_
  exact (hb1.grown hgrow (by have := hb1.size; omega) (fun k hk => (hown.lt k hk).1)).setCell (p := ⟨b, 1, none⟩) hB _
theorem Rel.bldWrite {lo b : Nat} {l : Bs} {s : ByteArray} {K : Value → World → Prop} (h : Rel B w [bldD lo b l]) (hlo : B.W.heap.size ≤ lo) (hlen : l.length + s.size ≤ 140737488355328)
    (k : ∀ v w', Rel B w' [bldD lo b (l ++ bl s)] → K v w') : upK Tryz.prog (sCall F_strings_Builder_WriteString #[.pointer (some ⟨b, 0, none⟩), .string s]) w K := by
  have hs := h.bldLo
  refine bWrite (bldD.is (h.here (i := 0) rfl)) (by rw [byteCells_len]; exact hlen) hs fun v w' h1 h2 => ?_
  refine k _ _ (h.bldStep hlo hs h2 (.inr ?_))
  rw [bytes_str] at h1
  have : Lib.byteCells (l ++ bl s) = Lib.byteCells l ++ Lib.byteCells (bl s) := by simp [Lib.byteCells]
  rw [this]
  exact h1
set_option maxRecDepth 100000 in
theorem sString {lo b : Nat} {l : Bs} {w : World} (h : Lib.IsBuilderF T_strings_Builder T_uint8 lo b (Lib.byteCells l) w) (hs : lo ≤ w.heap.size) :
    Calls Tryz.prog F_strings_Builder_String #[.pointer (some ⟨b, 0, none⟩)] w fun e w' => e = .returned (.string ⟨l.toArray⟩) ∧ (Lib.IsBuilderF T_strings_Builder T_uint8 lo b (Lib.byteCells l) w' ∧ Below lo w w' ∧ Lib.OthersKept T_uint8 (some b) w w') := Any.Builder_String_any_k Tryz.laysString exS lo b l w h hs
theorem Rel.bldString {lo b : Nat} {l : Bs} {K : Value → World → Prop} (h : Rel B w [bldD lo b l]) (hlo : B.W.heap.size ≤ lo)
    (k : ∀ w', Rel B w' [bldD lo b l] → K (.string (ofL l)) w') : upK Tryz.prog (sCall F_strings_Builder_String #[.pointer (some ⟨b, 0, none⟩)]) w K := by
  have hs := h.bldLo
  refine strings_Builder_String.up (Calls.mono (sString (bldD.is (h.here (i := 0) rfl)) hs) ?_)
  rintro e w' ⟨rfl, h1, h2, _⟩
  exact k _ (h.bldStep hlo hs h2 h1)
/-- 'var b strings.Builder', ahead of all else of one's own. -/
theorem Gives.introB {s : Sem Next} {v : Value} (h : ∀ (B' : Base) (w : World) (K : Value → World → Prop), (∀ {d : Dat}, d B → d B') → Rel B' w [] → (∀ (w1 : World) (b : Nat), Rel B' w1 [cellD b T_strings_Builder #[.pointer none, .slice none 0 0]] → Rel B' w1 [bldD B'.W.heap.size b []]) → (∀ w' τ, Rel B' w' τ → K v w') → upK Tryz.prog s w K) : Gives Tryz.prog B s v := by
  intro w σ K hr k
  obtain ⟨B', h', back, _, base⟩ := hr.frz
  refine h ⟨w, fun _ => True⟩ w K (fun {d} hd => by
    obtain ⟨c, hc⟩ := hr
    exact d.mono (fun k hk hs => ⟨trivial, hc.same k hk hs⟩) hd) ⟨fun _ => 0, rfl, rfl, rfl, Nat.le_refl _, fun _ _ _ => rfl, fun _ _ _ => rfl, fun i d hd => by simp at hd⟩ (fun w1 b h1 => ?_) fun w' τ h2 => ?_
  · obtain ⟨c, h1⟩ := h1
    have hc : c b = 1 := (h1.own 0 _ rfl).1
    have hb : w1.heap[b]? = some (.cells #[.pointer none, .slice none 0 0] T_strings_Builder (0, 0)) := (h1.own 0 _ rfl).2
    have hlo : w.heap.size ≤ b := Nat.le_of_not_lt fun hlt => by
      have := h1.keepc b trivial hlt
      omega
    refine ⟨c, h1.os, h1.tape, h1.output, h1.size, h1.keepc, h1.same, fun j d hj => ?_⟩
    cases j with
    | zero =>
      cases hj
      exact ⟨hc, hlo, _, _, .inl rfl, hb, .inl ⟨rfl, rfl⟩⟩
    | succ j => simp at hj
  · have h2 : Rel ⟨w, fun _ => True⟩ w' [] := h2.nil
    refine k w' ?_
    obtain ⟨c, hr⟩ := hr
    obtain ⟨c2, h2⟩ := h2
    refine ⟨fun k => if k < w.heap.size then c k else 0, h2.os.trans hr.os, h2.tape.trans hr.tape, h2.output.trans hr.output, Nat.le_trans hr.size h2.size, fun k hk hs => ?_, fun k hk hs => ?_, fun j d hj => ?_⟩
    · rw [if_pos (Nat.lt_of_lt_of_le hs hr.size)]; exact hr.keepc k hk hs
    · exact (h2.same k trivial (Nat.lt_of_lt_of_le hs hr.size)).trans (hr.same k hk hs)
    · refine d.mono (fun k hk hs => ?_) (hr.own j d hj)
      have hk : c k = j + 1 := hk
      have hs : k < w.heap.size := hs
      exact ⟨by show (if k < w.heap.size then c k else 0) = j + 1; rw [if_pos hs]; exact hk, h2.same k trivial hs⟩
end
end Go.Proofs.YtefinemhfgdpdaaGreatDoor
/-
  wire: what the writing functions answer. No condition.
-/
--@auto
namespace Go.Proofs.YtefinemhfgdpdaaGreatDoor
open Go.RowKit
set_option maxRecDepth 100000

theorem ofL_app (a b : Bs) : ofL a ++ ofL b = ofL (a ++ b) := by
  apply bl_inj
  show (ofL a ++ ofL b).data.toList = a ++ b
  simp
theorem strL_add {P : Program} {Kp : Value → Prop} {T : TypeId} {xo yo : Operand} {a b : Bs} (h : a.length + b.length ≤ 9223372036854775807) : pureK P (sBin .add T xo yo (.string (ofL a)) (.string (ofL b))) Kp = Kp (.string (ofL (a ++ b))) := by
  rw [str_add (by rw [ofL_size, ofL_size]; exact h), ofL_app]
theorem itoa_nat {n : Nat} : Go.Lib.itoa (n : Int) = Go.Lib.decDigits n := by unfold Go.Lib.itoa; rw [if_neg (by omega)]; rfl
theorem encI_len {n : Int} (h : inI n) : (encI n).length ≤ 21 := by
  have := itoa_len h
  unfold encI
  rw [List.length_append, List.length_singleton]
  omega
theorem encT_len (s : Bs) (h : s.length ≤ 9223372036854775807) : (encT s).length ≤ s.length + 22 := by
  have := itoa_len (n := s.length) ⟨by omega, by omega⟩
  unfold encT
  simp
  omega
theorem encL_len {α : Type} (one : α → Bs) (l : List α) (h : l.length ≤ 9223372036854775807) : (l.flatMap one).length ≤ (encL one l).length ∧ (encL one l).length ≤ (l.flatMap one).length + 22 := by
  have := itoa_len (n := l.length) ⟨by omega, by omega⟩
  unfold encL
  simp
  omega
theorem flat_take_le {α : Type} (one : α → Bs) (l : List α) (i : Nat) : ((l.take i).flatMap one).length ≤ (l.flatMap one).length := by
  have e : l.flatMap one = (l.take i).flatMap one ++ (l.drop i).flatMap one := by rw [← List.flatMap_append, List.take_append_drop]
  rw [e, List.length_append]
  omega
theorem flat_len {α : Type} (one : α → Bs) (l : List α) (k : Nat) (h : ∀ x ∈ l, (one x).length ≤ k) : (l.flatMap one).length ≤ k * l.length := by
  induction l with
  | nil => simp
  | cons x l ih =>
    have h1 := h x List.mem_cons_self
    have h2 := ih fun y hy => h y (List.mem_cons_of_mem _ hy)
    rw [List.flatMap_cons, List.length_append, List.length_cons, Nat.mul_add]
    omega
theorem flat_take_succ {α : Type} (one : α → Bs) {l : List α} {i : Nat} (h : i < l.length) : (l.take (i + 1)).flatMap one = (l.take i).flatMap one ++ one l[i] := by
  rw [List.take_succ_eq_append_getElem h, List.flatMap_append]
  simp
section
variable {B : Base} {w : World} {σ : List Dat}
theorem wInt_g (hB : powD B) {n : Int} (hn : inI n) : Gives Tryz.prog B (sCall F_wire_Int #[.int .i64 n]) (.string (ofL (encI n))) := by
  refine Gives.intro fun B' w K base h k => ?_
  refine wire_Int.up (wire_Int.call ?_)
  unfold wire_Int.pt
  refine h.ask (fun B2 own base2 => itoa_g (base2 (base hB)) hn) fun w1 h => ?_
  have := itoa_len hn
  have e : pureK Tryz.prog (sBin .add T_string (.tmp 4) (.const (.string ⟨#[59]⟩)) (.string (ofL (Go.Lib.itoa n))) (.string (ofL [59]))) (fun t5 => K t5 w1) = K (.string (ofL (Go.Lib.itoa n ++ [59]))) w1 := strL_add (by simp; omega)
  show pureK Tryz.prog (sBin .add T_string (.tmp 4) (.const (.string ⟨#[59]⟩)) (.string (ofL (Go.Lib.itoa n))) (.string (ofL [59]))) (fun t5 => K t5 w1)
  rw [e]
  exact k _ _ h
theorem wNum_g (hB : powD B) {n : Int} (hn : inI n) : Gives Tryz.prog B (sCall F_wire_Num #[.int .i64 n]) (.string (ofL (encN n))) := by
  refine Gives.intro fun B' w K base h k => ?_
  refine wire_Num.up (wire_Num.call ?_)
  unfold wire_Num.pt
  simp -zeta only [bin_lss, ifB_dec]
  unfold encN at k
  refine ⟨fun c => ?_, fun c => ?_⟩
  · rw [if_pos c] at k
    exact k _ _ h
  · rw [if_neg c] at k
    refine h.ask (fun B2 own base2 => wInt_g (base2 (base hB)) hn) fun w1 h => ?_
    exact k _ _ h
theorem wText_g (hB : powD B) {s : Bs} (hs : s.length ≤ 4611686018427387904) : Gives Tryz.prog B (sCall F_wire_Text #[.string (ofL s)]) (.string (ofL (encT s))) := by
  refine Gives.intro fun B' w K base h k => ?_
  refine wire_Text.up (wire_Text.call ?_)
  unfold wire_Text.pt
  rw [str_len U_string]
  have hin : inI (s.length : Int) := ⟨by omega, by omega⟩
  refine h.ask (fun B2 own base2 => itoa_g (base2 (base hB)) hin) fun w1 h => ?_
  have hl := itoa_len hin
  rw [show (⟨#[58]⟩ : ByteArray) = ofL [58] from rfl, show (⟨#[44]⟩ : ByteArray) = ofL [44] from rfl]
  rw [strL_add (by simp; omega), strL_add (by simp; omega), strL_add (by simp; omega)]
  have e : encT s = Go.Lib.itoa s.length ++ [58] ++ s ++ [44] := by simp [encT]
  rw [e] at k
  exact k _ _ h
theorem list_int_g (hB : powD B) {v : Value} {l : List Int} (r : rowR v l B) (hgood : ∀ x ∈ l, inI x) (hb : (encL encI (l.map id)).length ≤ 70368744177664) :
    Gives Tryz.prog B (sCall F_wire_list_int #[v, .func (.func F_wire_Int) #[] #[]]) (.string (ofL (encL encI (l.map id)))) := by
  refine Gives.introB fun B' w K base h start k => ?_
  replace r := base r
  replace hB := base hB
  refine wire_list_int.up (wire_list_int.call ?_)
  unfold wire_list_int.pt
  have hll : l.length ≤ 70368744177664 := by
    have h1 : l.length ≤ ((l.map id).flatMap encI).length := by
      clear hb hgood k r start h
      induction l with
      | nil => simp
      | cons x l ih =>
        rw [List.map_cons, List.flatMap_cons, List.length_append, List.length_cons]
        have : 1 ≤ (encI (id x)).length := by simp [encI] <;> omega
        omega
    rcases Nat.lt_or_ge 9223372036854775807 l.length with hh | hh
    · have h2 : ((l.map id).flatMap encI).length ≤ (encL encI (l.map id)).length := by unfold encL; simp; omega
      omega
    · have := (encL_len encI (l.map id) (by rw [List.length_map]; exact hh)).1
      omega
  have hin : inI (l.length : Int) := ⟨by omega, by omega⟩
  refine h.alloc z_strings_Builder fun b w1 h => ?_
  have h := start w1 b h
  simp -zeta only [rowR.len r sl_s_int]
  refine h.ask (fun B2 own base2 => itoa_g (base2 hB) hin) fun w2 h => ?_
  have hl := itoa_len hin
  rw [show (⟨#[91]⟩ : ByteArray) = ofL [91] from rfl, strL_add (by simp; omega)]
  refine h.bldWrite (Nat.le_refl _) (by rw [ofL_size]; simp; omega) fun _ w3 h => ?_
  have h : Rel B' w3 [bldD B'.W.heap.size b (Go.Lib.itoa l.length ++ [91])] := h
  have hmap : (l.map id).length = l.length := List.length_map ..
  have hall := (encL_len encI (l.map id) (by omega)).1
  refine LOOP_intro (fun x w' => ∃ i : Nat, i ≤ l.length ∧ x = (.int .i64 i, ()) ∧ Rel B' w' [bldD B'.W.heap.size b (Go.Lib.itoa l.length ++ [91] ++ ((l.map id).take i).flatMap encI)]) (fun x _ => l.length - (match x.1 with | .int _ n => n.toNat | _ => 0))
    ⟨0, Nat.zero_le _, rfl, by simpa using h⟩ ?_
  clear h
  rintro x w4 ⟨i, hi, rfl, h⟩ next hnext
  simp -zeta only [bin_lss, ifB_dec]
  refine ⟨fun hlt => ?_, fun hge => ?_⟩
  · have hil : i < l.length := by omega
    obtain ⟨q, q1, q2⟩ := rowR.at_sc r h sl_s_int hil sc_int (x := .int .i64 l[i]) rfl
    rw [q1, q2]
    refine call_v ?_
    refine h.ask (fun B2 own base2 => wInt_g (base2 hB) (hgood l[i] (List.getElem_mem hil))) fun w5 h => ?_
    have hstep := flat_take_succ encI (l := l.map id) (i := i) (by omega)
    rw [List.getElem_map, show encI (id l[i]) = encI l[i] from rfl] at hstep
    have hle := flat_take_le encI (l.map id) (i + 1)
    rw [hstep, List.length_append] at hle
    refine h.bldWrite (Nat.le_refl _) (by rw [ofL_size]; simp only [List.length_append, List.length_singleton]; omega) fun _ w6 h => ?_
    rw [bin_add, wrap_id (by omega) (by omega)]
    refine hnext _ _ ⟨i + 1, hil, rfl, ?_⟩ (by simp only; omega)
    rw [hstep, ← List.append_assoc]
    exact h
  · refine h.bldString (Nat.le_refl _) fun w7 h => ?_
    have hie : i = l.length := by omega
    subst hie
    have e : (l.map id).take l.length = l.map id := List.take_of_length_le (by omega)
    rw [e] at *
    rw [show (⟨#[93]⟩ : ByteArray) = ofL [93] from rfl, strL_add (by simp only [List.length_append, List.length_singleton]; omega)]
    have e2 : encL encI (l.map id) = Go.Lib.itoa l.length ++ [91] ++ (l.map id).flatMap encI ++ [93] := by simp [encL]
    rw [e2] at k
    exact k _ _ h
theorem wNums_g (hB : powD B) {v : Value} {l : List Int} (r : rowR v l B) (hgood : ∀ x ∈ l, inI x) (hl : l.length ≤ 1099511627776) : Gives Tryz.prog B (sCall F_wire_Nums #[v]) (.string (ofL (encL encI l))) := by
  refine Gives.intro fun B' w K base h k => ?_
  refine wire_Nums.up (wire_Nums.call ?_)
  unfold wire_Nums.pt
  have e : l.map id = l := List.map_id l
  refine h.ask (fun B2 own base2 => list_int_g (base2 (base hB)) (base2 (base r)) hgood (by
    rw [e]
    have h1 := (encL_len encI l (by omega)).2
    have h2 := flat_len encI l 21 fun x hx => encI_len (hgood x hx)
    omega)) fun w1 h => ?_
  rw [e]
  exact k _ _ h
end
end Go.Proofs.YtefinemhfgdpdaaGreatDoor
/-
  wire: the reader. No condition.
-/
--@auto
namespace Go.Proofs.YtefinemhfgdpdaaGreatDoor
open Go.RowKit
set_option maxRecDepth 100000

abbrev rdC (s : RS) : Array Value := #[.string (ofL s.rest), .bool s.bad]
abbrev rdD (p : Nat) (s : RS) : Dat := cellD p T_wire_Reader (rdC s)
def rdPost (p : Nat) (v : Value) (s : RS) : Value → Dat → List Dat → Prop := fun u e' τ => u = v ∧ e' = rdD p s ∧ τ = []
abbrev ptr1 (p : Nat) : Value := .pointer (some ⟨p, 0, none⟩)
section
variable {B : Base} {w : World} {σ : List Dat} {p : Nat} {s : RS}
theorem Does.rd {sem : Sem Next} {v : Value} {s' : RS} (h : ∀ (B' : Base) (w : World) (K : Value → World → Prop), (∀ {d : Dat}, d B → d B') → Rel B' w [rdD p s] → (∀ w' τ, Rel B' w' (rdD p s' :: τ) → K v w') → upK Tryz.prog sem w K) : Does Tryz.prog B (rdD p s) sem (rdPost p v s') := by
  refine Does.intro fun B' w K base h' k => ?_
  refine h B' w K base h' fun w' τ h2 => k v _ [] w' ⟨rfl, rfl, rfl⟩ ?_
  have h3 : Rel B' w' ([rdD p s'] ++ τ) := h2
  exact h3.drop
/-- A reader's call. -/
theorem Rel.rd_ (h : Rel B w σ) (i : Nat) (hi : σ[i]? = some (rdD p s)) {sem : Sem Next} {v : Value} {s' : RS} {K : Value → World → Prop} (G : ∀ B' : Base, (∀ {j : Nat} {d : Dat}, j ≠ i → σ[j]? = some d → d B') → (∀ {d : Dat}, d B → d B') → Does Tryz.prog B' (rdD p s) sem (rdPost p v s'))
    (k : ∀ w', Rel B w' (σ.set i (rdD p s')) → K v w') : upK Tryz.prog sem w K := by
  refine h.act i hi G fun u e' τ w' hp h2 => ?_
  obtain ⟨rfl, rfl, rfl⟩ := hp
  rw [List.append_nil] at h2
  exact k _ h2
theorem fail_d : Does Tryz.prog B (rdD p s) (sCall F_wire_Reader_fail #[ptr1 p]) (rdPost p (.tuple #[]) failR) := by
  refine Does.rd fun B' w K base h k => ?_
  refine wire_Reader_fail.up (wire_Reader_fail.call ?_)
  unfold wire_Reader_fail.pt
  simp -zeta only [nil_ptr, field_addr f_wire_Reader_0, Nat.add_zero]
  refine h.st 0 rfl sc_string (show 0 < 2 by omega) rfl fun w1 h => ?_
  simp -zeta only [field_addr f_wire_Reader_1, Nat.zero_add]
  refine h.st 0 rfl sc_bool (show 1 < 2 by omega) rfl fun w2 h => ?_
  exact k _ [] h
theorem toU8 (e : UInt8) : (e.toNat : Int).toNat.toUInt8 = e := by simp
theorem number_d (hB : wireD B) {e : UInt8} (he : isEnd e) {lo : Int} (hs : s.rest.length ≤ 140737488355328) :
    Does Tryz.prog B (rdD p s) (sCall F_wire_Reader_number #[ptr1 p, .int .u8 e.toNat, .int .i64 lo]) (rdPost p (.int .i64 (numR e lo s).1) (numR e lo s).2) := by
  refine Does.rd fun B' w K base h k => ?_
  replace hB := base hB
  refine wire_Reader_number.up (wire_Reader_number.call ?_)
  unfold wire_Reader_number.pt
  have h := h.tick
  have hmin : min ((s.rest.length : Nat) : Int) 21 = ((min s.rest.length 21 : Nat) : Int) := by omega
  simp -zeta only [nil_ptr, field_addr f_wire_Reader_0, Nat.add_zero, h.ld 0 rfl sc_string (o := 0) rfl, str_len U_string, bl_ofL, blt_min, hmin]
  rw [str_cut U_string (lo := 0) (hi := min s.rest.length 21) Bnd.none Bnd.some (Nat.zero_le _) (by rw [ofL_size]; omega)]
  rw [bl_ofL, List.drop_zero]
  have hhead : s.rest.take (min s.rest.length 21) = s.rest.take 21 := by
    rcases Nat.le_total s.rest.length 21 with h1 | h1
    · rw [Nat.min_eq_left h1, List.take_length, List.take_of_length_le h1]
    · rw [Nat.min_eq_right h1]
  rw [hhead]
  refine h.ask (fun B2 own base2 => index_g _ _) fun w1 h => ?_
  rw [toU8, bl_ofL, bin_lss]
  have bad : (∀ n r, s.rest = Go.Lib.itoa n ++ e :: r → lo ≤ n → ¬ inI n) → numR e lo s = (0, failR) := fun hno => by
    unfold numR
    rw [numS_none.2 hno]
  have no : (∀ n r, s.rest = Go.Lib.itoa n ++ e :: r → lo ≤ n → ¬ inI n) → ∀ w', Rel B' w' [rdD p s] → upK Tryz.prog (sCall F_wire_Reader_fail #[ptr1 p]) w' fun _ w2 => K (.int .i64 0) w2 := fun hno w' h => by
    rw [bad hno] at k
    exact h.rd_ 0 rfl (fun B2 own base2 => fail_d) fun w2 h => k _ [] h
  by_cases hmem : e ∈ s.rest.take 21
  · obtain ⟨a, r, hsp, hna⟩ := first_split hmem
    obtain ⟨z, hfull⟩ : ∃ z, s.rest = a ++ e :: z := by
      have h1 : s.rest.take 21 ++ s.rest.drop 21 = s.rest := List.take_append_drop 21 s.rest
      rw [hsp, List.append_assoc, List.cons_append] at h1
      exact ⟨_, h1.symm⟩
    have hal : a.length < s.rest.length := by rw [hfull, List.length_append, List.length_cons]; omega
    have hal2 : a.length < (s.rest.take 21).length := by rw [hsp, List.length_append, List.length_cons]; omega
    have hat : Go.Lib.indexByte (s.rest.take 21) e = a.length := by rw [hsp]; exact index_first r hna
    have htk : ((s.rest.take 21).take a.length).drop 0 = a := by rw [hsp, List.drop_zero, List.take_left]
    rw [hat, decide_eq_false (show ¬ ((a.length : Int) < 0) by omega), ifB_false]
    rw [str_cut U_string (lo := 0) (hi := a.length) Bnd.none Bnd.some (Nat.zero_le _) (by rw [ofL_size]; omega)]
    rw [bl_ofL, htk]
    refine atoi_r hB h (by rw [ofL_size]; omega) fun v w3 hv h => ?_
    have h := h.tick
    rw [bl_ofL] at hv
    rcases hv with ⟨n, hn, rfl⟩ | ⟨hno, n, t, q, rfl⟩
    · have hin := Go.Lib.atoiAll_bounds hn
      simp -zeta only [ext_2_0, ext_2_1, neq_nil_nil (show Tryz.prog.underlying T_error = some (.interface (Tryz.prog.methodsAt T_error)) by kernel_rfl), ifB_false]
      rw [str_cut U_string (lo := 0) (hi := a.length) Bnd.none Bnd.some (Nat.zero_le _) (by rw [ofL_size]; omega), bl_ofL, htk]
      refine h.ask (fun B2 own base2 => itoa_g (base2 hB) hin) fun w5 h => ?_
      rw [neq_str, ifB_not, ifB_dec]
      refine ⟨fun heq => ?_, fun hne => no (fun m r' h1 h2 h3 => ?_) _ h⟩
      · have heq : Go.Lib.itoa n = a := by have := congrArg bl heq; exact this
        rw [bin_lss, ifB_dec]
        refine ⟨fun hlt => no (fun m r' h1 h2 h3 => ?_) _ h, fun hge => ?_⟩
        · rw [hfull] at h1
          obtain ⟨e1, _⟩ := split_first hna (itoa_not he) h1
          have := itoa_inj (heq.trans e1)
          omega
        · have hnum : numR e lo s = (n, ⟨z, s.bad⟩) := by
            unfold numR
            rw [(numS_some he (n := n) (r := z)).2 ⟨by rw [heq]; exact hfull, by omega, hin⟩]
          rw [hnum] at k
          have hw : IntKind.i64.wrap ((a.length : Int) + 1) = ((a.length + 1 : Nat) : Int) := by rw [wrap_id (by omega) (by omega)]; omega
          simp -zeta only [nil_ptr, field_addr f_wire_Reader_0, Nat.add_zero, h.ld 0 rfl sc_string (o := 0) rfl, bin_add, hw]
          rw [str_cut U_string (lo := a.length + 1) (hi := (ofL s.rest).size) Bnd.some Bnd.none (by rw [ofL_size]; omega) (Nat.le_refl _)]
          have hcut : (((bl (ofL s.rest)).take (ofL s.rest).size).drop (a.length + 1)) = z := by
            rw [bl_ofL, ofL_size, List.take_length, hfull]
            have : a ++ e :: z = (a ++ [e]) ++ z := by simp
            rw [this, show a.length + 1 = (a ++ [e]).length by simp, List.drop_left]
          rw [hcut]
          refine h.st 0 rfl sc_string (show 0 < 2 by omega) rfl fun w8 h => ?_
          exact k _ [] h
      · rw [hfull] at h1
        obtain ⟨e1, _⟩ := split_first hna (itoa_not he) h1
        rw [e1, atoi_itoa h3] at hn
        injection hn with hn
        subst hn
        exact hne (by rw [e1])
    · simp -zeta only [ext_2_0, ext_2_1, neq_iface_nil (show Tryz.prog.underlying T_error = some (.interface (Tryz.prog.methodsAt T_error)) by kernel_rfl), ifB_true]
      refine no (fun m r' h1 h2 h3 => ?_) _ h
      rw [hfull] at h1
      obtain ⟨e1, _⟩ := split_first hna (itoa_not he) h1
      exact hno m (by rw [e1]; exact atoi_itoa h3)
  · rw [index_none hmem, decide_eq_true (show (-1 : Int) < 0 by decide), ifB_true]
    refine no (fun n r h1 h2 h3 => hmem ?_) _ h
    rw [h1, List.take_append]
    have := itoa_len h3
    refine List.mem_append.2 (.inr ?_)
    obtain ⟨m, hm⟩ : ∃ m, 21 - (Go.Lib.itoa n).length = m + 1 := ⟨20 - (Go.Lib.itoa n).length, by omega⟩
    rw [hm, List.take_succ_cons]
    exact List.mem_cons_self
theorem close_d {e : UInt8} (hs : s.rest.length ≤ 140737488355328) : Does Tryz.prog B (rdD p s) (sCall F_wire_Reader_close #[ptr1 p, .string (ofL [e])]) (rdPost p (.tuple #[]) (closeR e s)) := by
  refine Does.rd fun B' w K base h k => ?_
  refine wire_Reader_close.up (wire_Reader_close.call ?_)
  unfold wire_Reader_close.pt
  simp -zeta only [nil_ptr, field_addr f_wire_Reader_0, Nat.add_zero, h.ld 0 rfl sc_string (o := 0) rfl]
  refine h.ask (fun B2 own base2 => cut_g _ _) fun w1 h => ?_
  simp -zeta only [ext_2_0, ext_2_1, bl_ofL]
  have hc : (Go.Lib.hasPrefix s.rest [e] = true ∧ closeR e s = ⟨Go.Lib.trimPrefix s.rest [e], s.bad⟩) ∨ (Go.Lib.hasPrefix s.rest [e] = false ∧ closeR e s = failR) := by
    unfold Go.Lib.trimPrefix Go.Lib.hasPrefix closeR
    cases s.rest with
    | nil => exact .inr ⟨rfl, rfl⟩
    | cons x r =>
      by_cases hx : x = e
      · subst hx; left; simp
      · right
        have : ¬ e = x := fun hh => hx hh.symm
        simp [List.isPrefixOf, hx, this]
  refine h.st 0 rfl sc_string (show 0 < 2 by omega) rfl fun w2 h => ?_
  rcases hc with ⟨h1, h2⟩ | ⟨h1, h2⟩
  · rw [h1, un_not, Bool.not_true, ifB_false]
    rw [h2] at k
    exact k _ [] h
  · rw [h1, un_not, Bool.not_false, ifB_true]
    rw [h2] at k
    have h : Rel B' w2 [rdD p ⟨Go.Lib.trimPrefix s.rest [e], s.bad⟩] := h
    exact h.rd_ 0 rfl (fun B2 own base2 => fail_d) fun w3 h => k _ [] h
theorem rNum_d (hB : wireD B) (hs : s.rest.length ≤ 140737488355328) : Does Tryz.prog B (rdD p s) (sCall F_wire_Reader_Num #[ptr1 p]) (rdPost p (.int .i64 (natR s).1) (natR s).2) := by
  refine Does.rd fun B' w K base h k => ?_
  refine wire_Reader_Num.up (wire_Reader_Num.call ?_)
  unfold wire_Reader_Num.pt
  exact h.rd_ 0 rfl (fun B2 own base2 => number_d (e := 59) (base2 (base hB)) (.inl rfl) hs) fun w1 h => k _ [] h
theorem rInt_d (hB : wireD B) (hs : s.rest.length ≤ 140737488355328) : Does Tryz.prog B (rdD p s) (sCall F_wire_Reader_Int #[ptr1 p]) (rdPost p (.int .i64 (intR s).1) (intR s).2) := by
  refine Does.rd fun B' w K base h k => ?_
  refine wire_Reader_Int.up (wire_Reader_Int.call ?_)
  unfold wire_Reader_Int.pt
  exact h.rd_ 0 rfl (fun B2 own base2 => number_d (e := 59) (base2 (base hB)) (.inl rfl) hs) fun w1 h => k _ [] h
theorem numR_le {e : UInt8} (he : isEnd e) (lo : Int) (s : RS) : (numR e lo s).2.rest.length ≤ s.rest.length ∧ inI (numR e lo s).1 ∧ (0 ≤ lo → 0 ≤ (numR e lo s).1) := by
  rcases numR_cases he lo s with ⟨n, r, e1, e2, e3, e4⟩ | ⟨_, e4⟩ <;> rw [e4]
  · refine ⟨?_, e3, fun h => by show 0 ≤ n; omega⟩
    rw [e1, List.length_append, List.length_cons]
    show r.length ≤ _
    omega
  · exact ⟨Nat.zero_le _, by show inI 0; exact ⟨by decide, by decide⟩, fun _ => Int.le_refl 0⟩
theorem rText_d (hB : wireD B) (hs : s.rest.length ≤ 140737488355328) : Does Tryz.prog B (rdD p s) (sCall F_wire_Reader_Text #[ptr1 p]) (rdPost p (.string (ofL (textR s).1)) (textR s).2) := by
  refine Does.rd fun B' w K base h k => ?_
  replace hB := base hB
  refine wire_Reader_Text.up (wire_Reader_Text.call ?_)
  unfold wire_Reader_Text.pt
  refine h.rd_ 0 rfl (fun B2 own base2 => number_d (e := 58) (base2 hB) (.inr (.inl rfl)) hs) fun w1 h => ?_
  obtain ⟨hle, hin, h0⟩ := numR_le (.inr (.inl rfl) : isEnd 58) 0 s
  have h0 := h0 (Int.le_refl 0)
  unfold textR at k
  generalize numR 58 0 s = q at h k hle hin h0
  obtain ⟨n, s1⟩ := q
  have h : Rel B' w1 [rdD p s1] := h
  simp only at hle hin h0 k ⊢
  simp -zeta only [nil_ptr, field_addr f_wire_Reader_0, Nat.add_zero, h.ld 0 rfl sc_string (o := 0) rfl, str_len U_string, bl_ofL, bin_gtr, ifB_dec]
  refine ⟨fun c => ?_, fun c => ?_⟩
  · rw [if_pos c] at k
    exact h.rd_ 0 rfl (fun B2 own base2 => fail_d) fun w2 h => k _ [] h
  · rw [if_neg c] at k
    obtain ⟨m, rfl⟩ : ∃ m : Nat, n = m := ⟨n.toNat, by omega⟩
    rw [str_cut U_string (lo := 0) (hi := m) Bnd.none Bnd.some (Nat.zero_le _) (by rw [ofL_size]; omega)]
    rw [str_cut U_string (lo := m) (hi := (ofL s1.rest).size) Bnd.some Bnd.none (by rw [ofL_size]; omega) (Nat.le_refl _)]
    rw [bl_ofL, ofL_size, List.take_length, List.drop_zero]
    refine h.st 0 rfl sc_string (show 0 < 2 by omega) rfl fun w3 h => ?_
    have h : Rel B' w3 [rdD p ⟨s1.rest.drop m, s1.bad⟩] := h
    refine h.rd_ 0 rfl (fun B2 own base2 => close_d (e := 44) (by show (s1.rest.drop m).length ≤ _; rw [List.length_drop]; omega)) fun w4 h => ?_
    simp only [Int.toNat_natCast] at k
    have h : Rel B' w4 [rdD p (closeR 44 ⟨s1.rest.drop m, s1.bad⟩)] := h
    simp -zeta only [nil_ptr, field_addr f_wire_Reader_1, Nat.zero_add, h.ld 0 rfl sc_bool (o := 1) rfl]
    rw [ifB_bool]
    refine ⟨fun c2 => ?_, fun c2 => ?_⟩
    · rw [if_pos c2] at k; exact k _ [] h
    · rw [if_neg (by rw [c2]; decide)] at k; exact k _ [] h
theorem rLeft_g (hc : rdD p s B) : Gives Tryz.prog B (sCall F_wire_Reader_Left #[ptr1 p]) (.int .i64 s.rest.length) := by
  refine Gives.intro fun B' w K base h k => ?_
  replace hc := base hc
  refine wire_Reader_Left.up (wire_Reader_Left.call ?_)
  unfold wire_Reader_Left.pt
  simp -zeta only [nil_ptr, field_addr f_wire_Reader_0, Nat.add_zero, cellD.ld (h.hereB hc) sc_string (o := 0) rfl, str_len U_string, bl_ofL]
  exact k _ _ h
theorem empty_str : (⟨#[]⟩ : ByteArray) = ofL [] := rfl
theorem eql_ofL {P : Program} {T : TypeId} {xo yo : Operand} {a b : Bs} {K : Value → Prop} : pureK P (sBin .eql T xo yo (.string (ofL a)) (.string (ofL b))) K = K (.bool (decide (a = b))) := by
  rw [eql_str]
  congr 2
  exact decide_eq_decide.2 ⟨fun h => congrArg bl h, fun h => by rw [h]⟩
def doneR (s : RS) : Bool := !s.bad && decide (s.rest = [])
theorem rDone_g (hc : rdD p s B) : Gives Tryz.prog B (sCall F_wire_Reader_Done #[ptr1 p]) (.bool (doneR s)) := by
  refine Gives.intro fun B' w K base h k => ?_
  replace hc := base hc
  refine wire_Reader_Done.up (wire_Reader_Done.call ?_)
  unfold wire_Reader_Done.pt
  simp -zeta only [nil_ptr, field_addr f_wire_Reader_0, field_addr f_wire_Reader_1, Nat.zero_add, Nat.add_zero, cellD.ld (h.hereB hc) sc_string (o := 0) rfl, cellD.ld (h.hereB hc) sc_bool (o := 1) rfl, un_not, ifB_not, ifB_bool, empty_str, eql_ofL]
  unfold doneR at k
  refine ⟨fun c => ?_, fun c => ?_⟩
  · rw [c] at k; exact k _ _ h
  · rw [c] at k; exact k _ _ h
theorem open_m {t : Bs} : Makes Tryz.prog B (sCall F_wire_Open #[.string (ofL t)]) fun u τ => ∃ p, u = ptr1 p ∧ τ = [rdD p ⟨t, false⟩] := by
  refine Makes.intro fun B' w K base h k => ?_
  refine wire_Open.up (wire_Open.call ?_)
  unfold wire_Open.pt
  rw [bd_wire_Reader_0]
  refine h.box fun b w1 h => ?_
  exact k _ _ _ ⟨b, rfl, rfl⟩ h
end
end Go.Proofs.YtefinemhfgdpdaaGreatDoor
/-
  wire: lists that are read; the reference's comparing. No condition.
-/
--@auto
namespace Go.Proofs.YtefinemhfgdpdaaGreatDoor
open Go.RowKit
set_option maxRecDepth 100000

theorem Ok1.shrink {α : Type} {enc : α → Bs} {good : α → Prop} {one : RS → α × RS} (h : Ok1 enc good one) (hne : ∀ x, 0 < (enc x).length) {s : RS} (h1 : s.bad = false) :
    (one s).2.rest.length ≤ s.rest.length ∧ ((one s).2.bad = false → (one s).2.rest.length + 1 ≤ s.rest.length) := by
  cases hb : (one s).2.bad
  · obtain ⟨e, _⟩ := h.back h1 hb
    have := hne (one s).1
    rw [e, List.length_append]
    exact ⟨by omega, fun _ => by omega⟩
  · rw [h.fail h1 hb]
    exact ⟨Nat.zero_le _, fun hh => by cases hh⟩
theorem encI_pos (n : Int) : 0 < (encI n).length := by unfold encI; simp
theorem encT_pos (t : Bs) : 0 < (encT t).length := by unfold encT; simp <;> omega
theorem loopR_le {α : Type} {enc : α → Bs} {good : α → Prop} {one : RS → α × RS} (h : Ok1 enc good one) (hne : ∀ x, 0 < (enc x).length) : ∀ (k : Nat) (acc : List α) (s : RS), (loopR one k acc s).1.length ≤ acc.length + s.rest.length + 1
  | 0, acc, s => by rw [loopR]; simp only; omega
  | k + 1, acc, s => by
    rw [loopR]
    by_cases c : s.bad = true
    · rw [if_pos c]; simp only; omega
    · rw [if_neg c]
      have c : s.bad = false := by simpa using c
      obtain ⟨h1, h2⟩ := h.shrink hne c
      cases hb : (one s).2.bad
      · have := loopR_le h hne k (acc ++ [(one s).1]) (one s).2
        have := h2 hb
        rw [List.length_append, List.length_singleton] at *
        omega
      · cases k with
        | zero => rw [loopR, List.length_append, List.length_singleton]; omega
        | succ k => rw [loopR, if_pos hb, List.length_append, List.length_singleton]; omega
theorem itemsR_le {α : Type} {enc : α → Bs} {good : α → Prop} {one : RS → α × RS} (h : Ok1 enc good one) (hne : ∀ x, 0 < (enc x).length) (s : RS) (hs : s.rest.length ≤ 1099511627776) : (itemsR one s).1.length ≤ 4611686018427387904 := by
  unfold itemsR
  have h1 := (numR_le (.inr (.inr rfl) : isEnd 91) 0 s).1
  have h2 := loopR_le h hne (numR 91 0 s).1.toNat [] (numR 91 0 s).2
  rw [List.length_nil] at h2
  simp only
  split
  · rw [List.length_nil]; omega
  · omega
section
variable {B : Base} {w : World} {σ : List Dat} {p : Nat} {s : RS}
theorem items_int_d (hB : wireD B) (hs : s.rest.length ≤ 1099511627776) : Does Tryz.prog B (rdD p s) (sCall F_wire_items_int #[ptr1 p, .func (.func F_wire_Reader_Int) #[ptr1 p] #[]]) (fun u e' τ => e' = rdD p (itemsR intR s).2 ∧ τ = [rowD T_int u ((itemsR intR s).1)]) := by
  refine Does.intro fun B' w K base h k => ?_
  replace hB := base hB
  refine wire_items_int.up (wire_items_int.call ?_)
  unfold wire_items_int.pt
  refine LETJ_intro fun J1 hJ1 => ?_
  replace hJ1 : ∀ v acc s' w', itemsR intR s = (if (closeR 93 s').bad = true then [] else acc, closeR 93 s') → s'.rest.length ≤ s.rest.length → Rel B' w' [rdD p s', rowD T_int v acc] → J1 (v, ()) w' := by
    intro v acc s' w' he hl h
    refine hJ1 _ _ ?_
    clear hJ1
    refine h.rd_ 0 rfl (fun B2 own base2 => close_d (e := 93) (by omega)) fun w2 h => ?_
    have h : Rel B' w2 [rdD p (closeR 93 s'), rowD T_int v acc] := h
    simp -zeta only [nil_ptr, field_addr f_wire_Reader_1, Nat.zero_add, h.ld 0 rfl sc_bool (o := 1) rfl]
    rw [ifB_bool]
    rw [he] at k
    refine ⟨fun c => ?_, fun c => ?_⟩
    · have h := (h.take 1).addNil Int T_int
      have h : Rel B' w2 [rdD p (closeR 93 s'), rowD T_int (.slice none 0 0) ([] : List Int)] := h
      refine k _ _ _ _ ⟨rfl, rfl⟩ ?_
      rw [if_pos c]
      exact h
    · refine k _ _ _ _ ⟨rfl, rfl⟩ ?_
      rw [if_neg (by rw [c]; decide)]
      exact h
  refine h.rd_ 0 rfl (fun B2 own base2 => number_d (e := 91) (base2 hB) (.inr (.inr rfl)) (by omega)) fun w3 h => ?_
  obtain ⟨hle, hin, h0⟩ := numR_le (.inr (.inr rfl) : isEnd 91) 0 s
  have h0 := h0 (Int.le_refl 0)
  unfold itemsR at hJ1
  generalize numR 91 0 s = q at h hJ1 hle hin h0
  obtain ⟨n, s1⟩ := q
  simp only at hle hin h0 hJ1 ⊢
  obtain ⟨m, hm⟩ : ∃ m : Nat, n = m := ⟨n.toNat, by omega⟩
  have h : Rel B' w3 [rdD p s1] := h
  have h := h.addNil Int T_int
  rw [hm] at hJ1 ⊢
  simp only [Int.toNat_natCast] at hJ1
  refine LOOP_intro (fun x w' => ∃ (j : Nat) (acc : List Int) (v : Value) (s' : RS), j ≤ m ∧ x = (v, .int .i64 j, ()) ∧ loopR intR j acc s' = loopR intR m [] s1 ∧ s'.rest.length ≤ s.rest.length ∧ (s'.bad = false → acc.length + s'.rest.length ≤ s.rest.length) ∧
      Rel B' w' [rdD p s', rowD T_int v acc]) (fun x _ => match x.2.1 with | .int _ n => n.toNat | _ => 0)
    ⟨m, [], .slice none 0 0, s1, Nat.le_refl _, rfl, rfl, hle, fun _ => by simpa using hle, h⟩ ?_
  clear h
  rintro x w4 ⟨j, acc, v, s', hj, rfl, hlp, hsl, hac, h⟩ next hnext
  simp -zeta only [bin_gtr, ifB_dec]
  refine ⟨fun hpos => ?_, fun hz => ?_⟩
  · obtain ⟨i, rfl⟩ : ∃ i, j = i + 1 := ⟨j - 1, by omega⟩
    simp -zeta only [nil_ptr, field_addr f_wire_Reader_1, Nat.zero_add, h.ld 0 rfl sc_bool (o := 1) rfl]
    rw [un_not, ifB_not, ifB_bool]
    rw [loopR] at hlp
    refine ⟨fun c => ?_, fun c => ?_⟩
    · rw [if_pos c] at hlp
      rw [← hlp] at hJ1
      exact hJ1 v acc s' w4 rfl hsl h
    · rw [if_neg (by rw [c]; decide)] at hlp
      have hac := hac c
      obtain ⟨sh1, sh2⟩ := Ok1.shrink intR_ok encI_pos c
      refine call_v ?_
      show upK Tryz.prog (sCall F_wire_Reader_Int #[ptr1 p]) w4 _
      refine h.rd_ 0 rfl (fun B2 own base2 => rInt_d (base2 hB) (by omega)) fun w5 h => ?_
      have h : Rel B' w5 [rdD p (intR s').2, rowD T_int v acc] := h
      refine h.push1 (α := Int) 1 rfl ((intR s').1) sl_s_int (by decide) (by omega) (by omega) fun v2 w7 h => ?_
      have h : Rel B' w7 [rdD p (intR s').2, rowD T_int v2 (acc ++ [((intR s').1)])] := h
      rw [bin_sub, wrap_id (by omega) (by omega)]
      have e1 : (((i + 1 : Nat) : Int) - 1) = (i : Int) := by omega
      rw [e1]
      refine hnext _ _ ⟨i, acc ++ [(intR s').1], v2, (intR s').2, by omega, rfl, hlp, by omega, fun hb => ?_, ?_⟩ (by simp only; omega)
      · have := sh2 hb
        rw [List.length_append, List.length_singleton]
        omega
      · have e2 : (acc ++ [(intR s').1]) = acc ++ [((intR s').1)] := rfl
        rw [e2]
        exact h
  · obtain rfl : j = 0 := by omega
    rw [loopR] at hlp
    rw [← hlp] at hJ1
    exact hJ1 v acc s' w4 rfl hsl h
theorem rNums_d (hB : wireD B) (hs : s.rest.length ≤ 1099511627776) : Does Tryz.prog B (rdD p s) (sCall F_wire_Reader_Nums #[ptr1 p]) (fun u e' τ => e' = rdD p (itemsR intR s).2 ∧ τ = [rowD T_int u ((itemsR intR s).1)]) := by
  refine Does.intro fun B' w K base h k => ?_
  refine wire_Reader_Nums.up (wire_Reader_Nums.call ?_)
  unfold wire_Reader_Nums.pt
  rw [mk_func]
  refine h.act 0 rfl (fun B2 own base2 => items_int_d (base2 (base hB)) hs) fun u e' τ w1 hp h => ?_
  exact k _ _ _ _ hp h
end
end Go.Proofs.YtefinemhfgdpdaaGreatDoor
/-
  Readers: a call that has not failed has read an encoding. No condition.
-/
namespace Go.Proofs.YtefinemhfgdpdaaGreatDoor
open Go.RowKit

/-- A call of a reader that has failed fails. -/
structure Ok2 {α : Type} (enc : α → Bs) (good : α → Prop) (one : RS → α × RS) : Prop where
  ok : Ok1 enc good one
  keep : ∀ s : RS, s.bad = true → (one s).2.bad = true
theorem Ok2.back {α : Type} {enc : α → Bs} {good : α → Prop} {one : RS → α × RS} (h : Ok2 enc good one) {s : RS} (hb : (one s).2.bad = false) : s.bad = false ∧ s.rest = enc (one s).1 ++ (one s).2.rest ∧ good (one s).1 := by
  have h1 : s.bad = false := by
    cases hs : s.bad
    · rfl
    · rw [h.keep s hs] at hb; cases hb
  exact ⟨h1, h.ok.back h1 hb⟩
theorem numR_keep {e : UInt8} (he : isEnd e) (lo : Int) (s : RS) (h : s.bad = true) : (numR e lo s).2.bad = true := by
  rcases numR_cases he lo s with ⟨n, r, _, _, _, e4⟩ | ⟨_, e4⟩ <;> rw [e4]
  · exact h
  · rfl
theorem closeR_keep (e : UInt8) (s : RS) (h : s.bad = true) : (closeR e s).bad = true := by
  rcases closeR_cases e s with ⟨r, _, e2⟩ | ⟨_, e2⟩ <;> rw [e2]
  · exact h
  · rfl
theorem intR_ok2 : Ok2 encI (fun n => -9223372036854775808 ≤ n ∧ inI n) intR := ⟨intR_ok, fun s h => numR_keep (.inl rfl) _ s h⟩
theorem natR_ok2 : Ok2 encI (fun n => 0 ≤ n ∧ inI n) natR := ⟨natR_ok, fun s h => numR_keep (.inl rfl) _ s h⟩
theorem textR_ok2 : Ok2 encT (fun t => t.length ≤ 9223372036854775807) textR := by
  refine ⟨textR_ok, fun s h => ?_⟩
  unfold textR
  simp only
  split
  · rfl
  · exact closeR_keep _ _ (numR_keep (.inr (.inl rfl)) _ s h)
theorem loopR_keep {α : Type} {one : RS → α × RS} (k : Nat) (acc : List α) (s : RS) (h : s.bad = true) : (loopR one k acc s).2.bad = true := by
  cases k with
  | zero => rw [loopR]; exact h
  | succ k => rw [loopR, if_pos h]; exact h
theorem itemsR_ok2 {α : Type} {enc : α → Bs} {good : α → Prop} {one : RS → α × RS} (h : Ok1 enc good one) : Ok2 (encL enc) (fun l => l.length ≤ 9223372036854775807 ∧ ∀ x ∈ l, good x) (itemsR one) := by
  refine ⟨itemsR_ok h, fun s hs => ?_⟩
  unfold itemsR
  exact closeR_keep _ _ (loopR_keep _ _ _ (numR_keep (.inr (.inr rfl)) _ s hs))
theorem intsR_ok2 : Ok2 (encL encI) (fun l => l.length ≤ 9223372036854775807 ∧ ∀ x ∈ l, -9223372036854775808 ≤ x ∧ inI x) intsR := itemsR_ok2 intR_ok
theorem textsR_ok2 : Ok2 (encL encT) (fun l => l.length ≤ 9223372036854775807 ∧ ∀ x ∈ l, x.length ≤ 9223372036854775807) textsR := itemsR_ok2 textR_ok
/-! ### Calls, one after the other; a number of times -/
def thenR {α β : Type} (one : RS → α × RS) (two : RS → β × RS) (s : RS) : (α × β) × RS := (((one s).1, (two (one s).2).1), (two (one s).2).2)
def timesR {α : Type} (one : RS → α × RS) : Nat → List α → RS → List α × RS
  | 0, acc, s => (acc, s)
  | k + 1, acc, s => timesR one k (acc ++ [(one s).1]) (one s).2
/-- A call reads an encoding, or fails for good. -/
structure Rd2 {α : Type} (enc : α → Bs) (good : α → Prop) (one : RS → α × RS) : Prop where
  back : ∀ s : RS, (one s).2.bad = false → s.bad = false ∧ s.rest = enc (one s).1 ++ (one s).2.rest ∧ good (one s).1
  fore : ∀ (x : α) (r : Bs), good x → one ⟨enc x ++ r, false⟩ = (x, ⟨r, false⟩)
theorem intR_rd : Rd2 encI inI intR := ⟨fun s h => by
  obtain ⟨h1, h2, h3⟩ := intR_ok2.back h
  exact ⟨h1, h2, h3.2⟩, fun x r hx => intR_enc hx r false⟩
theorem natR_rd : Rd2 encI (fun n => 0 ≤ n ∧ inI n) natR := ⟨fun s h => natR_ok2.back h, fun x r hx => natR_enc hx.1 hx.2 r false⟩
theorem textR_rd : Rd2 encT (fun t => t.length ≤ 9223372036854775807) textR := ⟨fun s h => textR_ok2.back h, fun x r hx => textR_enc hx r⟩
theorem Rd2.seq {α β : Type} {e1 : α → Bs} {e2 : β → Bs} {g1 : α → Prop} {g2 : β → Prop} {one : RS → α × RS} {two : RS → β × RS} (h1 : Rd2 e1 g1 one) (h2 : Rd2 e2 g2 two) : Rd2 (fun p => e1 p.1 ++ e2 p.2) (fun p => g1 p.1 ∧ g2 p.2) (thenR one two) := by
  refine ⟨fun s h => ?_, fun x r hx => ?_⟩
  · obtain ⟨b1, b2, b3⟩ := h2.back _ h
    obtain ⟨a1, a2, a3⟩ := h1.back _ b1
    refine ⟨a1, ?_, a3, b3⟩
    show s.rest = (e1 (one s).1 ++ e2 (two (one s).2).1) ++ (two (one s).2).2.rest
    rw [a2, b2, List.append_assoc]
  · unfold thenR
    rw [List.append_assoc, h1.fore _ _ hx.1, h2.fore _ _ hx.2]
theorem Rd2.times {α : Type} {enc : α → Bs} {good : α → Prop} {one : RS → α × RS} (h : Rd2 enc good one) : ∀ (k : Nat) (acc : List α) (s : RS), (timesR one k acc s).2.bad = false →
    s.bad = false ∧ ∃ l, l.length = k ∧ (timesR one k acc s).1 = acc ++ l ∧ s.rest = l.flatMap enc ++ (timesR one k acc s).2.rest ∧ ∀ x ∈ l, good x
  | 0, acc, s, hb => ⟨hb, [], rfl, by simp [timesR], by simp [timesR], fun x hx => (by cases hx)⟩
  | k + 1, acc, s, hb => by
    rw [timesR] at hb ⊢
    obtain ⟨h1, l, e1, e2, e3, e4⟩ := Rd2.times h k _ _ hb
    obtain ⟨b1, b2, b3⟩ := h.back _ h1
    refine ⟨b1, (one s).1 :: l, by rw [List.length_cons, e1], by rw [e2]; simp, ?_, fun x hx => ?_⟩
    · rw [List.flatMap_cons, List.append_assoc, ← e3]; exact b2
    · rcases List.mem_cons.1 hx with rfl | hx
      · exact b3
      · exact e4 x hx
theorem Rd2.timesFore {α : Type} {enc : α → Bs} {good : α → Prop} {one : RS → α × RS} (h : Rd2 enc good one) : ∀ (l acc : List α) (r : Bs), (∀ x ∈ l, good x) → timesR one l.length acc ⟨l.flatMap enc ++ r, false⟩ = (acc ++ l, ⟨r, false⟩)
  | [], acc, r, _ => by simp [timesR]
  | x :: l, acc, r, hg => by
    rw [List.length_cons, timesR, List.flatMap_cons, List.append_assoc, h.fore _ _ (hg x List.mem_cons_self)]
    rw [Rd2.timesFore h l _ r fun y hy => hg y (List.mem_cons_of_mem _ hy)]
    simp
theorem timesR_len {α : Type} (one : RS → α × RS) : ∀ (k : Nat) (acc : List α) (s : RS), (timesR one k acc s).1.length = acc.length + k
  | 0, acc, s => by rw [timesR]; rfl
  | k + 1, acc, s => by
    rw [timesR, timesR_len one k, List.length_append, List.length_singleton]; omega
theorem timesR_le {α : Type} {one : RS → α × RS} (h : ∀ s, (one s).2.rest.length ≤ s.rest.length) : ∀ (k : Nat) (acc : List α) (s : RS), (timesR one k acc s).2.rest.length ≤ s.rest.length
  | 0, acc, s => by rw [timesR]; exact Nat.le_refl _
  | k + 1, acc, s => by
    rw [timesR]
    exact Nat.le_trans (timesR_le h k _ _) (h s)
theorem done_end {s : RS} (h : doneR s = true) : s.bad = false ∧ s.rest = [] := by
  unfold doneR at h
  cases hb : s.bad <;> rw [hb] at h
  · exact ⟨rfl, by simpa using h⟩
  · cases h
/-! ### Readers that are sane: one that has failed has nothing left -/
abbrev minI : Int := -9223372036854775808
abbrev Sane (s : RS) : Prop := s.bad = true → s.rest = []
theorem numR_sane {e : UInt8} (he : isEnd e) {lo : Int} {s : RS} (h : Sane s) : Sane (numR e lo s).2 := by
  rcases numR_cases he lo s with ⟨n, r, e1, _, _, e4⟩ | ⟨_, e4⟩ <;> rw [e4]
  · intro hb
    have := h hb
    rw [this] at e1
    exact absurd e1.symm (by simp)
  · exact fun _ => rfl
theorem closeR_sane {e : UInt8} {s : RS} (h : Sane s) : Sane (closeR e s) := by
  rcases closeR_cases e s with ⟨r, e1, e2⟩ | ⟨_, e2⟩ <;> rw [e2]
  · intro hb
    have := h hb
    rw [this] at e1
    cases e1
  · exact fun _ => rfl
theorem sane_drop {s : RS} (h : Sane s) (n : Nat) : Sane ⟨s.rest.drop n, s.bad⟩ := fun hb => by
  show s.rest.drop n = []
  rw [h hb, List.drop_nil]
theorem textR_sane {s : RS} (h : Sane s) : Sane (textR s).2 := by
  have h1 := numR_sane (.inr (.inl rfl) : isEnd 58) (lo := 0) h
  unfold textR
  simp only
  split
  · exact fun _ => rfl
  · exact closeR_sane (sane_drop h1 _)
theorem loopR_sane {α : Type} {one : RS → α × RS} (ho : ∀ s, Sane s → Sane (one s).2) : ∀ (k : Nat) (acc : List α) (s : RS), Sane s → Sane (loopR one k acc s).2
  | 0, acc, s, h => by rw [loopR]; exact h
  | k + 1, acc, s, h => by
    rw [loopR]
    split
    · exact h
    · exact loopR_sane ho k _ _ (ho s h)
theorem itemsR_sane {α : Type} {one : RS → α × RS} (ho : ∀ s, Sane s → Sane (one s).2) {s : RS} (h : Sane s) : Sane (itemsR one s).2 := by
  unfold itemsR
  exact closeR_sane (loopR_sane ho _ _ _ (numR_sane (.inr (.inr rfl)) h))
theorem intR_sane {s : RS} (h : Sane s) : Sane (intR s).2 := numR_sane (.inl rfl) h
theorem natR_sane {s : RS} (h : Sane s) : Sane (natR s).2 := numR_sane (.inl rfl) h
theorem numR_zero {e : UInt8} (he : isEnd e) (s : RS) : numR e 0 s = if (numR e minI s).1 < 0 then (0, failR) else numR e minI s := by
  rcases numR_cases he minI s with ⟨n, r, e1, e2, e3, e4⟩ | ⟨hno, e4⟩ <;> rw [e4]
  · by_cases c : n < 0
    · rw [if_pos c]
      unfold numR
      rw [numS_none.2 fun m r' h1 h2 h3 => ?_]
      rw [e1] at h1
      obtain ⟨h4, _⟩ := split_first (itoa_not he) (itoa_not he) h1
      have := itoa_inj h4
      omega
    · rw [if_neg c]
      unfold numR
      rw [(numS_some he).2 ⟨e1, by omega, e3⟩]
  · rw [if_neg (by decide)]
    unfold numR
    rw [numS_none.2 fun m r' h1 h2 h3 => hno m r' h1 h3.1 h3]
theorem textR_fail {s : RS} {n : Int} {s1 : RS} (hq : numR 58 0 s = (n, s1)) (h : s1.rest = [] ∨ (s1.rest.length : Int) ≤ n) : textR s = ([], failR) := by
  unfold textR
  rw [hq]
  simp only
  by_cases c : (s1.rest.length : Int) < n
  · rw [if_pos c]
  · rw [if_neg c]
    have hd : s1.rest.drop n.toNat = [] := by
      rcases h with h | h
      · rw [h, List.drop_nil]
      · exact List.drop_of_length_le (by omega)
    rw [hd]
    simp [closeR, failR]
/-! ### Lists that are read -/
theorem loopR_all {α : Type} {one : RS → α × RS} {P : α → Prop} {Q : RS → Prop} (h : ∀ s, Q s → P (one s).1 ∧ Q (one s).2) : ∀ (k : Nat) (acc : List α) (s : RS), Q s → (∀ x ∈ acc, P x) → ∀ x ∈ (loopR one k acc s).1, P x
  | 0, acc, s, _, ha => by rw [loopR]; exact ha
  | k + 1, acc, s, hs, ha => by
    rw [loopR]
    split
    · exact ha
    · refine loopR_all h k _ _ (h s hs).2 fun x hx => ?_
      rcases List.mem_append.1 hx with hx | hx
      · exact ha x hx
      · rw [List.mem_singleton.1 hx]; exact (h s hs).1
theorem itemsR_all {α : Type} {one : RS → α × RS} {P : α → Prop} {N : Nat} (h : ∀ s : RS, s.rest.length ≤ N → P (one s).1 ∧ (one s).2.rest.length ≤ N) {s : RS} (hs : s.rest.length ≤ N) : ∀ x ∈ (itemsR one s).1, P x := by
  unfold itemsR
  simp only
  split
  · intro x hx; cases hx
  · exact loopR_all (Q := fun s => s.rest.length ≤ N) h _ _ _ (Nat.le_trans (numR_le (.inr (.inr rfl) : isEnd 91) 0 s).1 hs) fun x hx => by cases hx
theorem itemsR_len {α : Type} {enc : α → Bs} {good : α → Prop} {one : RS → α × RS} (h : Ok1 enc good one) (hne : ∀ x, 0 < (enc x).length) (s : RS) : (itemsR one s).1.length ≤ s.rest.length + 1 := by
  unfold itemsR
  have h1 := (numR_le (.inr (.inr rfl) : isEnd 91) 0 s).1
  have h2 := loopR_le h hne (numR 91 0 s).1.toNat [] (numR 91 0 s).2
  rw [List.length_nil] at h2
  simp only
  split
  · rw [List.length_nil]; omega
  · omega
theorem closeR_le (e : UInt8) (s : RS) : (closeR e s).rest.length ≤ s.rest.length := by
  rcases closeR_cases e s with ⟨r, e1, e2⟩ | ⟨_, e2⟩ <;> rw [e2]
  · rw [e1, List.length_cons]; exact Nat.le_succ _
  · exact Nat.zero_le _
theorem textR_le (s : RS) : (textR s).1.length ≤ s.rest.length ∧ (textR s).2.rest.length ≤ s.rest.length := by
  have h1 := (numR_le (.inr (.inl rfl) : isEnd 58) 0 s).1
  unfold textR
  simp only
  split
  · exact ⟨Nat.zero_le _, Nat.zero_le _⟩
  · have h2 := closeR_le 44 ⟨(numR 58 0 s).2.rest.drop (numR 58 0 s).1.toNat, (numR 58 0 s).2.bad⟩
    have h3 : (⟨(numR 58 0 s).2.rest.drop (numR 58 0 s).1.toNat, (numR 58 0 s).2.bad⟩ : RS).rest.length ≤ (numR 58 0 s).2.rest.length := by
      show ((numR 58 0 s).2.rest.drop _).length ≤ _
      rw [List.length_drop]; omega
    refine ⟨?_, Nat.le_trans h2 (Nat.le_trans h3 h1)⟩
    show (if _ then ([] : Bs) else _).length ≤ _
    split
    · exact Nat.zero_le _
    · rw [List.length_take]; omega
theorem loopR_le2 {α : Type} {one : RS → α × RS} (h : ∀ s, (one s).2.rest.length ≤ s.rest.length) : ∀ (k : Nat) (acc : List α) (s : RS), (loopR one k acc s).2.rest.length ≤ s.rest.length
  | 0, acc, s => by rw [loopR]; exact Nat.le_refl _
  | k + 1, acc, s => by
    rw [loopR]
    split
    · exact Nat.le_refl _
    · exact Nat.le_trans (loopR_le2 h k _ _) (h s)
theorem itemsR_le2 {α : Type} {one : RS → α × RS} (h : ∀ s, (one s).2.rest.length ≤ s.rest.length) (s : RS) : (itemsR one s).2.rest.length ≤ s.rest.length := by
  unfold itemsR
  exact Nat.le_trans (closeR_le _ _) (Nat.le_trans (loopR_le2 h _ _ _) (numR_le (.inr (.inr rfl)) 0 s).1)
theorem intR_le (s : RS) : (intR s).2.rest.length ≤ s.rest.length := (numR_le (.inl rfl) _ s).1
theorem natR_le (s : RS) : (natR s).2.rest.length ≤ s.rest.length := (numR_le (.inl rfl) _ s).1

end Go.Proofs.YtefinemhfgdpdaaGreatDoor
