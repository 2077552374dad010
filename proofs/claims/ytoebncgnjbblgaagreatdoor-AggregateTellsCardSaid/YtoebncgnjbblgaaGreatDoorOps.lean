/-
  The operations of the model by their values, as the reckoned conditions of this seat name them. No condition.
-/
import Derived.Test.YtoebncgnjbblgaaGreatDoorCore
import Derived.KernelRfl
namespace Go.Proofs.YtoebncgnjbblgaaGreatDoor

def vN (s : Sem Value) : Sem Next := do pure (.value (← s))
def uN (s : Sem Unit) : Sem Next := do s; pure .skip

def sBin (op : BinOp) (T : TypeId) (xo yo : Operand) (x y : Value) : Sem Next := vN (do eqGuard op T xo yo x y; binOp op T x y)
def sUn (op : UnOp) (x : Value) : Sem Next := vN (Op.unary op x)
def sLoad (T : TypeId) (a : Value) : Sem Next := vN (Instr.loadAt T a)
def sStore (T : TypeId) (a v : Value) : Sem Next := uN (Instr.storeAt T a v)
def sNil (x : Value) : Sem Next := execOp (fun _ => x) ⟨none, .nilCheck (.tmp 0), 0, "", #[], none⟩
def sField (T : TypeId) (x : Value) (f : Nat) : Sem Next := vN (Instr.field T x f)
def sFieldAddr (T : TypeId) (x : Value) (f : Nat) : Sem Next := vN (Instr.fieldAt T x f)
def sIdxAddr (T : TypeId) (x i : Value) : Sem Next := vN (Instr.indexAt T x i)
def sIdx (T : TypeId) (x i : Value) : Sem Next := vN (Instr.index T x i)
def sExtract (t : Value) (i : Nat) : Sem Next := vN (Instr.extract t i)
def sSlice (T : TypeId) (x : Value) (lo hi mx : Option Value) : Sem Next := vN (Instr.sliceAt T x lo hi mx)
def sAlloc (T : TypeId) : Sem Next := vN (Instr.alloc T true (.tuple #[]))
def sBox (T : TypeId) (v : Value) : Sem Next := vN (Instr.box T v)
def sBuild (T : TypeId) (ps : Array (Nat × Value)) : Sem Next := vN (Instr.build T ps)
def sBuildSlice (T : TypeId) (n : Nat) (ps : Array (Nat × Value)) : Sem Next := vN (Instr.buildSlice T n ps)
def sConv (S D : TypeId) (x : Value) : Sem Next := vN (convert S D x)
def sMkIface (T : TypeId) (x : Value) : Sem Next := vN (Instr.makeInterface T x)
def sMkFunc (fn : Fn) (a b : Array Value) : Sem Next := vN (Instr.makeFunc fn a b)
def sMkMap (T : TypeId) (r : Option Value) : Sem Next := vN (Instr.makeMap T r)
def sMkSlice (T : TypeId) (l c : Value) : Sem Next := vN (Instr.makeSlice T l c)
def sLookup (T : TypeId) (x i : Value) (ok : Bool) : Sem Next := vN (Instr.lookup T x i ok)
def sMapUpd (T : TypeId) (m k x : Value) : Sem Next := uN (Instr.mapUpdate T m k x)
def sEntry (it : Value) : Sem Next := vN (Instr.entry it)
def sMapEntry (T : TypeId) (m k : Value) : Sem Next := vN (Instr.mapEntry T m k)
def sEntryStore (T : TypeId) (m s x : Value) : Sem Next := uN (Instr.entryStore T m s x)
def sRange (T : TypeId) (x : Value) : Sem Next := vN (Instr.range T x)
def sNext (it : Value) (s : Bool) (T : TypeId) : Sem Next := vN (Instr.next it s T)
def sTypeAssert (x : Value) (T U : TypeId) (ok : Bool) : Sem Next := vN (Instr.typeAssert x T U ok)
def sCall (f : FuncId) (args : Array Value) : Sem Next := callFunc f args
def sCallV (v : Value) (args : Array Value) : Sem Next := do let d ← Deferred.ofValue v args; invoke d.target d.args
def sInvoke (x : Value) (name : String) (args : Array Value) : Sem Next := invoke (.fn (.method name) #[]) (#[x] ++ args)
def sBlt (b : Builtin) (ts : Array TypeId) (T : TypeId) (cs : Array Bool) (args : Array Value) : Sem Next := builtin b ts T cs args

def bodyOf (fn : Func) : Code := match fn.body with
  | some c => c
  | none => .skip

theorem up_call {P : Program} {f : FuncId} {fn : Func} {args : Array Value} {w : World} {K : Value → World → Prop} (hf : P.funcs[f]? = some fn)
    (hb : fn.body.isNone = false) (hn : (fn.name == "runtime.NumGoroutine") = false) (h : Calls P f args w (retK K)) : upK P (sCall f args) w K := by
  unfold upK sCall callFunc
  have : (program).run P w = .ok P w := rfl
  rw [Sem.run_bind, this]
  simp only [Result.andThen_ok, hf, hn, hb, Bool.false_eq_true, if_false]
  exact h

end Go.Proofs.YtoebncgnjbblgaaGreatDoor
