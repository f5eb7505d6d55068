/-
  A part of the proof that an abstract machine, which runs a program without orders, room or tape, says what the model does. No condition beside what each theorem states.
-/
import Derived.Test.YtjgejncgeklanaaDoorAmBase
namespace Go.Am
open Go

inductive V where
  | bool (b : Bool)
  | int (k : IntKind) (n : Int)
  | str (s : List Nat)
  | ptr (a : Option (Nat × Nat))
  /-- ex: 'none': the capacity is just that; 'some e': at least that, of elements of e cells -/
  | slice (a : Option (Nat × Nat)) (len cap : Nat) (ex : Option Nat)
  | map (r : Option Nat)
  | func (fn : Fn) (first captured : List V)
  | nilFunc
  | iface (t : TypeId) (v : V)
  | nilIface
  | agg (cs : List V)
  | tuple (vs : List V)
  deriving Inhabited

def vundef : V := .tuple []
def V.cells : V → List V
  | .agg cs => cs
  | v => [v]
/-- may it lie in one cell? -/
def V.one : V → Bool
  | .agg _ | .tuple _ => false
  | _ => true

inductive ADef where
  | call (f : FuncId) (args : List V)
  | collected (D : Nat)
  deriving Inhabited

structure ALoop where
  state : LoopState
  pending : Option Code
  nt : Nat
  tmps : PT V
  params : Array Tmp
  assign : Code
  body : Code
  defers : Nat
  deriving Inhabited

inductive AObj where
  | cells (c : List V) (own : Bool) (grp : Option Nat)
  /-- which block of the group is good -/
  | grp (cur : Nat)
  | map (es : List (V × V × Nat)) (clock : Nat)
  | strIter (s : List Nat) (pos : Nat)
  | mapIter (m : Option Nat) (since : Nat) (seen : List Nat) (last : Nat)
  | loop (l : ALoop)
  /-- the deferred calls of a range over a function: none yet (true), taken (false) -/
  | deferred (empty : Bool)
  deriving Inhabited

structure AH where
  next : Nat
  m : PT AObj
  /-- the package-level variables with numbers below are known -/
  ng : Nat
  deriving Inhabited

def AH.get (H : AH) (b : Nat) : Option AObj := H.m.get b
def AH.put (H : AH) (b : Nat) (o : AObj) : AH := ⟨H.next, H.m.set b o, H.ng⟩
def AH.push (H : AH) (o : AObj) : AH := ⟨H.next + 1, H.m.set H.next o, H.ng⟩

inductive RecSt where
  | no | can (v : V) | done
  deriving Inhabited

structure St where
  tmps : PT V
  nt : Nat
  H : AH
  defers : List ADef
  rc : RecSt
  deriving Inhabited

mutual
def ofVal : Nat → Value → Option V
  | 0, _ => none
  | n + 1, v => match v with
    | .bool b => some (.bool b)
    | .int k i => some (.int k i)
    | .string s => some (.str (s.data.toList.map UInt8.toNat))
    | .pointer none => some (.ptr none)
    | .slice none 0 0 => some (.slice none 0 0 none)
    | .map none => some (.map none)
    | .func (.func f) a b => match ofVals n a.toList, ofVals n b.toList with
      | some a, some b => some (.func (.func f) a b)
      | _, _ => none
    | .nilFunc => some .nilFunc
    | .nilIface => some .nilIface
    | .iface t v => match ofVal n v with | some v => some (.iface t v) | none => none
    | .agg cs => match ofVals n cs.toList with | some l => some (.agg l) | none => none
    | .tuple cs => match ofVals n cs.toList with | some l => some (.tuple l) | none => none
    | _ => none
def ofVals : Nat → List Value → Option (List V)
  | _, [] => some []
  | n, v :: l => match ofVal n v, ofVals n l with
    | some v, some l => some (v :: l)
    | _, _ => none
end

def aeval (ng : Nat) (tm : PT V) : Operand → Option V
  | .tmp t => some ((tm.get t).getD vundef)
  | .const v => ofVal 20 v
  | .global g => if g < ng then some (.ptr (some (g, 0))) else none
  | .func f => some (.func (.func f) [] [])

/-! ### the heap -/
/-- is a block of that group good? -/
def AH.valid (H : AH) (b : Nat) : Option Nat → Bool
  | none => true
  | some g => match H.get g with
    | some (.grp cur) => Nat.beq cur b
    | _ => false
/-- the cells of a block that may be read -/
def AH.read (H : AH) (b : Nat) : Option (List V) :=
  match H.get b with
  | some (.cells c _ g) => if H.valid b g then some c else none
  | _ => none
def AH.load1 (H : AH) (b o : Nat) : Option V := (H.read b).bind fun c => c[o]?
def AH.loadN (H : AH) (b o n : Nat) : Option (List V) := (H.read b).bind fun c => if o + n ≤ c.length then some ((c.drop o).take n) else none
def AH.store1 (H : AH) (b o : Nat) (v : V) : Option AH :=
  match H.get b with
  | some (.cells c true g) =>
    if H.valid b g && v.one && Nat.blt o c.length then some (H.put b (.cells (c.set o v) true g)) else none
  | _ => none
def AH.storeN (H : AH) (b o : Nat) : List V → Option AH
  | [] => some H
  | v :: vs => (H.store1 b o v).bind fun H => H.storeN b (o + 1) vs

/-! ### types -/
def isAggT (P : Program) (t : TypeId) : Option Bool := match P.underlying t with
  | some (.struct _) | some (.array _ _) => some true
  | some _ => some false
  | none => none
def sizeT (P : Program) (t : TypeId) : Option Nat := (P.info? t).map (·.size)
def bytesT (P : Program) (t : TypeId) : Option Nat := (P.info? t).map (·.bytes)
def zeroT (P : Program) (t : TypeId) : Option V := ((P.info? t).bind (·.zero)).bind (ofVal 20)

/-- what an operation comes to -/
inductive Nx where
  /-- a value; nothing turns -/
  | pv (v : V)
  /-- a new block, and a value of its number -/
  | new (o : AObj) (mk : Nat → V)
  /-- a value, and another heap -/
  | eff (v : V) (H : AH)
  | call (f : FuncId) (args : List V)
  | round (l : Nat) (args : List V)
  | defer (d : ADef)
  | recover
  | panic (v : V)

def rtErr (P : Program) (m : String) : V := .iface P.rt.errorString (.str (m.toUTF8.data.toList.map UInt8.toNat))
def nilDeref (P : Program) : Nx := .panic (rtErr P "invalid memory address or nil pointer dereference")

def intBin (P : Program) (op : BinOp) (k : IntKind) (a b : Int) : Option Nx :=
  match op with
  | .add => some (.pv (.int k (k.wrap (a + b))))
  | .sub => some (.pv (.int k (k.wrap (a - b))))
  | .mul => some (.pv (.int k (k.wrap (a * b))))
  | .quo => if b = 0 then some (.panic (rtErr P "integer divide by zero")) else some (.pv (.int k (k.wrap (a.tdiv b))))
  | .rem => if b = 0 then some (.panic (rtErr P "integer divide by zero")) else some (.pv (.int k (a.tmod b)))
  | .and => some (.pv (.int k (k.wrap (BitVec.ofInt k.bits a &&& BitVec.ofInt k.bits b).toNat)))
  | .or => some (.pv (.int k (k.wrap (BitVec.ofInt k.bits a ||| BitVec.ofInt k.bits b).toNat)))
  | .xor => some (.pv (.int k (k.wrap (BitVec.ofInt k.bits a ^^^ BitVec.ofInt k.bits b).toNat)))
  | .andNot => some (.pv (.int k (k.wrap (BitVec.ofInt k.bits a &&& ~~~ (BitVec.ofInt k.bits b)).toNat)))
  | .eql => some (.pv (.bool (a == b)))
  | .neq => some (.pv (.bool (a != b)))
  | .lss => some (.pv (.bool (a < b)))
  | .leq => some (.pv (.bool (a ≤ b)))
  | .gtr => some (.pv (.bool (a > b)))
  | .geq => some (.pv (.bool (a ≥ b)))
  | .shl => none
  | .shr => none

def shiftBin (P : Program) (left : Bool) (k : IntKind) (a b : Int) : Nx :=
  if b < 0 then .panic (rtErr P "negative shift amount")
  else .pv (.int k (if left then k.wrap (a * 2 ^ (min b.toNat k.bits)) else a.fdiv (2 ^ (min b.toNat k.bits))))

def ltL : List Nat → List Nat → Bool
  | _, [] => false
  | [], _ :: _ => true
  | a :: l, b :: r => a < b || (a == b && ltL l r)

/-- may values of that type be held against each other cell by cell? -/
def flatT (P : Program) : Nat → TypeId → Bool
  | 0, _ => false
  | d + 1, t => match P.underlying t with
    | some .bool | some (.int _) | some .string => true
    | some (.struct fs) => !(P.stoodInHeld t) && fs.toList.all fun f => f.name != "_" && flatT P d f.type
    | some (.array _ e) => flatT P d e
    | _ => false

def eq1 : V → V → Option Bool
  | .bool a, .bool b => some (a == b)
  | .int j a, .int k b => if j = k then some (a == b) else none
  | .str a, .str b => some (a == b)
  | .ptr none, .ptr b => some b.isNone
  | .ptr (some _), .ptr none => some false
  | .nilIface, .iface _ _ | .iface _ _, .nilIface => some false
  | .slice none _ _ _, .slice b _ _ _ => some b.isNone
  | .slice (some _) _ _ _, .slice none _ _ _ => some false
  | .map none, .map b => some b.isNone
  | .map (some _), .map none => some false
  | .nilFunc, .nilFunc => some true
  | .nilFunc, .func _ _ _ | .func _ _ _, .nilFunc => some false
  | _, _ => none
end Go.Am
