/-
  A part of the proof that an abstract machine, which runs a program without orders, room or tape, says what the model does. No condition beside what each theorem states.
-/
import Derived.Test.YtjgejncgeklanaaDoorAmSpec
namespace Go.Am
open Go

/-! ### what operations do -/

def evalAll (ng : Nat) (tm : PT V) : List Operand → Option (List V)
  | [] => some []
  | x :: r => match aeval ng tm x, evalAll ng tm r with
    | some v, some l => some (v :: l)
    | _, _ => none
def evalParts (ng : Nat) (tm : PT V) : List (Nat × Operand) → Option (List (Nat × V))
  | [] => some []
  | (i, x) :: r => match aeval ng tm x, evalParts ng tm r with
    | some v, some l => some ((i, v) :: l)
    | _, _ => none

/-- the list with 'vs' in the place of what stands from o on -/
def putL : List V → Nat → List V → List V
  | c, _, [] => c
  | c, o, v :: vs => putL (c.set o v) (o + 1) vs
def fillV (place : Nat → Option (Nat × Nat)) : List V → List (Nat × V) → Option (List V)
  | c, [] => some c
  | c, (i, v) :: r => match place i with
    | some (off, size) => if v.cells.length = size ∧ off + v.cells.length ≤ c.length then fillV place (putL c off v.cells) r else none
    | none => none
def structPlaces (P : Program) : List Field → Option (List (Nat × Nat))
  | [] => some []
  | f :: r => match sizeT P f.type, structPlaces P r with
    | some n, some l => some ((f.offset, n) :: l)
    | _, _ => none
def repL (z : List V) : Nat → List V
  | 0 => []
  | n + 1 => z ++ repL z n

/-- an element of a type out of cells -/
def partV (P : Program) (t : TypeId) (cs : List V) (off : Nat) : Option V :=
  match isAggT P t, sizeT P t with
  | some true, some n => if off + n ≤ cs.length then some (.agg ((cs.drop off).take n)) else none
  | some false, _ => cs[off]?
  | _, _ => none

def oAlloc (P : Program) (t : TypeId) : Option Nx := (zeroT P t).map fun z => .new (.cells z.cells true none) fun b => .ptr (some (b, 0))
def oBox (x : V) : Nx := .new (.cells x.cells true none) fun b => .ptr (some (b, 0))
def oBuild (P : Program) (t : TypeId) (ps : List (Nat × V)) : Option Nx :=
  match zeroT P t, P.underlying t with
  | some z, some (.struct fs) => (structPlaces P fs.toList).bind fun pl => (fillV (pl[·]?) z.cells ps).map fun c => .pv (.agg c)
  | some z, some (.array _ e) => (sizeT P e).bind fun size => (fillV (fun i => some (i * size, size)) z.cells ps).map fun c => .pv (.agg c)
  | _, _ => none
def oBuildSlice (P : Program) (t : TypeId) (len : Nat) (ps : List (Nat × V)) : Option Nx :=
  match P.underlying t with
  | some (.slice e) => match sizeT P e, zeroT P e with
    | some size, some z => if len * size ≤ 16777216 ∧ z.cells.length = size ∧ 0 < size then (fillV (fun i => some (i * size, size)) (repL z.cells len) ps).map fun c =>
        .new (.cells c true none) fun b => .slice (some (b, 0)) len len none
      else none
    | _, _ => none
  | _ => none
def oLoad (P : Program) (H : AH) (t : TypeId) (a : V) : Option Nx :=
  match a with
  | .ptr (some (b, o)) => match isAggT P t, sizeT P t with
    | some true, some n => (H.loadN b o n).map fun l => .pv (.agg l)
    | some false, _ => (H.load1 b o).map .pv
    | _, _ => none
  | _ => none
def oStore (P : Program) (H : AH) (t : TypeId) (a v : V) : Option Nx :=
  match a with
  | .ptr (some (b, o)) => match sizeT P t with
    | some n => if v.cells.length = n then (H.storeN b o v.cells).map fun H => .eff vundef H else none
    | none => none
  | _ => none
def oNilCheck (P : Program) (v : V) : Option Nx :=
  match v with
  | .ptr none | .nilIface | .nilFunc => some (nilDeref P)
  | .func (.method _) _ _ => none
  | v => some (.pv v)

def isConst : Operand → Bool
  | .const _ => true
  | _ => false

mutual
def aeqIn (P : Program) : Nat → TypeId → V → V → Option Bool
  | 0, _, _, _ => none
  | d + 1, t, x, y =>
    match P.underlying t, x, y with
    | some .bool, .bool a, .bool b => some (a == b)
    | some (.int _), .int k a, .int k' b => if k = k' then some (a == b) else none
    | some .string, .str a, .str b => some (a == b)
    | some (.pointer _), .ptr none, .ptr b => some b.isNone
    | some (.pointer _), .ptr (some _), .ptr none => some false
    | some (.pointer e), .ptr (some p), .ptr (some q) => if p.1 = q.1 ∧ (sizeT P e).any (· ≠ 0) then some (p.2 == q.2) else none
    | some (.interface _), .nilIface, .nilIface => some true
    | some (.interface _), .nilIface, .iface _ _ => some false
    | some (.interface _), .iface _ _, .nilIface => some false
    | some (.interface _), .iface tx vx, .iface ty vy => if tx ≠ ty then some false else
        match P.info? tx with
        | some i => if i.comparable then aeqIn P d tx vx vy else none
        | none => none
    | some (.struct fs), .agg xs, .agg ys => if P.stoodInHeld t then none else aeqFields P d fs.toList xs ys
    | some (.array n e), .agg xs, .agg ys => (sizeT P e).bind fun size => aeqElems P d e size xs ys n 0
    | some (.slice _), .slice none _ _ _, .slice b _ _ _ => some b.isNone
    | some (.slice _), .slice (some _) _ _ _, .slice none _ _ _ => some false
    | some (.map _ _), .map none, .map b => some b.isNone
    | some (.map _ _), .map (some _), .map none => some false
    | some (.func _ _ _), .nilFunc, .nilFunc => some true
    | some (.func _ _ _), .nilFunc, .func _ _ _ => some false
    | some (.func _ _ _), .func _ _ _, .nilFunc => some false
    | _, _, _ => none
def aeqFields (P : Program) : Nat → List Field → List V → List V → Option Bool
  | _, [], _, _ => some true
  | d, f :: fs, xs, ys =>
    if f.name ≠ "_" then
      match partV P f.type xs f.offset, partV P f.type ys f.offset with
      | some a, some b => match aeqIn P d f.type a b with
        | some true => aeqFields P d fs xs ys
        | some false => some false
        | none => none
      | _, _ => none
    else aeqFields P d fs xs ys
def aeqElems (P : Program) : Nat → TypeId → Nat → List V → List V → Nat → Nat → Option Bool
  | _, _, _, _, _, 0, _ => some true
  | d, e, size, xs, ys, k + 1, i =>
    match partV P e xs (i * size), partV P e ys (i * size) with
    | some a, some b => match aeqIn P d e a b with
      | some true => aeqElems P d e size xs ys k (i + 1)
      | some false => some false
      | none => none
    | _, _ => none
end

/-- '==' and '!=' but on numbers and texts; cst: one of the operands is a constant -/
def aequal (P : Program) (cst : Bool) (t : TypeId) (x y : V) : Option Bool :=
  match x, y with
  | .nilIface, .nilIface => if cst then aeqIn P 10000 t x y else none
  | .agg _, .agg _ => if P.eqGuardType P.depth t then none else aeqIn P 10000 t x y
  | .tuple _, _ => none
  | _, .tuple _ => none
  | x, y => aeqIn P 10000 t x y

def strBin (op : BinOp) (a b : List Nat) : Option Nx :=
  match op with
  | .add => if a.length + b.length ≤ 4611686018427387904 then some (.pv (.str (a ++ b))) else none
  | .eql => some (.pv (.bool (a == b)))
  | .neq => some (.pv (.bool (!(a == b))))
  | .lss => some (.pv (.bool (ltL a b)))
  | .leq => some (.pv (.bool (ltL a b || a == b)))
  | .gtr => some (.pv (.bool (!(ltL a b || a == b))))
  | .geq => some (.pv (.bool (!(ltL a b))))
  | _ => none

def oBin (P : Program) (op : BinOp) (cst : Bool) (t : TypeId) (x y : V) : Option Nx :=
  match op, x, y with
  | .shl, .int k a, .int _ b => some (shiftBin P true k a b)
  | .shr, .int k a, .int _ b => some (shiftBin P false k a b)
  | op, .int k a, .int k' b => if k = k' then intBin P op k a b else none
  | op, .str a, .str b => strBin op a b
  | .eql, x, y => (aequal P cst t x y).map fun b => .pv (.bool b)
  | .neq, x, y => (aequal P cst t x y).map fun b => .pv (.bool (!b))
  | _, _, _ => none

def oUn (op : UnOp) (x : V) : Option Nx :=
  match op, x with
  | .neg, .int k n => some (.pv (.int k (k.wrap (0 - n))))
  | .xor, .int k n => some (.pv (.int k (k.wrap (BitVec.ofInt k.bits (if k.signed then -1 else k.max) ^^^ BitVec.ofInt k.bits n).toNat)))
  | .not, .bool b => some (.pv (.bool (!b)))
  | _, _ => none

def bytesV (s : List Nat) : List V := s.map fun (n : Nat) => .int .u8 (n : Int)
def vbytes : List V → Option (List Nat)
  | [] => some []
  | .int .u8 (.ofNat n) :: r => if n < 256 then (vbytes r).map (n :: ·) else none
  | _ => none

/-- a new array of a new group: what was there, and what comes -/
def AH.growNew (H : AH) (c : List V) : AH := (H.push (.grp (H.next + 1))).push (.cells c true (some H.next))
def AH.growAt (H : AH) (g : Nat) (c : List V) : AH := (H.put g (.grp H.next)).push (.cells c true (some g))

def oConvert (P : Program) (H : AH) (src dst : TypeId) (x : V) : Option Nx :=
  match P.underlying src, P.underlying dst, x with
  | some _, some (.int k), .int _ n => some (.pv (.int k (k.wrap n)))
  | some _, some .string, .str s => some (.pv (.str s))
  | some _, some (.slice e), .str s => match P.underlying e with
    | some (.int .u8) => if s.length ≤ 4611686018427387904 ∧ sizeT P e = some 1 then some (.eff (.slice (some (H.next + 1, 0)) s.length s.length (some 1)) (H.growNew (bytesV s))) else none
    | _ => none
  | some (.slice e), some .string, .slice a len _ _ => match P.underlying e with
    | some (.int .u8) => match a with
      | none => some (.pv (.str []))
      | some (b, o) => (H.loadN b o len).bind fun l => (vbytes l).map fun s => .pv (.str s)
    | _ => none
  | _, _, _ => none

def asNat (v : V) (y : Nat) : Option Nat := match v with
  | .int _ n => if 0 ≤ n ∧ n ≤ y then some n.toNat else none
  | _ => none
def optNat (v : Option V) (d y : Nat) : Option Nat := match v with
  | none => some d
  | some v => asNat v y

def oSlice (P : Program) (t : TypeId) (x : V) (lo hi mx : Option V) : Option Nx :=
  match P.underlying t, x with
  | some .string, .str s =>
    if mx.isSome then none else
    (optNat hi s.length s.length).bind fun h => (optNat lo 0 h).map fun l => .pv (.str ((s.drop l).take (h - l)))
  | some (.slice e), .slice a len cap ex =>
    (sizeT P e).bind fun size => (optNat mx cap cap).bind fun m => (optNat hi len m).bind fun h => (optNat lo 0 h).bind fun l =>
      if (ex.all (· == size)) then
        if mx.isSome then some (.pv (.slice (if m = l then a else a.map fun p => (p.1, p.2 + l * size)) (h - l) (m - l) none))
        else if m = l ∧ ex.isSome then none   -- whether the place moves hangs on the capacity
        else some (.pv (.slice (if m = l then a else a.map fun p => (p.1, p.2 + l * size)) (h - l) (m - l) ex))
      else none
  | some (.array n e), .ptr (some p) =>
    (sizeT P e).bind fun size => (optNat mx n n).bind fun m => (optNat hi n m).bind fun h => (optNat lo 0 h).map fun l =>
      .pv (.slice (some (p.1, if m = l then p.2 else p.2 + l * size)) (h - l) (m - l) none)
  | _, _ => none

def AH.oldCells (H : AH) (a : Option (Nat × Nat)) (k : Nat) : Option (List V) :=
  match a with
  | none => some []
  | some p => H.loadN p.1 p.2 k
/-- append: n elements, whose cells are 'new' -/
def oAppend (P : Program) (H : AH) (e : TypeId) (a : Option (Nat × Nat)) (len cap : Nat) (ex : Option Nat) (n : Nat) (new : List V) : Option Nx :=
  match sizeT P e, bytesT P e, zeroT P e with
  | some size, some bytes, some z =>
    if z.cells.length = size ∧ new.length = n * size then
    if len + n ≤ cap then
      match a with
      | none => some (.pv (.slice none len cap ex))
      | some (b, o) => (H.storeN b (o + len * size) new).map fun H => .eff (.slice a (len + n) cap ex) H
    else if (len + n) * bytes ≤ 1000000000000 ∧ 1 ≤ bytes ∧ len + n ≤ 1000000000000 then
      (H.oldCells a (len * size)).bind fun old =>
        match ex with
        | none => some (.eff (.slice (some (H.next + 1, 0)) (len + n) (len + n) (some size)) (H.growNew (old ++ new)))
        | some e' => match a with
          | some (b, o) => match H.get b with
            | some (.cells _ true (some g)) => if e' = size ∧ H.valid b (some g) = true ∧ new.all V.one then
                some (.eff (.slice (some (H.next, 0)) (len + n) (len + n) (some size)) (H.growAt g (old ++ new))) else none
            | _ => none
          | none => none
    else none
    else none
  | _, _, _ => none

def oLen (P : Program) (H : AH) (t : TypeId) (x : V) : Option Nx :=
  match P.underlying t, x with
  | some .string, .str s => some (.pv (.int .i64 s.length))
  | some (.array n _), _ => some (.pv (.int .i64 n))
  | some (.pointer arr), _ => match P.underlying arr with
    | some (.array n _) => some (.pv (.int .i64 n))
    | _ => none
  | some (.slice _), .slice _ n _ _ => some (.pv (.int .i64 n))
  | some (.map _ _), .map none => some (.pv (.int .i64 0))
  | some (.map _ _), .map (some r) => match H.get r with
    | some (.map es _) => some (.pv (.int .i64 es.length))
    | _ => none
  | _, _ => none

def appendBuiltin (P : Program) (H : AH) (t xt : TypeId) (s x : V) : Option Nx :=
  match P.underlying t, s, P.underlying xt with
  | some (.slice e), .slice a len cap ex, some xd =>
    match xd, x with
    | .int _, .int _ n => if 0 ≤ n ∧ n ≤ 1000000000 then
        (zeroT P e).bind fun z => if (sizeT P e).any (· = z.cells.length) ∧ (bytesT P e).any (fun b => n.toNat * b ≤ 1000000000000) then oAppend P H e a len cap ex n.toNat (repL z.cells n.toNat) else none
      else none
    | .string, .str l => if sizeT P e = some 1 then oAppend P H e a len cap ex l.length (bytesV l) else none
    | .slice _, .slice none n _ _ => oAppend P H e a len cap ex n []
    | .slice _, .slice (some (b, o)) n _ _ => (sizeT P e).bind fun size => (H.loadN b o (n * size)).bind fun c => oAppend P H e a len cap ex n c
    | _, _ => none
  | _, _, _ => none

def copyTo (H : AH) (a : Option (Nat × Nat)) (n : Nat) (src : List V) : Option Nx :=
  match a with
  | none => some (.pv (.int .i64 (n : Int)))
  | some p => (H.storeN p.1 p.2 src).map fun H => .eff (.int .i64 (n : Int)) H
def copyBuiltin (P : Program) (H : AH) (t : TypeId) (d x : V) : Option Nx :=
  match P.underlying t, d with
  | some (.slice e), .slice a dl _ _ =>
    (sizeT P e).bind fun size =>
    match x with
    | .str l => if size = 1 then copyTo H a (Nat.min l.length dl) (bytesV (l.take (Nat.min l.length dl))) else none
    | .slice none n _ _ => copyTo H a (Nat.min n dl) []
    | .slice (some p) n _ _ => (H.loadN p.1 p.2 (Nat.min n dl * size)).bind fun c => copyTo H a (Nat.min n dl) c
    | _ => none
  | _, _ => none

def findK (P : Program) (kt : TypeId) (k : V) : List (V × V × Nat) → Nat → Option (Option (Nat × V))
  | [], _ => some none
  | (k', v, _) :: r, i => match aeqIn P 10000 kt k k' with
    | some true => some (some (i, v))
    | some false => findK P kt k r (i + 1)
    | none => none
/-- keys that a map may be asked for: no interface in them -/
def keyOk (P : Program) : Nat → TypeId → V → Bool
  | 0, _, _ => false
  | d + 1, t, k => match P.underlying t with
    | some .bool | some (.int _) | some .string => true
    | some (.array n e) => match k, sizeT P e with
      | .agg cs, some size => (List.range n).all fun i => (partV P e cs (i * size)).any (keyOk P d e)
      | _, _ => false
    | _ => false
/-- the same, sign by sign -/
def same1 : V → V → Bool
  | .bool a, .bool b => a == b
  | .int j a, .int k b => j == k && a == b
  | .str a, .str b => a == b
  | _, _ => false
def sameV : V → V → Bool
  | .agg a, .agg b => a.length == b.length && (a.zip b).all fun p => same1 p.1 p.2
  | a, b => same1 a b

def oMapPut (P : Program) (H : AH) (t : TypeId) (m k v : V) : Option Nx :=
  match P.underlying t, m with
  | some (.map kt _), .map (some r) => match H.get r with
    | some (.map es clock) => if keyOk P 5 kt k then
        match findK P kt k es 0 with
        | some (some (i, _)) => match es[i]? with
          | some (k', _, born) => if sameV k' k then some (.eff vundef (H.put r (.map (es.set i (k, v, born)) clock))) else none
          | none => none
        | some none => some (.eff vundef (H.put r (.map (es ++ [(k, v, clock)]) (clock + 1))))
        | none => none
      else none
    | _ => none
  | _, _ => none

def oLookup (P : Program) (H : AH) (t : TypeId) (x ix : V) (ok : Bool) : Option Nx :=
  match P.underlying t with
  | some (.map kt e) => if keyOk P 5 kt ix then
    (match x with
     | .map none => some none
     | .map (some r) => match H.get r with
       | some (.map es _) => findK P kt ix es 0
       | _ => none
     | _ => none).bind fun r =>
    match r with
    | some (_, v) => some (.pv (if ok then .tuple [v, .bool true] else v))
    | none => (zeroT P e).map fun z => .pv (if ok then .tuple [z, .bool false] else z)
    else none
  | _ => none

def minV (mx : Bool) : V → V → Option V
  | .int k a, .int _ b => some (.int k (if mx then (if b > a then b else a) else (if b < a then b else a)))
  | _, _ => none
def foldMin (mx : Bool) : V → List V → Option V
  | v, [] => some v
  | v, w :: r => (minV mx v w).bind fun v => foldMin mx v r

def oBuiltin (P : Program) (H : AH) (b : Builtin) (ats : Array TypeId) (args : List V) : Option Nx :=
  match b, args with
  | .len, [x] => (ats[0]?).bind fun t => oLen P H t x
  | .cap, [.slice _ _ c none] => (ats[0]?).bind fun t => match P.underlying t with
    | some (.slice _) => some (.pv (.int .i64 c))
    | _ => none
  | .append, [s, x] => (ats[0]?).bind fun t => (ats[1]?).bind fun xt => appendBuiltin P H t xt s x
  | .copy, [d, x] => (ats[0]?).bind fun t => copyBuiltin P H t d x
  | .min, v :: r => (foldMin false v r).map .pv
  | .max, v :: r => (foldMin true v r).map .pv
  | .recover, [] => some .recover
  | .panic, [.iface t v] => some (.panic (.iface t v))
  | _, _ => none

/-- the method's function, whether its receiver is a pointer, and whether the type is a pointer -/
def methodOf (P : Program) (t : TypeId) (name : String) : Option (FuncId × Bool × Bool) :=
  (P.info? t).bind fun i => (i.methods.find? (·.name == name)).bind fun m => m.func.bind fun f =>
    if m.path.isEmpty then (P.underlying t).map fun d => (f.1, f.2, match d with | .pointer _ => true | _ => false) else none

def oCallFunc (P : Program) (f : FuncId) (args : List V) : Option Nx :=
  match P.funcs[f]? with
  | some fn => if fn.body.isSome && fn.name != "runtime.NumGoroutine" then some (.call f args) else none
  | none => none
def oCallMethod (P : Program) (recv : V) (name : String) (args : List V) : Option Nx :=
  match recv with
  | .iface t v => (methodOf P t name).bind fun (f, pr, isP) =>
    if isP == pr then oCallFunc P f (v :: args) else none
  | .nilIface => some (nilDeref P)
  | _ => none
def oCall (P : Program) (tm : PT V) (H : AH) (c : Call) : Option Nx :=
  (evalAll H.ng tm c.args.toList).bind fun args => match c.callee with
    | .builtin b => oBuiltin P H b c.argTypes args
    | .invoke r name => (aeval H.ng tm r).bind fun r => oCallMethod P r name args
    | .value f => (aeval H.ng tm f).bind fun f => match f with
      | .func (.func f) first cap => oCallFunc P f (first ++ args ++ cap)
      | .func (.yield l) [] [] => some (.round l args)
      | .func (.method name) [r] [] => oCallMethod P r name args
      | .nilFunc => some (nilDeref P)
      | _ => none

def oIndexAddr (P : Program) (t : TypeId) (x ix : V) : Option Nx :=
  match ix with
  | .int _ i => match P.underlying t, x with
    | some (.array n e), .ptr (some p) => if 0 ≤ i ∧ i < n then (sizeT P e).map fun size => .pv (.ptr (some (p.1, p.2 + i.toNat * size))) else none
    | some (.slice e), .slice (some p) len _ _ => if 0 ≤ i ∧ i < len then (sizeT P e).map fun size => .pv (.ptr (some (p.1, p.2 + i.toNat * size))) else none
    | _, _ => none
  | _ => none
def oIndex (P : Program) (t : TypeId) (x ix : V) : Option Nx :=
  match ix with
  | .int _ i => match P.underlying t, x with
    | some (.array n e), .agg cs => if 0 ≤ i ∧ i < n then (sizeT P e).bind fun size => (partV P e cs (i.toNat * size)).map .pv else none
    | some .string, .str s => if 0 ≤ i then (s[i.toNat]?).map fun (b : Nat) => .pv (.int .u8 (b : Int)) else none
    | _, _ => none
  | _ => none

def oRange (P : Program) (H : AH) (t : TypeId) (x : V) : Option Nx :=
  match P.underlying t, x with
  | some .string, .str s => some (.new (.strIter s 0) fun b => .ptr (some (b, 0)))
  | some (.map _ _), .map none => some (.new (.mapIter none 0 [] 0) fun b => .ptr (some (b, 0)))
  | some (.map _ _), .map (some m) => match H.get m with
    | some (.map _ clock) => some (.new (.mapIter (some m) clock [] clock) fun b => .ptr (some (b, 0)))
    | _ => none
  | _, _ => none
def oNext (H : AH) (it : V) (isString : Bool) : Option Nx :=
  match it with
  | .ptr (some (r, 0)) => match H.get r, isString with
    | some (.strIter s pos), true => match s[pos]? with
      | some c => if c < 128 then some (.eff (.tuple [.bool true, .int .i64 pos, .int .i32 c]) (H.put r (.strIter s (pos + 1)))) else none
      | none => if s.length ≤ pos then some (.pv (.tuple [.bool false])) else none
    | some (.mapIter none _ _ _), false => some (.pv (.tuple [.bool false]))
    | some (.mapIter (some m) since seen last), false => match H.get m with
      | some (.map es clock) =>
        -- at most one entry, which was there when the range began
        match es, seen with
        | [], _ => some (.pv (.tuple [.bool false]))
        | [(k, v, born)], [] => if born < since then some (.eff (.tuple [.bool true, k, v]) (H.put r (.mapIter (some m) since [born] clock))) else none
        | [(_, _, born)], [b] => if born = b ∧ born < last then some (.pv (.tuple [.bool false])) else none
        | _, _ => none
      | _ => none
    | _, _ => none
  | _ => none
def oEntry (H : AH) (it : V) : Option Nx :=
  match it with
  | .ptr (some (r, 0)) => match H.get r with
    | some (.mapIter (some m) _ [st] last) => match H.get m with
      | some (.map [(k, v, born)] clock) => if clock = last ∧ born = st then some (.pv (.tuple [k, v])) else none
      | _ => none
    | _ => none
  | _ => none

def oAssert (P : Program) (x : V) (a : TypeId) (ok : Bool) : Option Nx :=
  let holds (v : V) : Option Nx := some (.pv (if ok then .tuple [v, .bool true] else v))
  let fails : Option Nx := if ok then (zeroT P a).map fun z => .pv (.tuple [z, .bool false]) else none
  match P.underlying a, x with
  | some (.interface _), .nilIface => fails
  | some (.interface want), .iface t _ => (P.info? t).bind fun i => match Instr.missingMethod want i.methods with
    | none => holds x
    | some _ => fails
  | some _, .nilIface => fails
  | some _, .iface t v => if t = a then holds v else fails
  | _, _ => none

def oMakeSlice (P : Program) (t : TypeId) (l c : V) : Option Nx :=
  match P.underlying t, l, c with
  | some (.slice e), .int _ l, .int _ c => match zeroT P e, bytesT P e, sizeT P e with
    | some z, some bytes, some size => if 0 ≤ l ∧ l ≤ c ∧ c ≤ 1000000000 ∧ c.toNat * bytes ≤ 1000000000000 ∧ z.cells.length = size then
        some (.new (.cells (repL z.cells c.toNat) true none) fun b => .slice (some (b, 0)) l.toNat c.toNat none) else none
    | _, _, _ => none
  | _, _, _ => none

def oFieldAddr (P : Program) (s : TypeId) (x : V) (f : Nat) : Option Nx :=
  match P.underlying s, x with
  | some (.struct fs), .ptr (some p) => (fs[f]?).bind fun fd => (sizeT P fd.type).bind fun n => if n = 0 then none else some (.pv (.ptr (some (p.1, p.2 + fd.offset))))
  | _, _ => none
def oField (P : Program) (t : TypeId) (x : V) (f : Nat) : Option Nx :=
  match P.underlying t, x with
  | some (.struct fs), .agg cs => (fs[f]?).bind fun fd => (partV P fd.type cs fd.offset).map .pv
  | _, _ => none

def evalOpt (ng : Nat) (tm : PT V) : Option Operand → Option (Option V)
  | none => some none
  | some x => (aeval ng tm x).map some

def oDefer (ng : Nat) (tm : PT V) (c : Call) : Option Nx :=
  (evalAll ng tm c.args.toList).bind fun args => match c.callee with
    | .value f => match aeval ng tm f with
      | some (.func (.func f) first cap) => some (.defer (.call f (first ++ args ++ cap)))
      | _ => none
    | _ => none

def aexec (P : Program) (tm : PT V) (H : AH) (o : Oper) : Option Nx :=
  match o.op with
  | .move x | .assign x => (aeval H.ng tm x).map .pv
  | .pick c a b => (aeval H.ng tm c).bind fun c => match c with
    | .bool true => (aeval H.ng tm a).bind fun v => (aeval H.ng tm b).map fun _ => .pv v
    | .bool false => (aeval H.ng tm a).bind fun _ => (aeval H.ng tm b).map .pv
    | _ => none
  | .alloc t => oAlloc P t
  | .box _ x => (aeval H.ng tm x).map oBox
  | .build t parts => (evalParts H.ng tm parts.toList).bind fun ps => oBuild P t ps
  | .buildSlice t len parts => (evalParts H.ng tm parts.toList).bind fun ps => oBuildSlice P t len ps
  | .load t a => (aeval H.ng tm a).bind fun a => oLoad P H t a
  | .store t a x => (aeval H.ng tm a).bind fun a => (aeval H.ng tm x).bind fun v => oStore P H t a v
  | .nilCheck x => (aeval H.ng tm x).bind fun v => oNilCheck P v
  | .binOp op t x y _ => (aeval H.ng tm x).bind fun a => (aeval H.ng tm y).bind fun b => oBin P op (isConst x || isConst y) t a b
  | .unOp op _ x => (aeval H.ng tm x).bind fun x => oUn op x
  | .convert s d x => (aeval H.ng tm x).bind fun x => oConvert P H s d x
  | .makeInterface t x => (aeval H.ng tm x).bind fun v => match P.underlying t with
    | some (.interface _) => none
    | some _ => some (.pv (.iface t v))
    | none => none
  | .makeFunc fn first cap => (evalAll H.ng tm first.toList).bind fun a => (evalAll H.ng tm cap.toList).bind fun b => match fn with
    | .func f => some (.pv (.func (.func f) a b))
    | .method n => some (.pv (.func (.method n) a b))
    | _ => none
  | .makeMap _ none => some (.new (.map [] 0) fun b => .map (some b))
  | .makeMap t (some x) => (aeval H.ng tm x).bind fun v => match v, P.underlying t with
    | .int _ _, some (.map _ _) => some (.new (.map [] 0) fun b => .map (some b))
    | _, _ => none
  | .makeSlice t l c => (aeval H.ng tm l).bind fun l => (aeval H.ng tm c).bind fun c => oMakeSlice P t l c
  | .slice t x lo hi mx => (aeval H.ng tm x).bind fun x => (evalOpt H.ng tm lo).bind fun lo => (evalOpt H.ng tm hi).bind fun hi => (evalOpt H.ng tm mx).bind fun mx => if mx.isSome && hi.isNone then none else oSlice P t x lo hi mx
  | .fieldAddr s x f => (aeval H.ng tm x).bind fun x => oFieldAddr P s x f
  | .field t x f => (aeval H.ng tm x).bind fun x => oField P t x f
  | .indexAddr t x ix => (aeval H.ng tm x).bind fun x => (aeval H.ng tm ix).bind fun ix => oIndexAddr P t x ix
  | .index t x ix => (aeval H.ng tm x).bind fun x => (aeval H.ng tm ix).bind fun ix => oIndex P t x ix
  | .lookup t x ix ok => (aeval H.ng tm x).bind fun x => (aeval H.ng tm ix).bind fun ix => oLookup P H t x ix ok
  | .mapUpdate t m k x | .insert t m k x => (aeval H.ng tm m).bind fun m => (aeval H.ng tm k).bind fun k => (aeval H.ng tm x).bind fun v => oMapPut P H t m k v
  | .range t x => (aeval H.ng tm x).bind fun x => oRange P H t x
  | .next it s => (aeval H.ng tm it).bind fun it => oNext H it s
  | .entry it => (aeval H.ng tm it).bind fun it => oEntry H it
  | .typeAssert x _ a ok => (aeval H.ng tm x).bind fun x => oAssert P x a ok
  | .extract t ix => (aeval H.ng tm t).bind fun t => match t with
    | .tuple vs => (vs[ix]?).map .pv
    | _ => none
  | .call c => oCall P tm H c
  | .defer c => oDefer H.ng tm c
  | .panic x => (aeval H.ng tm x).bind fun v => match v with
    | .iface t v => some (.panic (.iface t v))
    | _ => none
  | _ => none
end Go.Am
