/- The evaluator of the abstract machine: operations that leave memory alone. -/
import Derived.Test.YtfnlokknpldkgaaAmA
set_option linter.unusedVariables false
set_option linter.unusedSimpArgs false
namespace Go.Am
open Go Go.RowKit
section
variable (P : Program)
def evalOperand (env : List AV) : Operand → Option AV
  | .tmp t => match env[t]? with
    | some .any => none
    | some .und => none
    | some v => some v
    | none => none
  | .const v => ofValue v
  | .global _ => none
  | .func f => some (.fn f [] [])
def isAggA (t : TypeId) : Option Bool := match P.underlying t with
  | some (.struct _) => some true
  | some (.array _ _) => some true
  | some _ => some false
  | none => none
def szOf (t : TypeId) : Option Nat := (P.info? t).map (·.size)
def bytesA (t : TypeId) : Option Nat := (P.info? t).map (·.bytes)
def objCells : AObj → Option (List AV)
  | .ro cs => some cs
  | .row _ _ cs => some cs
  | _ => none
def cellsAt (h : AHeap) (k : Nat) : Option (List AV) := (h[k]?).bind objCells
def partA (t : TypeId) (cs : List AV) (off : Nat) : Option AV :=
  match isAggA P t with
  | some true => (szOf P t).bind fun s => if off + s ≤ cs.length then some (.agg ((cs.drop off).take s)) else none
  | some false => cs[off]?
  | none => none
def loadA (h : AHeap) (t : TypeId) : AV → Option AV
  | .ptr (some (k, o)) => (cellsAt h k).bind fun cs => partA P t cs o
  | _ => none
def fieldsA (t : TypeId) : Option (List Field) := match P.underlying t with
  | some (.struct fs) => some fs.toList
  | _ => none
def fieldAddrA (s : TypeId) (x : AV) (f : Nat) : Option AV :=
  match x, (fieldsA P s).bind (·[f]?) with
  | .ptr (some (k, o)), some fd => match szOf P fd.type with
    | some 0 => none
    | some _ => some (.ptr (some (k, o + fd.offset)))
    | none => none
  | _, _ => none
def fieldA (t : TypeId) (x : AV) (f : Nat) : Option AV :=
  match x, (fieldsA P t).bind (·[f]?) with
  | .agg cs, some fd => partA P fd.type cs fd.offset
  | _, _ => none
def indexAddrA (t : TypeId) (x i : AV) : Option AV :=
  match P.underlying t, x, i with
  | some (.array len e), .ptr (some (k, o)), .int _ i => if 0 ≤ i ∧ i < len then (szOf P e).map fun s => .ptr (some (k, o + i.toNat * s)) else none
  | some (.slice e), .sl (some (k, o)) len _, .int _ i => if 0 ≤ i ∧ i < len then (szOf P e).map fun s => .ptr (some (k, o + i.toNat * s)) else none
  | _, _, _ => none
def indexA (t : TypeId) (x i : AV) : Option AV :=
  match P.underlying t, x, i with
  | some (.array len e), .agg cs, .int _ i => if 0 ≤ i ∧ i < len then (szOf P e).bind fun s => partA P e cs (i.toNat * s) else none
  | some .string, .str s, .int _ i => if 0 ≤ i then (s[i.toNat]?).map fun b => .int .u8 b.toNat else none
  | _, _, _ => none
/-- A bound that was given, or what stands for it. -/
def boundA (d : Nat) (lim : Nat) : Option AV → Option Nat
  | none => some d
  | some (.int _ i) => if 0 ≤ i ∧ i ≤ lim then some i.toNat else none
  | some _ => none
def ACap.drop (c : ACap) (l : Nat) : ACap := match c with
  | .fix n => .fix (n - l)
  | .rel i => .rel (i + l)
def sliceA (t : TypeId) (x : AV) (lo hi mx : Option AV) : Option AV :=
  match P.underlying t, x, mx with
  | some .string, .str s, none => (boundA s.length s.length hi).bind fun h => (boundA 0 h lo).map fun l => .str ((s.take h).drop l)
  | some (.slice e), .sl (some (k, o)) len c, none =>
    (boundA len len hi).bind fun h => (boundA 0 h lo).bind fun l => (szOf P e).bind fun s =>
      match c with
      | .fix n => some (.sl (some (k, if l = n then o else o + l * s)) (h - l) (.fix (n - l)))
      | .rel i => if l = 0 then some (.sl (some (k, o)) h (.rel i)) else if l < len then some (.sl (some (k, o + l * s)) (h - l) (.rel (i + l))) else some (.slE k o i l s)
  | some (.slice e), .sl none 0 _, none => (boundA 0 0 hi).bind fun u => (boundA 0 u lo).bind fun _ => (szOf P e).map fun _ => .sl none 0 (.fix 0)
  | some (.array n e), .ptr (some (k, o)), none =>
    (boundA n n hi).bind fun h => (boundA 0 h lo).bind fun l => (szOf P e).bind fun s =>
      some (.sl (some (k, if l = n then o else o + l * s)) (h - l) (.fix (n - l)))
  | _, _, _ => none
def lenA (t : TypeId) (h : AHeap) (x : AV) : Option AV :=
  match P.underlying t, x with
  | some .string, .str s => some (.int .i64 s.length)
  | some (.array n _), _ => some (.int .i64 n)
  | some (.slice _), .sl _ n _ => some (.int .i64 n)
  | some (.slice _), .slE _ _ _ _ _ => some (.int .i64 0)
  | some (.map _ _), .map none => some (.int .i64 0)
  | some (.map _ _), .map (some k) => match h[k]? with
    | some (.map es) => some (.int .i64 es.length)
    | _ => none
  | _, _ => none
/-- Whole numbers: what an operator makes of them. -/
def intOp (op : BinOp) (k : IntKind) (a b : Int) : Option AV :=
  match op with
  | .add => some (.int k (k.wrap (a + b)))
  | .sub => some (.int k (k.wrap (a - b)))
  | .mul => some (.int k (k.wrap (a * b)))
  | .quo => if b = 0 then none else some (.int k (k.wrap (a.tdiv b)))
  | .rem => if b = 0 then none else some (.int k (a.tmod b))
  | .and => some (.int k (k.wrap (BitVec.ofInt k.bits a &&& BitVec.ofInt k.bits b).toNat))
  | .or => some (.int k (k.wrap (BitVec.ofInt k.bits a ||| BitVec.ofInt k.bits b).toNat))
  | .xor => some (.int k (k.wrap (BitVec.ofInt k.bits a ^^^ BitVec.ofInt k.bits b).toNat))
  | .andNot => some (.int k (k.wrap (BitVec.ofInt k.bits a &&& ~~~ BitVec.ofInt k.bits b).toNat))
  | .eql => some (.bool (a == b))
  | .neq => some (.bool (a != b))
  | .lss => some (.bool (decide (a < b)))
  | .leq => some (.bool (decide (a ≤ b)))
  | .gtr => some (.bool (decide (a > b)))
  | .geq => some (.bool (decide (a ≥ b)))
  | .shl | .shr => none
def shiftA (op : BinOp) (k : IntKind) (a b : Int) : Option AV :=
  if b < 0 then none else match op with
  | .shl => some (.int k (k.wrap (a * 2 ^ (min b.toNat k.bits))))
  | .shr => some (.int k (a.fdiv (2 ^ (min b.toNat k.bits))))
  | _ => none
def strOp (op : BinOp) (x y : List UInt8) : Option AV :=
  match op with
  | .add => if x.length + y.length ≤ 9223372036854775807 then some (.str (x ++ y)) else none
  | .eql => some (.bool (x == y))
  | .neq => some (.bool !(x == y))
  | .lss => some (.bool (Op.bytesLess x y))
  | .leq => some (.bool (Op.bytesLess x y || x == y))
  | .gtr => some (.bool !(Op.bytesLess x y || x == y))
  | .geq => some (.bool !(Op.bytesLess x y))
  | _ => none
/-- Whether two values of a type are the same. -/
def eqA : Nat → TypeId → AV → AV → Option Bool
  | 0, _, _, _ => none
  | d + 1, t, x, y =>
    match P.underlying t, x, y with
    | some .bool, .bool a, .bool b => some (a == b)
    | some (.int _), .int k a, .int k' b => if k = k' then some (a == b) else none
    | some .string, .str a, .str b => some (a == b)
    | some (.pointer _), .ptr none, .ptr b => some b.isNone
    | some (.pointer _), .ptr (some _), .ptr none => some false
    | some (.slice _), .sl none _ _, .sl b _ _ => some b.isNone
    | some (.slice _), .sl (some _) _ _, .sl none _ _ => some false
    | some (.map _ _), .map none, .map b => some b.isNone
    | some (.map _ _), .map (some _), .map none => some false
    | some (.struct fs), .agg xs, .agg ys =>
      if P.stoodInHeld t then none else
      fs.toList.foldr (fun f r => if f.name = "_" then r else
        (partA P f.type xs f.offset).bind fun a => (partA P f.type ys f.offset).bind fun b => (eqA d f.type a b).bind fun e => r.map (e && ·)) (some true)
    | some (.array n e), .agg xs, .agg ys =>
      (szOf P e).bind fun s => (List.range n).foldr (fun i r =>
        (partA P e xs (i * s)).bind fun a => (partA P e ys (i * s)).bind fun b => (eqA d e a b).bind fun q => r.map (q && ·)) (some true)
    | _, _, _ => none
def binA (op : BinOp) (t : TypeId) (x y : AV) : Option AV :=
  match op, x, y with
  | .shl, .int k a, .int _ b => shiftA .shl k a b
  | .shr, .int k a, .int _ b => shiftA .shr k a b
  | op, .int k a, .int k' b => if k = k' then intOp op k a b else none
  | op, .str a, .str b => strOp op a b
  | .eql, .agg a, .agg b => if P.eqGuardType P.depth t then none else (eqA P Op.maxDepth t (.agg a) (.agg b)).map .bool
  | .neq, .agg a, .agg b => if P.eqGuardType P.depth t then none else (eqA P Op.maxDepth t (.agg a) (.agg b)).map fun e => .bool !e
  | .eql, .bool a, .bool b => (eqA P Op.maxDepth t (.bool a) (.bool b)).map .bool
  | .neq, .bool a, .bool b => (eqA P Op.maxDepth t (.bool a) (.bool b)).map fun e => .bool !e
  | .eql, .ptr a, .ptr b => (eqA P Op.maxDepth t (.ptr a) (.ptr b)).map .bool
  | .neq, .ptr a, .ptr b => (eqA P Op.maxDepth t (.ptr a) (.ptr b)).map fun e => .bool !e
  | .eql, .sl a l c, .sl b m d => (eqA P Op.maxDepth t (.sl a l c) (.sl b m d)).map .bool
  | .neq, .sl a l c, .sl b m d => (eqA P Op.maxDepth t (.sl a l c) (.sl b m d)).map fun e => .bool !e
  | .eql, .map a, .map b => (eqA P Op.maxDepth t (.map a) (.map b)).map .bool
  | .neq, .map a, .map b => (eqA P Op.maxDepth t (.map a) (.map b)).map fun e => .bool !e
  | _, _, _ => none
def ownRow (h : AHeap) (k : Nat) : Bool := match h[k]? with
  | some (.row _ _ _) => true
  | _ => false
/-- Whether two pointers into rows are the same. -/
def ptrEqA (h : AHeap) (t : TypeId) (k o k' o' : Nat) : Option Bool := match P.underlying t with
  | some (.pointer e) => match szOf P e with
    | some (_ + 1) => if k = k' then some (decide (o = o')) else if ownRow h k && ownRow h k' then some false else none
    | _ => none
  | _ => none
def binH (h : AHeap) (op : BinOp) (t : TypeId) (x y : AV) : Option AV :=
  match op, x, y with
  | .eql, .ptr (some (k, o)), .ptr (some (k', o')) => (ptrEqA P h t k o k' o').map .bool
  | .neq, .ptr (some (k, o)), .ptr (some (k', o')) => (ptrEqA P h t k o k' o').map fun e => .bool !e
  | op, x, y => binA P op t x y
def unA (op : UnOp) (x : AV) : Option AV :=
  match op, x with
  | .neg, .int k n => some (.int k (k.wrap (0 - n)))
  | .xor, .int k n => some (.int k (k.wrap (BitVec.ofInt k.bits (if k.signed then -1 else k.max) ^^^ BitVec.ofInt k.bits n).toNat))
  | .not, .bool b => some (.bool !b)
  | _, _ => none
def byteOfA : AV → Option UInt8
  | .int .u8 n => some (UInt8.ofNat n.toNat)
  | _ => none
def convertA (h : AHeap) (src dst : TypeId) (x : AV) : Option AV :=
  match P.underlying src, P.underlying dst, x with
  | some _, some (.int k), .int _ n => some (.int k (k.wrap n))
  | some _, some .string, .str s => some (.str s)
  | some (.slice e), some .string, .sl a len _ =>
    match P.underlying e, a with
    | some (.int .u8), none => some (.str [])
    | some (.int .u8), some (k, o) => (cellsAt h k).bind fun cs => if o + len ≤ cs.length then (((cs.drop o).take len).mapM byteOfA).map .str else none
    | _, _ => none
  | _, _, _ => none
/-- Neither several results nor unknown. -/
def AV.plain : AV → Bool
  | .tup _ => false
  | .any => false
  | .und => false
  | _ => true
def fillA (place : Nat → Option (Nat × Nat)) (cells : List AV) : List (Nat × AV) → Option (List AV)
  | [] => some cells
  | (i, v) :: rest =>
    match place i with
    | none => none
    | some (off, size) =>
      if v.plain && v.cells.length == size && decide (off + size ≤ cells.length) then
        fillA place (cells.take off ++ v.cells ++ cells.drop (off + size)) rest
      else none
def zeroA (t : TypeId) : Option AV := ((P.info? t).bind (·.zero)).bind ofValue
def partsA (E : Operand → Option AV) (ps : List (Nat × Operand)) : Option (List (Nat × AV)) := ps.mapM fun p => (E p.2).map (p.1, ·)
def buildA (t : TypeId) (parts : List (Nat × AV)) : Option AV :=
  match zeroA P t, P.underlying t with
  | some z, some (.struct fs) => if z.plain = false then none else
    (fs.toList.mapM fun f => (szOf P f.type).map fun s => (f.offset, s)).bind fun places => (fillA (places[·]?) z.cells parts).map .agg
  | some z, some (.array _ e) => if z.plain = false then none else (szOf P e).bind fun s => (fillA (fun i => some (i * s, s)) z.cells parts).map .agg
  | _, _ => none
def sameKey : AV → AV → Option Bool
  | .int k a, .int k' b => if k = k' then some (a == b) else none
  | .str a, .str b => some (a == b)
  | _, _ => none
def findA (key : AV) : List (AV × AV) → Option (Option AV)
  | [] => some none
  | e :: es => match sameKey key e.1 with
    | some true => some (some e.2)
    | some false => findA key es
    | none => none
def fitsKey (t : TypeId) (k : AV) : Bool := match P.underlying t, k with
  | some (.int q), .int q' _ => q == q'
  | some .string, .str _ => true
  | _, _ => false
def lookupA (h : AHeap) (t : TypeId) (x i : AV) (ok : Bool) : Option AV :=
  match P.underlying t, x with
  | some (.map kt et), .map none => if fitsKey P kt i then (zeroA P et).map fun z => if ok then .tup [z, .bool false] else z else none
  | some (.map kt et), .map (some r) =>
    if fitsKey P kt i then
      match h[r]? with
      | some (.map es) => (findA i es).bind fun
        | some v => some (if ok then .tup [v, .bool true] else v)
        | none => (zeroA P et).map fun z => if ok then .tup [z, .bool false] else z
      | _ => none
    else none
  | _, _ => none
def toArrayA (t : TypeId) (x : AV) : Option AV :=
  match P.underlying t, x with
  | some (.array n _), .sl (some a) len _ => if n ≤ len then some (.ptr (some a)) else none
  | _, _ => none
def minmaxA (isMax : Bool) : List AV → Option AV
  | [.int k a, .int _ b] => some (.int k (if isMax then (if b > a then b else a) else (if b < a then b else a)))
  | _ => none
def nilCheckA : AV → Option AV
  | .ptr (some a) => some (.ptr (some a))
  | .fn f a c => some (.fn f a c)
  | _ => none
def optA (E : Operand → Option AV) : Option Operand → Option (Option AV)
  | none => some none
  | some x => (E x).map some
/-- An operation that leaves memory as it is: its value. -/
def evalPure (h : AHeap) (E : Operand → Option AV) (o : Oper) : Option AV :=
  match o.op with
  | .move x => E x
  | .assign x => E x
  | .pick c a b => match E c with
    | some (.bool t) => if t then E a else E b
    | _ => none
  | .build t ps => (partsA E ps.toList).bind (buildA P t)
  | .load t a => (E a).bind (loadA P h t)
  | .nilCheck x => (E x).bind nilCheckA
  | .binOp op t x y _ => (E x).bind fun a => (E y).bind fun b => binH P h op t a b
  | .unOp op _ x => (E x).bind (unA op)
  | .convert s d x => (E x).bind (convertA P h s d)
  | .sliceToArrayPointer t x => (E x).bind (toArrayA P t)
  | .slice t x lo hi mx => (E x).bind fun a => (optA E lo).bind fun l => (optA E hi).bind fun u => (optA E mx).bind fun m => sliceA P t a l u m
  | .fieldAddr s x f => (E x).bind fun a => fieldAddrA P s a f
  | .field t x f => (E x).bind fun a => fieldA P t a f
  | .indexAddr t x i => (E x).bind fun a => (E i).bind fun b => indexAddrA P t a b
  | .index t x i => (E x).bind fun a => (E i).bind fun b => indexA P t a b
  | .lookup t x i ok => (E x).bind fun a => (E i).bind fun b => lookupA P h t a b ok
  | .extract x i => match E x with
    | some (.tup vs) => match vs[i]? with
      | some .any => none
      | r => r
    | _ => none
  | .makeInterface t x => match P.underlying t with
    | some (.interface _) => none
    | some _ => (E x).map (.ifc t)
    | none => none
  | .makeFunc (.func f) a c => (a.toList.mapM E).bind fun a => (c.toList.mapM E).map fun c => .fn f a c
  | .call { callee := .builtin .len, args, argTypes } => match args.toList, argTypes.toList with
    | [x], [t] => (E x).bind (lenA P t h)
    | _, _ => none
  | .call { callee := .builtin .max, args, .. } => (args.toList.mapM E).bind (minmaxA true)
  | .call { callee := .builtin .min, args, .. } => (args.toList.mapM E).bind (minmaxA false)
  | _ => none
end
end Go.Am
