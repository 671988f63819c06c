/- Code with its types looked up: what symbolic runs are made over. -/
import Derived.Test.YtfnlokknpldkgaaAmN
set_option linter.unusedVariables false
set_option linter.unusedSimpArgs false
namespace Go.Am
open Go Go.RowKit
/-- An operation with its types looked up. -/
inductive RI where
  | mov (x : Operand)
  | pick (c a b : Operand)
  | bin (op : BinOp) (x y : Operand)
  | cmp (neg : Bool) (t : TypeId) (x y : Operand)
  | un (op : UnOp) (x : Operand)
  | conv (k : IntKind) (x : Operand)
  | same (x : Operand)
  | toStr (x : Operand)
  | build (z : List AV) (ps : List ((Nat × Nat) × Operand))
  | load (sz : Option Nat) (x : Operand)
  | nilCheck (x : Operand)
  | sliceS (x : Operand) (lo hi : Option Operand)
  | sliceL (s : Nat) (x : Operand) (lo hi : Option Operand)
  | sliceA (n s : Nat) (x : Operand) (lo hi : Option Operand)
  | toArr (n : Nat) (x : Operand)
  | fieldAddr (off : Nat) (x : Operand)
  | field (sz : Option Nat) (off : Nat) (x : Operand)
  | atA (n s : Nat) (x i : Operand)
  | atL (s : Nat) (x i : Operand)
  | indexA (n s : Nat) (sz : Option Nat) (x i : Operand)
  | indexS (x i : Operand)
  | lookup (t : TypeId) (x i : Operand) (ok : Bool)
  | extract (x : Operand) (i : Nat)
  | mkI (t : TypeId) (x : Operand)
  | mkF (f : FuncId) (a c : List Operand)
  | lenS (x : Operand)
  | lenA (n : Nat) (x : Operand)
  | lenL (x : Operand)
  | lenM (x : Operand)
  | max (xs : List Operand)
  | min (xs : List Operand)
  | alloc (t : TypeId) (z : AV)
  | box (t : TypeId) (x : Operand)
  | bslice (e s n : Nat) (z : AV) (ps : List (Nat × Operand))
  | mslice (e s b : Nat) (z : AV) (l c : Operand)
  | mmap
  | toBytes (x : Operand)
  | store (s : Nat) (a x : Operand)
  | append (e s b : Nat) (a x : Operand)
  | copy (s : Nat) (d x : Operand)
  | update (kt : TypeId) (m k x : Operand)
  | del (kt : TypeId) (m k : Operand)
  | ice (x : Operand)
  | call (f : Operand) (args : List Operand)
structure PO where
  dst : Option Tmp
  ri : RI
  guard : Option (Option Tmp × Bool)
def partR (sz : Option Nat) (cs : List AV) (off : Nat) : Option AV :=
  match sz with
  | some s => if off + s ≤ cs.length then some (.agg ((cs.drop off).take s)) else none
  | none => cs[off]?
section
variable (P : Program)
/-- Of a type that is laid open in cells: how many; none: one cell. -/
def aggSz (t : TypeId) : Option (Option Nat) := match isAggA P t with
  | some true => (szOf P t).map some
  | some false => some none
  | none => none
def placesR (t : TypeId) : Option (Nat → Option (Nat × Nat)) := match P.underlying t with
  | some (.struct fs) => (fs.toList.mapM fun f => (szOf P f.type).map fun s => (f.offset, s)).map fun l => (l[·]?)
  | some (.array _ e) => (szOf P e).map fun s => fun i => some (i * s, s)
  | _ => none
def resolve (o : Oper) : Option RI :=
  match o.op with
  | .move x => some (.mov x)
  | .assign x => some (.mov x)
  | .pick c a b => some (.pick c a b)
  | .build t ps => match zeroA P t, placesR P t with
    | some z, some pl => if z.plain then (ps.toList.mapM fun (p : Nat × Operand) => (pl p.1).map fun q => (q, p.2)).map fun l => .build z.cells l else none
    | _, _ => none
  | .load t a => (aggSz P t).map fun s => .load s a
  | .nilCheck x => some (.nilCheck x)
  | .binOp op t x y _ => match op, P.underlying t with
    | .eql, some (.int _) => some (.bin .eql x y)
    | .neq, some (.int _) => some (.bin .neq x y)
    | .eql, some .string => some (.bin .eql x y)
    | .neq, some .string => some (.bin .neq x y)
    | .eql, _ => some (.cmp false t x y)
    | .neq, _ => some (.cmp true t x y)
    | op, _ => some (.bin op x y)
  | .unOp op _ x => some (.un op x)
  | .convert s d x => match P.underlying s, P.underlying d with
    | some (.int _), some (.int k) => some (.conv k x)
    | some .string, some .string => some (.same x)
    | some (.slice e), some .string => match P.underlying e with
      | some (.int .u8) => some (.toStr x)
      | _ => none
    | some .string, some (.slice e) => match P.underlying e with
      | some (.int .u8) => some (.toBytes x)
      | _ => none
    | some (.slice _), some (.slice e) => match P.underlying e with
      | some (.int .u8) => if s == d then some (.ice x) else none
      | _ => none
    | _, _ => none
  | .sliceToArrayPointer t x => match P.underlying t with
    | some (.array n _) => some (.toArr n x)
    | _ => none
  | .slice t x lo hi none => match P.underlying t with
    | some .string => some (.sliceS x lo hi)
    | some (.slice e) => (szOf P e).map fun s => .sliceL s x lo hi
    | some (.array n e) => (szOf P e).map fun s => .sliceA n s x lo hi
    | _ => none
  | .fieldAddr s x f => ((fieldsA P s).bind (·[f]?)).bind fun fd => match szOf P fd.type with
    | some 0 => none
    | some _ => some (.fieldAddr fd.offset x)
    | none => none
  | .field t x f => ((fieldsA P t).bind (·[f]?)).bind fun fd => (aggSz P fd.type).map fun s => .field s fd.offset x
  | .indexAddr t x i => match P.underlying t with
    | some (.array n e) => (szOf P e).map fun s => .atA n s x i
    | some (.slice e) => (szOf P e).map fun s => .atL s x i
    | _ => none
  | .index t x i => match P.underlying t with
    | some (.array n e) => (szOf P e).bind fun s => (aggSz P e).map fun q => .indexA n s q x i
    | some .string => some (.indexS x i)
    | _ => none
  | .lookup t x i ok => some (.lookup t x i ok)
  | .extract x i => some (.extract x i)
  | .makeInterface t x => match P.underlying t with
    | some (.interface _) => none
    | some _ => some (.mkI t x)
    | none => none
  | .makeFunc (.func f) a c => some (.mkF f a.toList c.toList)
  | .call { callee := .builtin .len, args, argTypes } => match args.toList, argTypes.toList with
    | [x], [t] => match P.underlying t with
      | some .string => some (.lenS x)
      | some (.array n _) => some (.lenA n x)
      | some (.slice _) => some (.lenL x)
      | some (.map _ _) => some (.lenM x)
      | _ => none
    | _, _ => none
  | .call { callee := .builtin .max, args, .. } => some (.max args.toList)
  | .call { callee := .builtin .min, args, .. } => some (.min args.toList)
  | .alloc t => (zeroA P t).map fun z => .alloc t z
  | .box t x => some (.box t x)
  | .buildSlice t n ps => match P.underlying t with
    | some (.slice e) => (szOf P e).bind fun s => (zeroA P e).bind fun z =>
      if z.plain && z.cells.length == s && decide (n * s ≤ 16777216) && decide (0 < s) then some (.bslice e s n z ps.toList) else none
    | _ => none
  | .makeSlice t l c => match P.underlying t with
    | some (.slice e) => (szOf P e).bind fun s => (bytesA P e).bind fun b => (zeroA P e).bind fun z =>
      if z.plain && z.cells.length == s && z.cells.all AV.one then some (.mslice e s b z l c) else none
    | _ => none
  | .makeMap _ none => some .mmap
  | .store t a x => (szOf P t).map fun s => .store s a x
  | .call { callee := .builtin .append, args, argTypes } => match args.toList, argTypes.toList with
    | [a, x], [t, u] => match P.underlying t with
      | some (.slice e) => (szOf P e).bind fun s => (bytesA P e).bind fun b => (zeroA P e).bind fun z =>
        if notInt P u && decide (0 < s) && z.plain && z.cells.length == s then some (.append e s b a x) else none
      | _ => none
    | _, _ => none
  | .call { callee := .builtin .copy, args, argTypes } => match args.toList, argTypes.toList with
    | [d, x], [t, _] => match P.underlying t with
      | some (.slice e) => (szOf P e).map fun s => .copy s d x
      | _ => none
    | _, _ => none
  | .call { callee := .builtin .delete, args, argTypes } => match args.toList, argTypes.toList with
    | [m, k], [t, _] => match P.underlying t with
      | some (.map kt _) => some (.del kt m k)
      | _ => none
    | _, _ => none
  | .mapUpdate t m k x => match P.underlying t with
    | some (.map kt _) => some (.update kt m k x)
    | _ => none
  | .call { callee := .value f, args, .. } => some (.call f args.toList)
  | _ => none
/-- The value of an operation that leaves memory alone. -/
def pureR (h : AHeap) (E : Operand → Option AV) : RI → Option AV
  | .mov x => E x
  | .pick c a b => match E c with
    | some (.bool t) => if t then E a else E b
    | _ => none
  | .bin op x y => (E x).bind fun a => (E y).bind fun b => match op, a, b with
    | .shl, .int k a, .int _ b => shiftA .shl k a b
    | .shr, .int k a, .int _ b => shiftA .shr k a b
    | op, .int k a, .int k' b => if k = k' then intOp op k a b else none
    | op, .str a, .str b => strOp op a b
    | _, _, _ => none
  | .cmp neg t x y => (E x).bind fun a => (E y).bind fun b => binH P h (if neg then .neq else .eql) t a b
  | .un op x => (E x).bind (unA op)
  | .conv k x => match E x with
    | some (.int _ n) => some (.int k (k.wrap n))
    | _ => none
  | .same x => match E x with
    | some (.str s) => some (.str s)
    | _ => none
  | .toStr x => match E x with
    | some (.sl none _ _) => some (.str [])
    | some (.sl (some (k, o)) len _) => (cellsAt h k).bind fun cs => if o + len ≤ cs.length then (((cs.drop o).take len).mapM byteOfA).map .str else none
    | _ => none
  | .build z ps => (ps.mapM fun (p : (Nat × Nat) × Operand) => (E p.2).map fun v => (p.1, v)).bind fun l =>
      (l.foldlM (fun cs (p : (Nat × Nat) × AV) => if p.2.plain && p.2.cells.length == p.1.2 && decide (p.1.1 + p.1.2 ≤ cs.length) then some (cs.take p.1.1 ++ p.2.cells ++ cs.drop (p.1.1 + p.1.2)) else none) z).map .agg
  | .load sz x => match E x with
    | some (.ptr (some (k, o))) => (cellsAt h k).bind fun cs => partR sz cs o
    | _ => none
  | .nilCheck x => (E x).bind nilCheckA
  | .sliceS x lo hi => match E x with
    | some (.str s) => (optA E lo).bind fun l => (optA E hi).bind fun u => (boundA s.length s.length u).bind fun u => (boundA 0 u l).map fun l => .str ((s.take u).drop l)
    | _ => none
  | .sliceL s x lo hi => match E x with
    | some (.sl (some (k, o)) len c) => (optA E lo).bind fun l => (optA E hi).bind fun u => (boundA len len u).bind fun u => (boundA 0 u l).bind fun l =>
      match c with
      | .fix n => some (.sl (some (k, if l = n then o else o + l * s)) (u - l) (.fix (n - l)))
      | .rel i => if l = 0 then some (.sl (some (k, o)) u (.rel i)) else if l < len then some (.sl (some (k, o + l * s)) (u - l) (.rel (i + l))) else some (.slE k o i l s)
    | some (.sl none 0 _) => (optA E lo).bind fun l => (optA E hi).bind fun u => (boundA 0 0 u).bind fun u => (boundA 0 u l).map fun _ => .sl none 0 (.fix 0)
    | _ => none
  | .sliceA n s x lo hi => match E x with
    | some (.ptr (some (k, o))) => (optA E lo).bind fun l => (optA E hi).bind fun u => (boundA n n u).bind fun u => (boundA 0 u l).bind fun l =>
      some (.sl (some (k, if l = n then o else o + l * s)) (u - l) (.fix (n - l)))
    | _ => none
  | .toArr n x => match E x with
    | some (.sl (some a) len _) => if n ≤ len then some (.ptr (some a)) else none
    | _ => none
  | .fieldAddr off x => match E x with
    | some (.ptr (some (k, o))) => some (.ptr (some (k, o + off)))
    | _ => none
  | .field sz off x => match E x with
    | some (.agg cs) => partR sz cs off
    | _ => none
  | .atA n s x i => match E x, E i with
    | some (.ptr (some (k, o))), some (.int _ i) => if 0 ≤ i ∧ i < n then some (.ptr (some (k, o + i.toNat * s))) else none
    | _, _ => none
  | .atL s x i => match E x, E i with
    | some (.sl (some (k, o)) len _), some (.int _ i) => if 0 ≤ i ∧ i < len then some (.ptr (some (k, o + i.toNat * s))) else none
    | _, _ => none
  | .indexA n s sz x i => match E x, E i with
    | some (.agg cs), some (.int _ i) => if 0 ≤ i ∧ i < n then partR sz cs (i.toNat * s) else none
    | _, _ => none
  | .indexS x i => match E x, E i with
    | some (.str s), some (.int _ i) => if 0 ≤ i then (s[i.toNat]?).map fun b => .int .u8 b.toNat else none
    | _, _ => none
  | .lookup t x i ok => (E x).bind fun a => (E i).bind fun b => lookupA P h t a b ok
  | .extract x i => match E x with
    | some (.tup vs) => match vs[i]? with
      | some .any => none
      | r => r
    | _ => none
  | .mkI t x => (E x).map (.ifc t)
  | .mkF f a c => (a.mapM E).bind fun a => (c.mapM E).map fun c => .fn f a c
  | .lenS x => match E x with
    | some (.str s) => some (.int .i64 s.length)
    | _ => none
  | .lenA n x => (E x).map fun _ => .int .i64 n
  | .lenL x => match E x with
    | some (.sl _ n _) => some (.int .i64 n)
    | some (.slE _ _ _ _ _) => some (.int .i64 0)
    | _ => none
  | .lenM x => match E x with
    | some (.map none) => some (.int .i64 0)
    | some (.map (some k)) => match h[k]? with
      | some (.map es) => some (.int .i64 es.length)
      | _ => none
    | _ => none
  | .max xs => (xs.mapM E).bind (minmaxA true)
  | .min xs => (xs.mapM E).bind (minmaxA false)
  | _ => none
def allocR (E : Operand → Option AV) (k : Nat) : RI → Option (AV × AObj)
  | .alloc t z => boxA k t z
  | .box t x => (E x).bind (boxA k t)
  | .bslice e s n z ps => (partsA E ps).bind fun l => (fillA (fun i => some (i * s, s)) (rangeCells z.cells (n * s)) l).bind fun cs =>
      if cs.all AV.one && cs.length == n * s then some (.sl (some (k, 0)) n (.rel 0), .row e s cs) else none
  | .mslice e s b z l c => match E l, E c with
    | some (.int _ l), some (.int _ c) => if 0 ≤ l ∧ l ≤ c ∧ (b : Int) * c ≤ 281474976710656 ∧ c ≤ 9223372036854775807 then
        some (.sl (some (k, 0)) l.toNat (.rel 0), .row e s (rangeCells z.cells (l.toNat * s))) else none
    | _, _ => none
  | .mmap => some (.map (some k), .map [])
  | .toBytes x => match E x with
    | some (.str b) => some (.sl (some (k, 0)) b.length (.rel 0), .ro (b.map fun x => .int .u8 x.toNat))
    | _ => none
  | _ => none
def effR (h : AHeap) (E : Operand → Option AV) (slot : Nat) : RI → Option (Option AV × AHeap)
  | .store s a x => match E a, E x with
    | some (.ptr (some (k, o))), some v => match h[k]? with
      | some (.row t' sz cs) => if v.plain && v.cells.all AV.one && v.cells.length == s && decide (o + s ≤ cs.length) then some (none, h.set k (.row t' sz (spliceA cs o v.cells))) else none
      | _ => none
    | _, _ => none
  | .append e s b a x => (E a).bind fun a => (E x).bind fun x => (sourceA h s x).bind fun src =>
    if src.2.all AV.one then
      match a with
      | .sl none 0 _ => if src.1 = 0 then some (some (.sl none 0 (.fix 0)), h) else
          if src.1 * b ≤ 140737488355328 ∧ src.1 ≤ 9223372036854775807 then some (some (.sl (some (slot, 0)) src.1 (.rel 0)), h.set slot (.row e s src.2)) else none
      | .sl (some (k, 0)) n (.rel 0) => match h[k]? with
        | some (.row t' sz' cs) => if t' = e ∧ sz' = s ∧ cs.length = n * s ∧ (n + src.1) * b ≤ 140737488355328 ∧ n + src.1 ≤ 9223372036854775807 then
            some (some (.sl (some (slot, 0)) (n + src.1) (.rel 0)), (h.set k .dead).set slot (.row e s (cs ++ src.2))) else none
        | _ => none
      | .sl (some _) 0 (.fix 0) => if src.1 = 0 then none else
          if src.1 * b ≤ 140737488355328 ∧ src.1 ≤ 9223372036854775807 then some (some (.sl (some (slot, 0)) src.1 (.rel 0)), h.set slot (.row e s src.2)) else none
      | _ => none
    else none
  | .copy s d x => (E d).bind fun d => (E x).bind fun x => match d with
    | .sl (some (k, o)) n _ => (sourceA h s x).bind fun src =>
      match h[k]? with
      | some (.row t' sz' cs) => if src.2.all AV.one && decide (o + min src.1 n * s ≤ cs.length) then some (some (.int .i64 ((min src.1 n : Nat) : Int)), h.set k (.row t' sz' (spliceA cs o (src.2.take (min src.1 n * s))))) else none
      | _ => none
    | _ => none
  | .ice x => match E x with
    | some (.sl (some (k, o)) n c) => match h[k]? with
      | some (.row _ _ cs) => some (some (.sl (some (k, o)) n c), h.set k (.ro cs))
      | _ => none
    | _ => none
  | .del kt m k => (E m).bind fun r => (E k).bind fun k => match r with
    | .map (some r) => match h[r]? with
      | some (.map es) => if fitsKey P kt k then (dropA k es).map fun es' => (some (.tup []), h.set r (.map es')) else none
      | _ => none
    | _ => none
  | .update kt m k x => (E m).bind fun r => (E k).bind fun k => (E x).bind fun v => match r with
    | .map (some r) => match h[r]? with
      | some (.map es) => if fitsKey P kt k then (putA k v es).map fun es' => (none, h.set r (.map es')) else none
      | _ => none
    | _ => none
  | _ => none
end
def calleeR (E : Operand → Option AV) : RI → Option (FuncId × List AV)
  | .call f args => match E f with
    | some (.fn g first cap) => (args.mapM E).map fun vs => (g, first ++ vs ++ cap)
    | _ => none
  | _ => none
theorem part_resolved {P : Program} {t : TypeId} {s : Option Nat} (hs : aggSz P t = some s) (cs : List AV) (o : Nat) : partA P t cs o = partR s cs o := by
  unfold aggSz at hs
  unfold partA
  cases hg : isAggA P t with
  | none => simp [hg] at hs
  | some g =>
    cases g with
    | true =>
      simp only [hg, Option.map_eq_some_iff] at hs
      obtain ⟨n, hn, rfl⟩ := hs
      simp [hn, partR]
    | false => simp only [hg, Option.some.injEq] at hs; subst hs; rfl
end Go.Am
