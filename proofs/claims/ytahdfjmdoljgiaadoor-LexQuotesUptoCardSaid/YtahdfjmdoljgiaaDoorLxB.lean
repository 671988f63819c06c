/- Unquote, the document's Quote and Unquote: what they come to; shapes of their runs. -/
import Derived.Test.YtahdfjmdoljgiaaDoorLxA
namespace Go.Proofs.YtahdfjmdoljgiaaDoor
open Go Go.Am
set_option maxRecDepth 100000
set_option linter.unusedVariables false
set_option linter.unusedSimpArgs false

/-- Letters as cells. -/
def bv (l : List UInt8) : List AV := l.map fun c => .int .u8 c.toNat
def hexS : List UInt8 := [48, 49, 50, 51, 52, 53, 54, 55, 56, 57, 97, 98, 99, 100, 101, 102]
def hexIx (c : UInt8) : Int := Lib.indexByte hexS c

/-- Unquote's loop. -/
def unqFrom (s : List UInt8) : Nat → Nat → List UInt8 → Option (List UInt8)
  | 0, _, _ => none
  | f + 1, i, acc =>
    if i + 1 < s.length then
      if s.getD i 0 != 92 then unqFrom s f (i + 1) (acc ++ [s.getD i 0])
      else if s.getD (i + 1) 0 != 120 then unqFrom s f (i + 2) (acc ++ [s.getD (i + 1) 0])
      else if i + 4 ≥ s.length then none
      else if hexIx (s.getD (i + 2) 0) < 0 then none
      else if hexIx (s.getD (i + 3) 0) < 0 then none
      else unqFrom s f (i + 4) (acc ++ [(16 * hexIx (s.getD (i + 2) 0) + hexIx (s.getD (i + 3) 0)).toNat.toUInt8])
    else some acc
def unqF (s : List UInt8) : Option (List UInt8) := unqFrom s (s.length + 1) 1 []

def tb12 : List TbE := [⟨27, fun vs _ => sIndexByte vs, .of (.one (.int .i64))⟩, ⟨14, fun vs _ => sQuote vs, .of (.one .str)⟩]
def kdI (_ : Nat) : Kd := .one (.int .i64)
def n12 (s : List UInt8) (i : Int) : St := (envOf 76 [(0, .str s), (2, .str []), (3, .bool false), (4, .sl none 0 (.fix 0)), (5, .int .i64 i)], [])
def h12 (s : List UInt8) (i : Int) (acc : List UInt8) : St := (envOf 76 [(0, .str s), (2, .str []), (3, .bool false), (4, .sl (some (0, 0)) acc.length (.rel 0)), (5, .int .i64 i)], [.row 5 1 (bv acc)])
def t12 : Tidy := ⟨dropT 76 [0, 2, 3, 4, 5], .auto⟩
def x12 : Tidy := ⟨dropT 76 [0, 2, 3, 4], .auto⟩
def r12 : Tidy := ⟨dropT 76 [2, 3], .auto⟩
def bad12 : St := (envOf 76 [(2, .str []), (3, .bool false)], [])
def xn12 (s : List UInt8) : St := (envOf 76 [(0, .str s), (2, .str []), (3, .bool false), (4, .sl none 0 (.fix 0))], [])
def xh12 (s acc : List UInt8) : St := (envOf 76 [(0, .str s), (2, .str []), (3, .bool false), (4, .sl (some (0, 0)) acc.length (.rel 0))], [.row 5 1 (bv acc)])
noncomputable def C12l : Cfg := tbC Q tb12 (fun _ => false) kdI
noncomputable def C12m : Cfg := tbC Q tb12 (fun k => k == 0 || k == 2) kdI
noncomputable def C12 (s : List UInt8) : Cfg := { tbC Q tb12 (fun k => k == 0) kdI with
  lw := fun id => if id = 3 then some fun st K => st = n12 s 1 ∧ askB (unqF s).isNone (K .ret bad12) (askB ((unqF s).getD []).isEmpty (K (.exit 0) (xn12 s)) (K (.exit 0) (xh12 s ((unqF s).getD [])))) else none
  F := fun id => if id = 3 then t12 else ⟨[], .all⟩ }
end Go.Proofs.YtahdfjmdoljgiaaDoor
