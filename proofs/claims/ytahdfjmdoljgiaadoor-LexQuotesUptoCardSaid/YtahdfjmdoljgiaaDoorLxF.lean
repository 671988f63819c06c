/- The document's Quote, hex and Unquote: what they come to; shapes of their runs. -/
import Derived.Test.YtahdfjmdoljgiaaDoorLxE
namespace Go.Proofs.YtahdfjmdoljgiaaDoor
open Go Go.Am
set_option maxRecDepth 100000
set_option linter.unusedVariables false
set_option linter.unusedSimpArgs false

/-! Quote (15) -/

def g15 (s : List UInt8) (i : Nat) (acc : List UInt8) : St := (envOf 51 [(0, .str s), (2, .str []), (3, .sl (some (0, 0)) acc.length (.rel 0)), (4, .int .i64 i)], [.row 5 1 (bv acc)])
def t15 : Tidy := ⟨dropT 51 [0, 2, 3, 4], .auto⟩
def x15 : Tidy := ⟨dropT 51 [0, 2, 3], .auto⟩
def e15 (s acc : List UInt8) : St := (envOf 51 [(0, .str s), (2, .str []), (3, .sl (some (0, 0)) acc.length (.rel 0))], [.row 5 1 (bv acc)])
def C15m : Cfg := tbC Q [] (fun k => k == 0 || k == 2) kdI
def C15 (s : List UInt8) : Cfg := { tbC Q [] (fun k => k == 0 || k == 2) kdI with
  lw := fun id => if id = 3 then some fun st K => st = g15 s 0 [34] ∧ K (.exit 0) (e15 s (34 :: s.flatMap esc)) else none
  F := fun id => if id = 3 then t15 else ⟨[], .all⟩ }
/-! hex (28) -/
def hexv (c : UInt8) : UInt8 := if c ≥ 97 then c - 97 + 10 else c - 48
def sHex : List AV → Option AV
  | [.int .u8 c] => if 0 ≤ c ∧ c < 256 then some (.int .u8 (hexv c.toNat.toUInt8).toNat) else none
  | _ => none
/-! Unquote (13) -/
def sQuoteR : List AV → Option AV
  | [.str s] => if s.length ≤ 1099511627900 then some (.str (quoteL s)) else none
  | _ => none
def refFrom (s : List UInt8) : Nat → Nat → List UInt8 → List UInt8
  | 0, _, acc => acc
  | f + 1, i, acc =>
    if i + 1 < s.length then
      if (s.getD i 0 == 92 && decide (i + 2 < s.length) && s.getD (i + 1) 0 != 120) = true then refFrom s f (i + 2) (acc ++ [s.getD (i + 1) 0])
      else if (s.getD i 0 == 92 && decide (i + 4 < s.length)) = true then refFrom s f (i + 4) (acc ++ [16 * hexv (s.getD (i + 2) 0) + hexv (s.getD (i + 3) 0)])
      else refFrom s f (i + 1) (acc ++ [s.getD i 0])
    else acc
def refF (s : List UInt8) : List UInt8 := refFrom s (s.length + 1) 1 []
def tb13 : List TbE := [⟨28, fun vs _ => sHex vs, .of (.one (.int .u8))⟩, ⟨15, fun vs _ => sQuoteR vs, .of (.one .str)⟩]
def n13 (s : List UInt8) (i : Int) : St := (envOf 74 [(0, .str s), (2, .str []), (3, .bool false), (4, .sl none 0 (.fix 0)), (5, .int .i64 i)], [])
def h13 (s : List UInt8) (i : Int) (acc : List UInt8) : St := (envOf 74 [(0, .str s), (2, .str []), (3, .bool false), (4, .sl (some (0, 0)) acc.length (.rel 0)), (5, .int .i64 i)], [.row 5 1 (bv acc)])
def t13 : Tidy := ⟨dropT 74 [0, 2, 3, 4, 5], .auto⟩
def x13 : Tidy := ⟨dropT 74 [0, 2, 3, 4], .auto⟩
def xn13 (s : List UInt8) : St := (envOf 74 [(0, .str s), (2, .str []), (3, .bool false), (4, .sl none 0 (.fix 0))], [])
def xh13 (s acc : List UInt8) : St := (envOf 74 [(0, .str s), (2, .str []), (3, .bool false), (4, .sl (some (0, 0)) acc.length (.rel 0))], [.row 5 1 (bv acc)])
def C13l : Cfg := tbC Q tb13 (fun _ => false) kdI
def C13m : Cfg := tbC Q tb13 (fun k => k == 0 || k == 2) kdI
def C13 (s : List UInt8) : Cfg := { tbC Q tb13 (fun k => k == 0) kdI with
  lw := fun id => if id = 3 then some fun st K => st = n13 s 1 ∧ askB (refF s).isEmpty (K (.exit 0) (xn13 s)) (K (.exit 0) (xh13 s (refF s))) else none
  F := fun id => if id = 3 then t13 else ⟨[], .all⟩ }
end Go.Proofs.YtahdfjmdoljgiaaDoor
