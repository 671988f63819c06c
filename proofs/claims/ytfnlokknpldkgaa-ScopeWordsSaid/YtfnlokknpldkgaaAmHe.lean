/- Functions of texts and numbers that hand back new rows; tables of contracts with such. -/
import Derived.Test.YtfnlokknpldkgaaAmHd
import Derived.Test.YtfnlokknpldkgaaAmZc
set_option linter.unusedVariables false
namespace Go.Am
open Go Go.RowKit
/-- A contract: a value, and the rows that are put behind memory. -/
def rowS (s : List AV → Nat → Option (AV × List AObj)) : List AV → AHeap → Option (AV × AHeap) := fun args h => (s args h.length).map fun r => (r.1, h ++ r.2)
structure TbF where
  f : FuncId
  s : List AV → Nat → Option (AV × List AObj)
  T : List AV → AHeap → (AV × AHeap → Prop) → Prop
def TbF.OK (x : TbF) : Prop := ∀ vs h K, x.T vs h K → ∃ v rows, x.s vs h.length = some (v, rows) ∧ K (v, h ++ rows)
end Go.Am
