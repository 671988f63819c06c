/- Tables of contracts that may change memory in any way. -/
import Derived.Test.YtiijphmpkmmpjaaAmHe
set_option linter.unusedVariables false
namespace Go.Am
open Go Go.RowKit
structure TbG where
  f : FuncId
  s : List AV → AHeap → Option (AV × AHeap)
  T : List AV → AHeap → (AV × AHeap → Prop) → Prop
def TbG.OK (x : TbG) : Prop := ∀ vs h K, x.T vs h K → ∃ r, x.s vs h = some r ∧ K r
def TbF.g (x : TbF) : TbG := ⟨x.f, rowS x.s, x.T⟩
end Go.Am
