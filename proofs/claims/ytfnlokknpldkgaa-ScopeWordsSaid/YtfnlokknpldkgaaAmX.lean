/- Runs of resolved functions by one another, over contracts that stand. -/
import Derived.Test.YtfnlokknpldkgaaAmW
set_option linter.unusedVariables false
set_option linter.unusedSimpArgs false
namespace Go.Am
open Go Go.RowKit
def orElseR {α : Type} (a b : Option α) : Option α := match a with
  | some x => some x
  | none => b
end Go.Am
