/- Functions run by one another's code, reading whatever their arguments reach. -/
import Derived.Test.YtfnlokknpldkgaaAmHb
import Derived.Test.YtfnlokknpldkgaaAmX
set_option linter.unusedVariables false
set_option linter.unusedSimpArgs false
namespace Go.Am
open Go Go.RowKit
section
variable {P : Program} {C : Cfg}
/-- The temporaries but these. -/
def dropT (n : Nat) (ks : List Nat) : List Nat := (List.range n).filter fun i => !ks.contains i
end
end Go.Am
