/- Loops run by the kernel; contracts of functions of plain values. -/
import Derived.Test.YtfnlokknpldkgaaAmU
set_option linter.unusedVariables false
set_option linter.unusedSimpArgs false
namespace Go.Am
open Go Go.RowKit
def loopN {σ : Type} (step : Nat → σ → σ) : Nat → Nat → σ → σ
  | _, 0, x => x
  | t, j + 1, x => loopN step (t + 1) j (step t x)
section
variable {P : Program} {S : Specs} {F : Nat → List Nat}
end
def isInt (k : IntKind) : AV → Bool
  | .int k' _ => decide (k' = k)
  | _ => false
def dec (l : List AV) (i : Nat) : Int := match l[i]? with
  | some (.int _ n) => n
  | _ => 0
end Go.Am
