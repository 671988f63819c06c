/- Runs of the whole program by the evaluator itself: for closed calls. -/
import Derived.Test.YtahdfjmdoljgiaaDoorAmN
set_option linter.unusedVariables false
set_option linter.unusedSimpArgs false
namespace Go.Am
open Go Go.RowKit

/-- The functions of a program as the evaluator runs them; those of the list leave memory as it was. -/
def runS (P : Program) (quiet : List FuncId) (F : FuncId → Nat → List Nat) (N : Nat) : Nat → Specs
  | 0 => ⟨fun _ => none, fun _ => none⟩
  | n + 1 =>
    { q := fun g => if quiet.contains g then some fun args h => (impArgs h 0 args).bind fun r =>
        match P.funcs[g]? with
        | some fn => if fn.name == "runtime.NumGoroutine" then none else
          match evalBody P (runS P quiet F N n) (F g) N fn r.1 r.2 with
          | some (v, _) => if v.closed then some v else none
          | none => none
        | none => none
        else none
      f := fun g => some fun args h =>
        match P.funcs[g]? with
        | some fn => if fn.name == "runtime.NumGoroutine" then none else evalBody P (runS P quiet F N n) (F g) N fn args h
        | none => none }
end Go.Am
