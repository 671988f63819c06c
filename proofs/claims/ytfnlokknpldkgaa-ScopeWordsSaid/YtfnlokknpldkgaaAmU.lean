/- Runs of resolved functions by one another, and contracts put side by side. -/
import Derived.Test.YtfnlokknpldkgaaAmT3
set_option linter.unusedVariables false
set_option linter.unusedSimpArgs false
namespace Go.Am
open Go Go.RowKit
/-- Contracts side by side: those of Q leave memory as it was. -/
def mkS (Q : FuncId → Bool) (q : FuncId → Option (List AV → AHeap → Option AV)) (f : FuncId → Option (List AV → AHeap → Option (AV × AHeap))) : Specs :=
  { q := fun g => if Q g then some ((q g).getD fun _ _ => none) else none, f := f }
theorem mkS_isSome {Q : FuncId → Bool} {q : FuncId → Option (List AV → AHeap → Option AV)} {f : FuncId → Option (List AV → AHeap → Option (AV × AHeap))} (g : FuncId) : ((mkS Q q f).q g).isSome = Q g := by
  unfold mkS
  by_cases h : Q g = true <;> simp [h]
theorem mkS_ok {P : Program} {Q : FuncId → Bool} {q : FuncId → Option (List AV → AHeap → Option AV)} {f : FuncId → Option (List AV → AHeap → Option (AV × AHeap))}
    (hQ : ∀ g, Q g = true → ∃ fn, HasText P g fn) (hq : ∀ g s, Q g = true → q g = some s → QuietOK P g s) (hf : ∀ g s, f g = some s → FullOK P g s) : (mkS Q q f).OK P := by
  refine ⟨fun g s hs => ?_, hf, fun g h => (by cases h), fun g h => (by cases h)⟩
  unfold mkS at hs
  simp only at hs
  split at hs
  · rename_i hg
    cases hs
    cases hx : q g with
    | some s => exact hq g s hg hx
    | none =>
      obtain ⟨fn, h1, h2, h3⟩ := hQ g hg
      exact ⟨fun _ _ _ h => (by cases h), fun _ _ _ _ _ _ => rfl, fn, h1, h2, h3⟩
  · cases hs
/-- The table holds the program's functions. -/
def TabOK (P : Program) (tab : FuncId → Option PF) (Q : FuncId → Bool) : Prop := ∀ g pf, tab g = some pf → ∃ fn, HasText P g fn ∧ compF P Q fn = some pf
end Go.Am
