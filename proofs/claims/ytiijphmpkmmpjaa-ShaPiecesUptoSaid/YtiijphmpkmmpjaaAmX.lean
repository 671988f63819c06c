/- Runs of resolved functions by one another, over contracts that stand. -/
import Derived.Test.YtiijphmpkmmpjaaAmW
set_option linter.unusedVariables false
set_option linter.unusedSimpArgs false
namespace Go.Am
open Go Go.RowKit
def orElseR {α : Type} (a b : Option α) : Option α := match a with
  | some x => some x
  | none => b
/-- Functions run by one another's resolved code, so deep; those that have a contract by it. -/
def runX (P : Program) (tab : FuncId → Option PF) (Q : FuncId → Bool) (bq : FuncId → Option (List AV → AHeap → Option AV)) (bf : FuncId → Option (List AV → AHeap → Option (AV × AHeap))) (F : FuncId → Nat → List Nat) (N : Nat) : Nat → Specs
  | 0 => mkS Q bq bf
  | n + 1 => mkS Q
    (fun g => orElseR (bq g) ((tab g).map fun pf => fun args h => (impArgs h 0 args).bind fun r => match runF P (runX P tab Q bq bf F N n) (F g) N pf r.1 r.2 with
      | some (v, _) => if v.closed then some v else none
      | none => none))
    (fun g => orElseR (bf g) ((tab g).map fun pf => fun args h => runF P (runX P tab Q bq bf F N n) (F g) N pf args h))
theorem runX_ok {P : Program} (hm : P.follows .mixedOrders = true) {tab : FuncId → Option PF} {Q : FuncId → Bool} (hT : TabOK P tab Q) (hQ : ∀ g, Q g = true → ∃ fn, HasText P g fn)
    {bq : FuncId → Option (List AV → AHeap → Option AV)} {bf : FuncId → Option (List AV → AHeap → Option (AV × AHeap))} (hq : ∀ g s, bq g = some s → QuietOK P g s) (hf : ∀ g s, bf g = some s → FullOK P g s) (F : FuncId → Nat → List Nat) (N : Nat) :
    ∀ n, (runX P tab Q bq bf F N n).OK P ∧ ∀ g, ((runX P tab Q bq bf F N n).q g).isSome = Q g
  | 0 => ⟨mkS_ok hQ (fun g s _ h => hq g s h) hf, fun g => mkS_isSome g⟩
  | n + 1 => by
    obtain ⟨h1, h2⟩ := runX_ok hm hT hQ hq hf F N n
    refine ⟨mkS_ok hQ (fun g s hg hs => ?_) (fun g s hs => ?_), fun g => mkS_isSome g⟩
    · unfold orElseR at hs
      split at hs
      · rename_i x hx; cases hs; exact hq g _ hx
      · simp only [Option.map_eq_some_iff] at hs
        obtain ⟨pf, hpf, rfl⟩ := hs
        obtain ⟨fn, htx, hc⟩ := hT g pf hpf
        refine quiet_of_body hm h1 htx (g := fun as hp => match runF P (runX P tab Q bq bf F N n) (F g) N pf as hp with
          | some (v, _) => if v.closed then some v else none
          | none => none) (fun args hs v hv => ?_)
        split at hv
        · rename_i v' h' he
          split at hv
          · rename_i hc'; cases hv; exact ⟨hc', _, _, _, runF_sound h2 hc he⟩
          · cases hv
        · cases hv
    · unfold orElseR at hs
      split at hs
      · rename_i x hx; cases hs; exact hf g _ hx
      · simp only [Option.map_eq_some_iff] at hs
        obtain ⟨pf, hpf, rfl⟩ := hs
        obtain ⟨fn, htx, hc⟩ := hT g pf hpf
        exact full_of_body hm h1 htx (fun args h v h' he => ⟨_, _, runF_sound h2 hc he⟩)
end Go.Am
