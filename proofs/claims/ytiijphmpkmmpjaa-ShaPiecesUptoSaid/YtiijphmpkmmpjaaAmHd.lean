/- Contracts out of walks that were made otherwise; tables of contracts. -/
import Derived.Test.YtiijphmpkmmpjaaAmHb
import Derived.Test.YtiijphmpkmmpjaaAmX
set_option linter.unusedVariables false
namespace Go.Am
open Go Go.RowKit
/-- The shape of what a function hands back. -/
inductive Rs1 where
  | one (k : K1)
  | agg (l : List K1)
inductive Rs where
  | of (k : Rs1)
  | tup (l : List Rs1)
/-- Quiet contracts, each with the shape of what comes back. -/
structure TbE where
  f : FuncId
  s : List AV → AHeap → Option AV
  r : Rs
section
variable {P : Program} {C : Cfg}
/-- A loop, round by round, however each round was shown. -/
theorem W_roundsG {S : Specs} {b0 : Nat} {a : PC} {σ : Type} (Cs : σ → St) (I : σ → Prop) (μ : σ → Nat) (K : σ → AExit → St → Prop)
    (h : ∀ s, I s → W P S b0 (.inl a) (Cs s) fun e st => match e with
      | .normal => ∃ s', st = Cs s' ∧ I s' ∧ μ s' < μ s ∧ ∀ e st, K s' e st → K s e st
      | e => K s e st) : ∀ s, I s → W P S b0 (.inl (.loop a)) (Cs s) (K s) := by
  intro s
  generalize hn : μ s = n
  induction n using Nat.strongRecOn generalizing s with
  | _ n ih =>
    intro hs
    refine W_loop (W_mono (h s hs) fun e st hk => ?_)
    cases e with
    | normal =>
      obtain ⟨s', rfl, h2, h3, h4⟩ := hk
      exact W_mono (ih (μ s') (by omega) s' rfl h2) h4
    | _ => exact hk
end
theorem part_loop {P : Program} {C : Cfg} {a : PC} {id : Nat} {T : St → (AExit → St → Prop) → Prop} (h1 : headId a = some id) (h2 : C.lw id = some T) (h3 : ∀ st K, T st K → W P C.S C.b0 (.inl (.loop a)) st K) : PartOK P C (.loop a) := by
  intro T' st K hT ht
  rw [h1, Option.bind_some, h2] at hT
  cases hT
  exact h3 st K ht
theorem no_parts {P : Program} {C : Cfg} {c : PC} (h : partsIn c = []) : ∀ x ∈ partsIn c, PartOK P C x := by
  intro x hx; rw [h] at hx; cases hx
theorem one_part {P : Program} {C : Cfg} {c a : PC} (h : partsIn c = [a]) (ha : PartOK P C a) : ∀ x ∈ partsIn c, PartOK P C x := by
  intro x hx; rw [h, List.mem_singleton] at hx; subst hx; exact ha
end Go.Am
