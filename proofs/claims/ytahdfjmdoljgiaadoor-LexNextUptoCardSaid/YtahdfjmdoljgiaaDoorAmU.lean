/- Runs of resolved functions by one another, and contracts put side by side. -/
import Derived.Test.YtahdfjmdoljgiaaDoorAmT
set_option linter.unusedVariables false
set_option linter.unusedSimpArgs false
namespace Go.Am
open Go Go.RowKit

/-- Contracts side by side: those of Q leave memory as it was. -/
def mkS (Q : FuncId → Bool) (q : FuncId → Option (List AV → AHeap → Option AV)) (f : FuncId → Option (List AV → AHeap → Option (AV × AHeap))) : Specs :=
  ⟨fun g => if Q g then some ((q g).getD fun _ _ => none) else none, f⟩

theorem mkS_isSome {Q : FuncId → Bool} {q : FuncId → Option (List AV → AHeap → Option AV)} {f : FuncId → Option (List AV → AHeap → Option (AV × AHeap))} (g : FuncId) : ((mkS Q q f).q g).isSome = Q g := by
  unfold mkS
  by_cases h : Q g = true <;> simp [h]

theorem mkS_ok {P : Program} {Q : FuncId → Bool} {q : FuncId → Option (List AV → AHeap → Option AV)} {f : FuncId → Option (List AV → AHeap → Option (AV × AHeap))}
    (hQ : ∀ g, Q g = true → ∃ fn, HasText P g fn) (hq : ∀ g s, Q g = true → q g = some s → QuietOK P g s) (hf : ∀ g s, f g = some s → FullOK P g s) : (mkS Q q f).OK P := by
  refine ⟨fun g s hs => ?_, hf⟩
  unfold mkS at hs
  simp only at hs
  split at hs
  · rename_i hg
    cases hs
    cases hx : q g with
    | some s => exact hq g s hg hx
    | none =>
      obtain ⟨fn, h1, h2, h3⟩ := hQ g hg
      exact ⟨fun _ _ _ h => (by cases h), fun _ _ _ _ _ _ => rfl, fn, h1, h2, h3⟩
  · cases hs

/-- Functions run by one another's resolved code, so deep. -/
def runR (P : Program) (tab : FuncId → Option PF) (Q : FuncId → Bool) (F : FuncId → Nat → List Nat) (N : Nat) : Nat → Specs
  | 0 => mkS Q (fun _ => none) (fun _ => none)
  | n + 1 => mkS Q
    (fun g => (tab g).map fun pf => fun args h => (impArgs h 0 args).bind fun r => match runF P (runR P tab Q F N n) (F g) N pf r.1 r.2 with
      | some (v, _) => if v.closed then some v else none
      | none => none)
    (fun g => (tab g).map fun pf => fun args h => runF P (runR P tab Q F N n) (F g) N pf args h)

/-- The table holds the program's functions. -/
def TabOK (P : Program) (tab : FuncId → Option PF) (Q : FuncId → Bool) : Prop := ∀ g pf, tab g = some pf → ∃ fn, HasText P g fn ∧ compF P Q fn = some pf

theorem runR_ok {P : Program} (hm : P.follows .mixedOrders = true) {tab : FuncId → Option PF} {Q : FuncId → Bool} (hT : TabOK P tab Q) (hQ : ∀ g, Q g = true → ∃ fn, HasText P g fn) (F : FuncId → Nat → List Nat) (N : Nat) :
    ∀ n, (runR P tab Q F N n).OK P ∧ ∀ g, ((runR P tab Q F N n).q g).isSome = Q g
  | 0 => ⟨mkS_ok hQ (fun _ _ _ h => by cases h) (fun _ _ h => by cases h), fun g => mkS_isSome g⟩
  | n + 1 => by
    obtain ⟨h1, h2⟩ := runR_ok hm hT hQ F N n
    refine ⟨mkS_ok hQ (fun g s hg hs => ?_) (fun g s hs => ?_), fun g => mkS_isSome g⟩
    · simp only [Option.map_eq_some_iff] at hs
      obtain ⟨pf, hpf, rfl⟩ := hs
      obtain ⟨fn, htx, hc⟩ := hT g pf hpf
      refine quiet_of_body hm h1 htx (g := fun as hp => match runF P (runR P tab Q F N n) (F g) N pf as hp with
        | some (v, _) => if v.closed then some v else none
        | none => none) (fun args hs v hv => ?_)
      split at hv
      · rename_i v' h' he
        split at hv
        · rename_i hc'; cases hv; exact ⟨hc', _, _, _, runF_sound h2 hc he⟩
        · cases hv
      · cases hv
    · simp only [Option.map_eq_some_iff] at hs
      obtain ⟨pf, hpf, rfl⟩ := hs
      obtain ⟨fn, htx, hc⟩ := hT g pf hpf
      exact full_of_body hm h1 htx (fun args h v h' he => ⟨_, _, runF_sound h2 hc he⟩)
end Go.Am
