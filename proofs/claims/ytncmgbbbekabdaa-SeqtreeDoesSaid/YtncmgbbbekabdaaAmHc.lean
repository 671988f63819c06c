/- Functions run by one another's code, reading whatever their arguments reach. -/
import Derived.Test.YtncmgbbbekabdaaAmHb
import Derived.Test.YtncmgbbbekabdaaAmX
set_option linter.unusedVariables false
set_option linter.unusedSimpArgs false
namespace Go.Am
open Go Go.RowKit
/-- Functions run by one another's resolved code, so deep; those that have a contract by it. -/
def runD (P : Program) (tab : FuncId → Option PF) (Q : FuncId → Bool) (bq : FuncId → Option (List AV → AHeap → Option AV)) (bf : FuncId → Option (List AV → AHeap → Option (AV × AHeap))) (F : FuncId → Nat → List Nat) (N d : Nat) : Nat → Specs
  | 0 => mkS Q bq bf
  | n + 1 => mkS Q
    (fun g => orElseR (bq g) ((tab g).map fun pf => fun args h => (impD d h args).bind fun r => match runF P (runD P tab Q bq bf F N d n) (F g) N pf r.1 r.2 with
      | some (v, _) => if v.closed then some v else none
      | none => none))
    (fun g => orElseR (bf g) ((tab g).map fun pf => fun args h => runF P (runD P tab Q bq bf F N d n) (F g) N pf args h))
theorem runD_ok {P : Program} (hm : P.follows .mixedOrders = true) {tab : FuncId → Option PF} {Q : FuncId → Bool} (hT : TabOK P tab Q) (hQ : ∀ g, Q g = true → ∃ fn, HasText P g fn)
    {bq : FuncId → Option (List AV → AHeap → Option AV)} {bf : FuncId → Option (List AV → AHeap → Option (AV × AHeap))} (hq : ∀ g s, bq g = some s → QuietOK P g s) (hf : ∀ g s, bf g = some s → FullOK P g s) (F : FuncId → Nat → List Nat) (N d : Nat) :
    ∀ n, (runD P tab Q bq bf F N d n).OK P ∧ ∀ g, ((runD P tab Q bq bf F N d n).q g).isSome = Q g
  | 0 => ⟨mkS_ok hQ (fun g s _ h => hq g s h) hf, fun g => mkS_isSome g⟩
  | n + 1 => by
    obtain ⟨h1, h2⟩ := runD_ok hm hT hQ hq hf F N d n
    refine ⟨mkS_ok hQ (fun g s hg hs => ?_) (fun g s hs => ?_), fun g => mkS_isSome g⟩
    · unfold orElseR at hs
      split at hs
      · rename_i x hx; cases hs; exact hq g _ hx
      · simp only [Option.map_eq_some_iff] at hs
        obtain ⟨pf, hpf, rfl⟩ := hs
        obtain ⟨fn, htx, hc⟩ := hT g pf hpf
        refine quiet_deep hm h1 htx d (g := fun as hp => match runF P (runD P tab Q bq bf F N d n) (F g) N pf as hp with
          | some (v, _) => if v.closed then some v else none
          | none => none) (fun args hs v hv => ?_)
        split at hv
        · rename_i v' h' he
          split at hv
          · rename_i hc'; cases hv; exact ⟨hc', .inl ⟨_, _, _, runF_sound h2 hc he⟩⟩
          · cases hv
        · cases hv
    · unfold orElseR at hs
      split at hs
      · rename_i x hx; cases hs; exact hf g _ hx
      · simp only [Option.map_eq_some_iff] at hs
        obtain ⟨pf, hpf, rfl⟩ := hs
        obtain ⟨fn, htx, hc⟩ := hT g pf hpf
        exact full_of_body hm h1 htx (fun args h v h' he => ⟨_, _, runF_sound h2 hc he⟩)
/-- What a call of nothing but plain values comes to, in a run from nothing. -/
theorem quiet_closed {P : Program} {S : Specs} {Q : FuncId → Bool} (hm : P.follows .mixedOrders = true) (hS : S.OK P) (hQ : ∀ g, (S.q g).isSome = Q g) {f : FuncId} {fn : Func} {pf : PF} (hf : HasText P f fn) (hc : compF P Q fn = some pf)
    {F : Nat → List Nat} {N : Nat} {args : List AV} {v : AV} (ha : args.all AV.closed = true) (hv : v.closed = true) (hr : (runF P S F N pf args []).map (·.1) = some v) : QuietOK P f fun as _ => @ite _ (as = args) (Classical.propDecidable _) (some v) none :=
  quiet_plain hf fun as u hu => by
    split at hu
    · rename_i he
      cases hu
      subst he
      simp only [Option.map_eq_some_iff] at hr
      obtain ⟨⟨v1, h1⟩, h2, h3⟩ := hr
      simp only at h3
      subst h3
      exact ⟨ha, hv, h1, fun ρ B w0 w hI hok => body_sound hm hS hf.1 (runF_sound hQ hc h2) hI hok⟩
    · cases hu
section
variable {P : Program} {C : Cfg}
/-- What a round comes to, memory swept. -/
def postW (C : Cfg) (tn tx : Tidy) (K : AExit → St → Prop) : AExit → St → Prop
  | .normal, st => match tidyW C tn st with
    | (st1, bs) => chksW bs (K .normal st1)
  | .ret, st => match tidyW C tx st with
    | (st1, bs) => chksW bs (K .ret st1)
  | .exit i, st => match tidyW C tx st with
    | (st1, bs) => chksW bs (K (.exit i) st1)
  | .goto i, st => match tidyW C tx st with
    | (st1, bs) => chksW bs (K (.goto i) st1)
theorem W_postW {x : PC ⊕ (PC × PC)} {st : St} {tn tx : Tidy} {K : AExit → St → Prop} (h : W P C.S C.b0 x st (postW C tn tx K)) : W P C.S C.b0 x st K := by
  obtain ⟨e, st1, h1, h2⟩ := h
  have go : ∀ (t : Tidy) (e : AExit), Run P C.S C.b0 x st (e, st1) → (match tidyW C t st1 with | (st2, bs) => chksW bs (K e st2)) → W P C.S C.b0 x st K := by
    intro t e h1 h2
    have he : tidyW C t st1 = ((tidyW C t st1).1, (tidyW C t st1).2) := rfl
    rw [he] at h2
    obtain ⟨h3, h4⟩ := chksD h2
    refine ⟨e, _, .post t h1, ?_⟩
    rw [tidyW_ok C h3]
    exact h4
  cases e with
  | normal => exact go tn _ h1 h2
  | ret => exact go tx _ h1 h2
  | exit i => exact go tx _ h1 h2
  | goto i => exact go tx _ h1 h2
/-- A loop, round by round. -/
theorem W_rounds (hcw : CwOK C.S C.cw) {a : PC} (hp : ∀ x ∈ partsIn a, PartOK P C x) {σ : Type} (Cs : σ → St) (I : σ → Prop) (μ : σ → Nat) (K : σ → AExit → St → Prop) (tn tx : Tidy)
    (h : ∀ s, I s → ∃ n, wpP P C n (.inl a) (Cs s) (postW C tn tx fun e st => match e with
      | .normal => ∃ s', st = Cs s' ∧ I s' ∧ μ s' < μ s ∧ ∀ e st, K s' e st → K s e st
      | e => K s e st)) : ∀ s, I s → W P C.S C.b0 (.inl (.loop a)) (Cs s) (K s) := by
  intro s
  generalize hn : μ s = n
  induction n using Nat.strongRecOn generalizing s with
  | _ n ih =>
    intro hs
    obtain ⟨m, h1⟩ := h s hs
    refine W_loop (W_mono (W_postW ((wpP_ok hcw m).1 a (Cs s) _ hp h1)) fun e st hk => ?_)
    cases e with
    | normal =>
      obtain ⟨s', rfl, h2, h3, h4⟩ := hk
      exact W_mono (ih (μ s') (by omega) s' rfl h2) h4
    | _ => exact hk
/-- The temporaries but these. -/
def dropT (n : Nat) (ks : List Nat) : List Nat := (List.range n).filter fun i => !ks.contains i
end
end Go.Am
