/- Functions run by one another's code, reading whatever their arguments reach. -/
import Derived.Test.YtncmgbbbekabdaaAmHb
import Derived.Test.YtncmgbbbekabdaaAmX
set_option linter.unusedVariables false
set_option linter.unusedSimpArgs false
namespace Go.Am
open Go Go.RowKit
/-- Functions run by one another's resolved code, so deep; those that have a contract by it. -/
def runD (P : Program) (tab : FuncId → Option PF) (Q : FuncId → Bool) (bq : FuncId → Option (List AV → AHeap → Option AV)) (bf : FuncId → Option (List AV → AHeap → Option (AV × AHeap))) (F : FuncId → Nat → List Nat) (N d : Nat) : Nat → Specs
  | 0 => mkS Q bq bf
  | n + 1 => mkS Q
    (fun g => orElseR (bq g) ((tab g).map fun pf => fun args h => (impD d h args).bind fun r => match runF P (runD P tab Q bq bf F N d n) (F g) N pf r.1 r.2 with
      | some (v, _) => if v.closed then some v else none
      | none => none))
    (fun g => orElseR (bf g) ((tab g).map fun pf => fun args h => runF P (runD P tab Q bq bf F N d n) (F g) N pf args h))
theorem runD_ok {P : Program} (hm : P.follows .mixedOrders = true) {tab : FuncId → Option PF} {Q : FuncId → Bool} (hT : TabOK P tab Q) (hQ : ∀ g, Q g = true → ∃ fn, HasText P g fn)
    {bq : FuncId → Option (List AV → AHeap → Option AV)} {bf : FuncId → Option (List AV → AHeap → Option (AV × AHeap))} (hq : ∀ g s, bq g = some s → QuietOK P g s) (hf : ∀ g s, bf g = some s → FullOK P g s) (F : FuncId → Nat → List Nat) (N d : Nat) :
    ∀ n, (runD P tab Q bq bf F N d n).OK P ∧ ∀ g, ((runD P tab Q bq bf F N d n).q g).isSome = Q g
  | 0 => ⟨mkS_ok hQ (fun g s _ h => hq g s h) hf, fun g => mkS_isSome g⟩
  | n + 1 => by
    obtain ⟨h1, h2⟩ := runD_ok hm hT hQ hq hf F N d n
    refine ⟨mkS_ok hQ (fun g s hg hs => ?_) (fun g s hs => ?_), fun g => mkS_isSome g⟩
    · unfold orElseR at hs
      split at hs
      · rename_i x hx; cases hs; exact hq g _ hx
      · simp only [Option.map_eq_some_iff] at hs
        obtain ⟨pf, hpf, rfl⟩ := hs
        obtain ⟨fn, htx, hc⟩ := hT g pf hpf
        refine quiet_deep hm h1 htx d (g := fun as hp => match runF P (runD P tab Q bq bf F N d n) (F g) N pf as hp with
          | some (v, _) => if v.closed then some v else none
          | none => none) (fun args hs v hv => ?_)
        split at hv
        · rename_i v' h' he
          split at hv
          · rename_i hc'; cases hv; exact ⟨hc', .inl ⟨_, _, _, runF_sound h2 hc he⟩⟩
          · cases hv
        · cases hv
    · unfold orElseR at hs
      split at hs
      · rename_i x hx; cases hs; exact hf g _ hx
      · simp only [Option.map_eq_some_iff] at hs
        obtain ⟨pf, hpf, rfl⟩ := hs
        obtain ⟨fn, htx, hc⟩ := hT g pf hpf
        exact full_of_body hm h1 htx (fun args h v h' he => ⟨_, _, runF_sound h2 hc he⟩)
/-- What a call of nothing but plain values comes to, in a run from nothing. -/
theorem quiet_closed {P : Program} {S : Specs} {Q : FuncId → Bool} (hm : P.follows .mixedOrders = true) (hS : S.OK P) (hQ : ∀ g, (S.q g).isSome = Q g) {f : FuncId} {fn : Func} {pf : PF} (hf : HasText P f fn) (hc : compF P Q fn = some pf)
    {F : Nat → List Nat} {N : Nat} {args : List AV} {v : AV} (ha : args.all AV.closed = true) (hv : v.closed = true) (hr : (runF P S F N pf args []).map (·.1) = some v) : QuietOK P f fun as _ => @ite _ (as = args) (Classical.propDecidable _) (some v) none :=
  quiet_plain hf fun as u hu => by
    split at hu
    · rename_i he
      cases hu
      subst he
      simp only [Option.map_eq_some_iff] at hr
      obtain ⟨⟨v1, h1⟩, h2, h3⟩ := hr
      simp only at h3
      subst h3
      exact ⟨ha, hv, h1, fun ρ B w0 w hI hok => body_sound hm hS hf.1 (runF_sound hQ hc h2) hI hok⟩
    · cases hu
section
variable {P : Program} {C : Cfg}
/-- The temporaries but these. -/
def dropT (n : Nat) (ks : List Nat) : List Nat := (List.range n).filter fun i => !ks.contains i
end
end Go.Am
