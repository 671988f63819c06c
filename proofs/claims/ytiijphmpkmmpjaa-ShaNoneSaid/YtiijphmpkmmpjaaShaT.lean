import Derived.Test.YtiijphmpkmmpjaaShaS
namespace Go.Proofs.Ytiijphmpkmmpjaa
open Go Go.Am
set_option maxRecDepth 100000
set_option linter.unusedVariables false
set_option linter.unusedSimpArgs false
theorem padC_eq (n : Int) (L : Nat) (hn : 0 ≤ n) (hL : L ≤ 1000) : padC n (L : Int) = !decide ((n % 64 + L + 8) % 64 = 0) := by
  have h1 : n.tmod 64 = n % 64 := Int.tmod_eq_emod_of_nonneg hn
  have h2 : IntKind.i64.wrap (n % 64 + L) = n % 64 + L := by rw [IntKind.wrap_i64]; omega
  have h3 : IntKind.i64.wrap (n % 64 + L + 8) = n % 64 + L + 8 := by rw [IntKind.wrap_i64]; omega
  have h4 : (n % 64 + (L : Int) + 8).tmod 64 = (n % 64 + L + 8) % 64 := Int.tmod_eq_emod_of_nonneg (by omega)
  unfold padC
  rw [h1, h2, h3, h4]
  rfl
theorem zc (n : Int) (hn : 0 ≤ n) : ∃ j, j ≤ 64 ∧ (∀ i, i < j → padC n ((1 + i : Nat) : Int) = true) ∧ padC n ((1 + j : Nat) : Int) = false := by
  refine ⟨((119 - n % 64) % 64).toNat, by omega, fun i hi => ?_, ?_⟩
  · rw [padC_eq n (1 + i) hn (by omega)]
    simp only [Bool.not_eq_true', decide_eq_false_iff_not]
    omega
  · rw [padC_eq n _ hn (by omega)]
    simp only [Bool.not_eq_false', decide_eq_true_eq]
    omega
end Go.Proofs.Ytiijphmpkmmpjaa
