/- Hex of the document, as a contract. -/
import Derived.Test.YtiijphmpkmmpjaaShaTc
namespace Go.Proofs.Ytiijphmpkmmpjaa
open Go Go.Am
set_option maxRecDepth 100000
set_option linter.unusedVariables false
set_option linter.unusedSimpArgs false

theorem hex26 (f : Nat → Int) : (runV Try.prog S0 (fun _ => none) noCV (fun _ => []) 100 p26 [.agg (ints .u8 32 f)] [] (List.replicate 33 .lit)).map (fun r => (r.1.1, r.2)) = some (.str (hexV f), con26 f) := by kernel_rfl
theorem hex26_ok : QuietOK Try.prog 26 fun args _ => hexS args := quiet_of_plain mixed S0_ok ht26 fun args v hv => by
  unfold hexS at hv
  split at hv
  · rename_i cs
    split at hv
    · rename_i hc
      cases hv
      simp only [Bool.and_eq_true] at hc
      obtain ⟨h1, h2⟩ := hc
      have e := ints_dec h1
      have h := hex26 (dec cs)
      rw [← e] at h
      simp only [Option.map_eq_some_iff] at h
      obtain ⟨⟨⟨v1, hp⟩, cl⟩, h3, h4⟩ := h
      simp only [Prod.mk.injEq] at h4
      obtain ⟨rfl, rfl⟩ := h4
      refine ⟨?_, rfl, _, _, _, runF_sound S0_q c26 (runV_ok _ _ _ _ (noCV_ok _) h3 (con26_ok h2))⟩
      rw [e]
      kernel_rfl
    · cases hv
  · cases hv
end Go.Proofs.Ytiijphmpkmmpjaa
