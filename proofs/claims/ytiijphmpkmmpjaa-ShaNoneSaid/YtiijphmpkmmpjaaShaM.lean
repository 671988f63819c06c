import Derived.Test.YtiijphmpkmmpjaaShaL
import Derived.Test.YtiijphmpkmmpjaaAmX
namespace Go.Proofs.Ytiijphmpkmmpjaa
open Go Go.Am
set_option maxRecDepth 100000
set_option linter.unusedVariables false
set_option linter.unusedSimpArgs false

def tabG (g : FuncId) : Option PF := match g with
  | 12 => some p12
  | 15 => some p15
  | 17 => some p17
  | 18 => some p18
  | 20 => some p20
  | 25 => some p25
  | 34 => some p34
  | 35 => some p35
  | 36 => some p36
  | _ => none
theorem tabG_ok : TabOK Try.prog tabG Q := fun g pf h => by
  unfold tabG at h
  split at h
  · cases h; exact ⟨_, ht12, c12⟩
  · cases h; exact ⟨_, ht15, c15⟩
  · cases h; exact ⟨_, ht17, c17⟩
  · cases h; exact ⟨_, ht18, c18⟩
  · cases h; exact ⟨_, ht20, c20⟩
  · cases h; exact ⟨_, ht25, c25⟩
  · cases h; exact ⟨_, ht34, c34⟩
  · cases h; exact ⟨_, ht35, c35⟩
  · cases h; exact ⟨_, ht36, c36⟩
  · cases h
noncomputable def SG (n : Nat) : Specs := runX Try.prog tabG Q (fun g => match g with | 10 => some (fun args _ => blockS args) | _ => none) (fun _ => none) (fun _ _ => []) 200 n
theorem SG_ok (n : Nat) : (SG n).OK Try.prog ∧ ∀ g, ((SG n).q g).isSome = Q g := runX_ok mixed tabG_ok quietText (fun g s h => by
  split at h
  · cases h; exact block_ok
  · cases h) (fun _ _ h => by cases h) _ _ n
theorem begun_run : (runF Try.prog (SG 6) (fun _ => []) 200 p9 [] []).map (·.1) = some (.bool true) := by kernel_rfl
theorem begun_ok : QuietOK Try.prog 9 fun args _ => (match args with | [] => some (.bool true) | _ => none) := quiet_of_plain mixed (SG_ok 6).1 ht9 fun args v hv => by
  split at hv
  · cases hv
    have h := begun_run
    simp only [Option.map_eq_some_iff] at h
    obtain ⟨⟨v1, h1⟩, h2, h3⟩ := h
    simp only at h3
    subst h3
    exact ⟨rfl, rfl, _, _, _, runF_sound (SG_ok 6).2 c9 h2⟩
  · cases hv
end Go.Proofs.Ytiijphmpkmmpjaa
