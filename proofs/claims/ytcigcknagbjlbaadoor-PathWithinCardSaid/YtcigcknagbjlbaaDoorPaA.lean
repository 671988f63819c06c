/- Sections as data; the closed run of live; shapes of contracts. -/
import Derived.Test.YtcigcknagbjlbaaDoorAmV
import Derived.Test.YtcigcknagbjlbaaDoorAmHc
namespace Go.Proofs.YtcigcknagbjlbaaDoor
open Go Go.Am
set_option maxRecDepth 100000
set_option linter.unusedVariables false
set_option linter.unusedSimpArgs false

theorem quietText : ∀ g, Q g = true → ∃ fn, HasText Tryd.prog g fn := by
  intro g hg
  have : g ∈ quiet := by simpa [Q] using hg
  simp only [quiet, List.mem_cons, List.not_mem_nil, or_false] at this
  rcases this with rfl | rfl | rfl | rfl | rfl | rfl | rfl | rfl | rfl | rfl | rfl | rfl | rfl | rfl | rfl
  all_goals first | exact ⟨_, ht4⟩ | exact ⟨_, ht5⟩ | exact ⟨_, ht6⟩ | exact ⟨_, ht7⟩ | exact ⟨_, ht8⟩ | exact ⟨_, ht9⟩ | exact ⟨_, ht10⟩ | exact ⟨_, ht11⟩ | exact ⟨_, ht12⟩ | exact ⟨_, ht13⟩ | exact ⟨_, ht14⟩ | exact ⟨_, ht15⟩ | exact ⟨_, ht16⟩ | exact ⟨_, ht17⟩ | exact ⟨_, ht18⟩
theorem mixed : Tryd.prog.follows .mixedOrders = true := by kernel_rfl
def tab : FuncId → Option PF
  | 6 => some p6 | 7 => some p7 | 8 => some p8 | 9 => some p9 | 10 => some p10 | 11 => some p11 | 12 => some p12 | 13 => some p13 | 14 => some p14 | 15 => some p15 | 16 => some p16 | 17 => some p17
  | _ => none
theorem tab_ok : TabOK Tryd.prog tab Q := by
  intro g pf h
  unfold tab at h
  split at h <;> cases h
  all_goals first | exact ⟨_, ht6, c6⟩ | exact ⟨_, ht7, c7⟩ | exact ⟨_, ht8, c8⟩ | exact ⟨_, ht9, c9⟩ | exact ⟨_, ht10, c10⟩ | exact ⟨_, ht11, c11⟩ | exact ⟨_, ht12, c12⟩ | exact ⟨_, ht13, c13⟩ | exact ⟨_, ht14, c14⟩ | exact ⟨_, ht15, c15⟩ | exact ⟨_, ht16, c16⟩ | exact ⟨_, ht17, c17⟩
noncomputable def SR : Nat → Specs := runD Tryd.prog tab Q (fun _ => none) (fun _ => none) (fun _ _ => []) 60 2
theorem SR_ok (n : Nat) : (SR n).OK Tryd.prog ∧ ∀ g, ((SR n).q g).isSome = Q g := runD_ok mixed tab_ok quietText (fun _ _ h => by cases h) (fun _ _ h => by cases h) _ _ _ n
theorem live_run : (runF Tryd.prog (SR 6) (fun _ => []) 60 p4 [] []).map (·.1) = some (.bool true) := by kernel_rfl
theorem live_ok : QuietOK Tryd.prog 4 fun vs _ => @ite _ (vs = []) (Classical.propDecidable _) (some (.bool true)) none := quiet_closed mixed (SR_ok 6).1 (SR_ok 6).2 ht4 c4 rfl rfl live_run
end Go.Proofs.YtcigcknagbjlbaaDoor
