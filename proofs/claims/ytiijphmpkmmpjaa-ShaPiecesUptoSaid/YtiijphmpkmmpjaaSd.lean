/- Written by merging: ShaI ShaJ ShaK. -/
import Derived.Test.YtiijphmpkmmpjaaSa
namespace Go.Proofs.Ytiijphmpkmmpjaa
open Go Go.Am
set_option maxRecDepth 100000
set_option linter.unusedVariables false
set_option linter.unusedSimpArgs false
theorem step11a (P : Program) (g B B' W : Nat → Int) : AllLt (PP11 P g B B' W) 0 22 := (⟨⟨⟨⟨⟨⟨⟨⟨⟨⟨⟨⟨⟨⟨⟨⟨⟨⟨⟨⟨⟨⟨trivial, fun _ _ => by kernel_rfl⟩, fun _ _ => by kernel_rfl⟩, fun _ _ => by kernel_rfl⟩, fun _ _ => by kernel_rfl⟩, fun _ _ => by kernel_rfl⟩, fun _ _ => by kernel_rfl⟩, fun _ _ => by kernel_rfl⟩, fun _ _ => by kernel_rfl⟩, fun _ _ => by kernel_rfl⟩, fun _ _ => by kernel_rfl⟩, fun _ _ => by kernel_rfl⟩, fun _ _ => by kernel_rfl⟩, fun _ _ => by kernel_rfl⟩, fun _ _ => by kernel_rfl⟩, fun _ _ => by kernel_rfl⟩, fun _ _ => by kernel_rfl⟩, fun _ _ => by kernel_rfl⟩, fun _ _ => by kernel_rfl⟩, fun _ _ => by kernel_rfl⟩, fun _ _ => by kernel_rfl⟩, fun _ _ => by kernel_rfl⟩, fun _ _ => by kernel_rfl⟩)
theorem step11b (P : Program) (g B B' W : Nat → Int) : AllLt (PP11 P g B B' W) 22 22 := (⟨⟨⟨⟨⟨⟨⟨⟨⟨⟨⟨⟨⟨⟨⟨⟨⟨⟨⟨⟨⟨⟨trivial, fun _ _ => by kernel_rfl⟩, fun _ _ => by kernel_rfl⟩, fun _ _ => by kernel_rfl⟩, fun _ _ => by kernel_rfl⟩, fun _ _ => by kernel_rfl⟩, fun _ _ => by kernel_rfl⟩, fun _ _ => by kernel_rfl⟩, fun _ _ => by kernel_rfl⟩, fun _ _ => by kernel_rfl⟩, fun _ _ => by kernel_rfl⟩, fun _ _ => by kernel_rfl⟩, fun _ _ => by kernel_rfl⟩, fun _ _ => by kernel_rfl⟩, fun _ _ => by kernel_rfl⟩, fun _ _ => by kernel_rfl⟩, fun _ _ => by kernel_rfl⟩, fun _ _ => by kernel_rfl⟩, fun _ _ => by kernel_rfl⟩, fun _ _ => by kernel_rfl⟩, fun _ _ => by kernel_rfl⟩, fun _ _ => by kernel_rfl⟩, fun _ _ => by kernel_rfl⟩)
theorem step11c (P : Program) (g B B' W : Nat → Int) : AllLt (PP11 P g B B' W) 44 20 := (⟨⟨⟨⟨⟨⟨⟨⟨⟨⟨⟨⟨⟨⟨⟨⟨⟨⟨⟨⟨trivial, fun _ _ => by kernel_rfl⟩, fun _ _ => by kernel_rfl⟩, fun _ _ => by kernel_rfl⟩, fun _ _ => by kernel_rfl⟩, fun _ _ => by kernel_rfl⟩, fun _ _ => by kernel_rfl⟩, fun _ _ => by kernel_rfl⟩, fun _ _ => by kernel_rfl⟩, fun _ _ => by kernel_rfl⟩, fun _ _ => by kernel_rfl⟩, fun _ _ => by kernel_rfl⟩, fun _ _ => by kernel_rfl⟩, fun _ _ => by kernel_rfl⟩, fun _ _ => by kernel_rfl⟩, fun _ _ => by kernel_rfl⟩, fun _ _ => by kernel_rfl⟩, fun _ _ => by kernel_rfl⟩, fun _ _ => by kernel_rfl⟩, fun _ _ => by kernel_rfl⟩, fun _ _ => by kernel_rfl⟩)

end Go.Proofs.Ytiijphmpkmmpjaa
