import Derived.Test.YtiijphmpkmmpjaaShaB
namespace Go.Proofs.Ytiijphmpkmmpjaa
open Go Go.Am
set_option maxRecDepth 100000
set_option linter.unusedVariables false
set_option linter.unusedSimpArgs false
theorem step30a (P : Program) (x y z : AObj) (B : Nat → Int) : AllLt (PP30 P x y z B) 0 16 := (⟨⟨⟨⟨⟨⟨⟨⟨⟨⟨⟨⟨⟨⟨⟨⟨trivial, fun _ _ => by kernel_rfl⟩, fun _ _ => by kernel_rfl⟩, fun _ _ => by kernel_rfl⟩, fun _ _ => by kernel_rfl⟩, fun _ _ => by kernel_rfl⟩, fun _ _ => by kernel_rfl⟩, fun _ _ => by kernel_rfl⟩, fun _ _ => by kernel_rfl⟩, fun _ _ => by kernel_rfl⟩, fun _ _ => by kernel_rfl⟩, fun _ _ => by kernel_rfl⟩, fun _ _ => by kernel_rfl⟩, fun _ _ => by kernel_rfl⟩, fun _ _ => by kernel_rfl⟩, fun _ _ => by kernel_rfl⟩, fun _ _ => by kernel_rfl⟩)
theorem step30b (P : Program) (x y z : AObj) (B : Nat → Int) : AllLt (PP30 P x y z B) 16 24 := (⟨⟨⟨⟨⟨⟨⟨⟨⟨⟨⟨⟨⟨⟨⟨⟨⟨⟨⟨⟨⟨⟨⟨⟨trivial, fun _ _ => by kernel_rfl⟩, fun _ _ => by kernel_rfl⟩, fun _ _ => by kernel_rfl⟩, fun _ _ => by kernel_rfl⟩, fun _ _ => by kernel_rfl⟩, fun _ _ => by kernel_rfl⟩, fun _ _ => by kernel_rfl⟩, fun _ _ => by kernel_rfl⟩, fun _ _ => by kernel_rfl⟩, fun _ _ => by kernel_rfl⟩, fun _ _ => by kernel_rfl⟩, fun _ _ => by kernel_rfl⟩, fun _ _ => by kernel_rfl⟩, fun _ _ => by kernel_rfl⟩, fun _ _ => by kernel_rfl⟩, fun _ _ => by kernel_rfl⟩, fun _ _ => by kernel_rfl⟩, fun _ _ => by kernel_rfl⟩, fun _ _ => by kernel_rfl⟩, fun _ _ => by kernel_rfl⟩, fun _ _ => by kernel_rfl⟩, fun _ _ => by kernel_rfl⟩, fun _ _ => by kernel_rfl⟩, fun _ _ => by kernel_rfl⟩)
end Go.Proofs.Ytiijphmpkmmpjaa
