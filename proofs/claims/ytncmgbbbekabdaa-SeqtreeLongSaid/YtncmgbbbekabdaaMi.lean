/- Written by merging: Ty. -/
import Derived.Test.YtncmgbbbekabdaaMh
namespace Go.Proofs.Ytncmgbbbekabdaa
open Go Go.Am Go.RowKit
set_option maxRecDepth 100000
set_option linter.unusedVariables false
set_option linter.unusedSimpArgs false

theorem Tr.drop {h h' : AHeap} {L A B : Rws} (ht : Tr h h' L (A ++ B)) : Tr h h' L B :=
  ⟨ht.a, ht.b.right, fun j hj => ht.c j (by rw [keys_append]; exact List.mem_append_right _ hj), ht.d, ht.e⟩

end Go.Proofs.Ytncmgbbbekabdaa
