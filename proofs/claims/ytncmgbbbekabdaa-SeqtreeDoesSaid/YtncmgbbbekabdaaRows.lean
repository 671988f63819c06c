/-
  No cell of these rows narrows 'for every input' (looked for: loops, veiled, ifaces, maps, wideKeys, modest, calm, conditions, laid).
  DERIVED. THE GIVEN ROWS OF THIS SEAT. 4 by the template 'for every input the law returns true; each argument reads behind the call as it read before'; 0 by the template 'total and deterministic' (their statements: YtncmgbbbekabdaaTotals.lean).
  GIVEN WITH THE SEED: the statements are not yours to turn. If you find one false, say at which input.
  Laid BY PROGRAM, IN A SANDBOX (cutbox-rows.mjs): the forced cells as the released guide's own fill.sh prints them over the translation fdb5f5c94b7a6c61… (all of the seat's roots in one cut). By AI agents, Wed Nov 11 2026. No macro, syntax, notation, axiom, sorry.
-/
import Derived.Test.YtncmgbbbekabdaaChecked
import GoSem.Claim
import GoSem.ClaimJoined
import GoSem.ClaimMapViews
import Derived.JoinedTies
import Derived.KernelRfl
namespace Go.Proofs.Ytncmgbbbekabdaa
/- THE CELL 'sum', in the pinned program and in every row, IS THE sha256 OF THE DUMP (.gsa) THAT YtncmgbbbekabdaaProg.lean LOADS. Nothing in Lean hashes anything: it is a label: what it is worth is what the hold of that sum in a sandbox is worth. -/
noncomputable def Try.pinned : Pinned := { name := "ytncmgbbbekabdaa", sum := "fdb5f5c94b7a6c619285aabc9eac67f4b45e24e254a07ab777a9a8e84fb7dfe2", checked := Try.checked }
namespace Rows
def none {H : Type} : Left H := { results := [], args := [] }

/-- 'exciselaw04.SeqtreeLong': WHATEVER THE INPUT: true; the input reads as it did. -/
def seqtreeLongSpec : ChangeSpec := { name := "seqtreeLong", fn := fun _ => fun
  | [d1, d2] => { results := [.lit (.bool true)], args := [d1, d2] }
  | _ => none }
def seqtreeLongRow : OpenClaim := { program := "ytncmgbbbekabdaa", sum := "fdb5f5c94b7a6c619285aabc9eac67f4b45e24e254a07ab777a9a8e84fb7dfe2", func := "excise/exciselaw04.SeqtreeLong", spec := "seqtreeLong", recurses := true, apart := false }
def SeqtreeLongSaid : Prop := seqtreeLongRow.holds Try.pinned (OpenSpec.ofChange seqtreeLongSpec)

/-- ITS FALSE NEIGHBOUR: 'it returns false'. Refute it at one input. -/
def seqtreeLongWrong : ChangeSpec := { name := "seqtreeLong", fn := fun _ => fun
  | [d1, d2] => { results := [.lit (.bool false)], args := [d1, d2] }
  | _ => none }
def SeqtreeLongWrongFalsely : Prop := seqtreeLongRow.holds Try.pinned (OpenSpec.ofChange seqtreeLongWrong)

/-- 'exciselaw04.SeqtreeUndoes': WHATEVER THE INPUT: true; the input reads as it did. -/
def seqtreeUndoesSpec : ChangeSpec := { name := "seqtreeUndoes", fn := fun _ => fun
  | [d1, d2, d3, d4] => { results := [.lit (.bool true)], args := [d1, d2, d3, d4] }
  | _ => none }
def seqtreeUndoesRow : OpenClaim := { program := "ytncmgbbbekabdaa", sum := "fdb5f5c94b7a6c619285aabc9eac67f4b45e24e254a07ab777a9a8e84fb7dfe2", func := "excise/exciselaw04.SeqtreeUndoes", spec := "seqtreeUndoes", unfollowed := true, recurses := true, apart := false }
def SeqtreeUndoesSaid : Prop := seqtreeUndoesRow.holds Try.pinned (OpenSpec.ofChange seqtreeUndoesSpec)

/-- ITS FALSE NEIGHBOUR: 'it returns false'. Refute it at one input. -/
def seqtreeUndoesWrong : ChangeSpec := { name := "seqtreeUndoes", fn := fun _ => fun
  | [d1, d2, d3, d4] => { results := [.lit (.bool false)], args := [d1, d2, d3, d4] }
  | _ => none }
def SeqtreeUndoesWrongFalsely : Prop := seqtreeUndoesRow.holds Try.pinned (OpenSpec.ofChange seqtreeUndoesWrong)

/-- 'exciselaw04.SeqtreeDoes': WHATEVER THE INPUT: true; the input reads as it did. -/
def seqtreeDoesSpec : ChangeSpec := { name := "seqtreeDoes", fn := fun _ => fun
  | [d] => { results := [.lit (.bool true)], args := [d] }
  | _ => none }
def seqtreeDoesRow : OpenClaim := { program := "ytncmgbbbekabdaa", sum := "fdb5f5c94b7a6c619285aabc9eac67f4b45e24e254a07ab777a9a8e84fb7dfe2", func := "excise/exciselaw04.SeqtreeDoes", spec := "seqtreeDoes", unfollowed := true, recurses := true, apart := false }
def SeqtreeDoesSaid : Prop := seqtreeDoesRow.holds Try.pinned (OpenSpec.ofChange seqtreeDoesSpec)

/-- ITS FALSE NEIGHBOUR: 'it returns false'. Refute it at one input. -/
def seqtreeDoesWrong : ChangeSpec := { name := "seqtreeDoes", fn := fun _ => fun
  | [d] => { results := [.lit (.bool false)], args := [d] }
  | _ => none }
def SeqtreeDoesWrongFalsely : Prop := seqtreeDoesRow.holds Try.pinned (OpenSpec.ofChange seqtreeDoesWrong)

/-- 'exciselaw04.SeqtreeNone': WHATEVER THE INPUT: true; the input reads as it did. -/
def seqtreeNoneSpec : ChangeSpec := { name := "seqtreeNone", fn := fun _ => fun
  | [d] => { results := [.lit (.bool true)], args := [d] }
  | _ => none }
def seqtreeNoneRow : OpenClaim := { program := "ytncmgbbbekabdaa", sum := "fdb5f5c94b7a6c619285aabc9eac67f4b45e24e254a07ab777a9a8e84fb7dfe2", func := "excise/exciselaw04.SeqtreeNone", spec := "seqtreeNone", unfollowed := true, recurses := true, apart := false }
def SeqtreeNoneSaid : Prop := seqtreeNoneRow.holds Try.pinned (OpenSpec.ofChange seqtreeNoneSpec)

/-- ITS FALSE NEIGHBOUR: 'it returns false'. Refute it at one input. -/
def seqtreeNoneWrong : ChangeSpec := { name := "seqtreeNone", fn := fun _ => fun
  | [d] => { results := [.lit (.bool false)], args := [d] }
  | _ => none }
def SeqtreeNoneWrongFalsely : Prop := seqtreeNoneRow.holds Try.pinned (OpenSpec.ofChange seqtreeNoneWrong)

/- THE SECOND FORM. 'bulk': how many values and letters a reading holds, each counted each time it is reached (what is shared counts as often as it is met; a slice's spare places count too). A statement '..UptoSaid' is the law's where the arguments, and the package variables that the reading takes, are together of bulk at most 1048576: NARROWER than '..Said'. Prove '..Said' where nothing that the law and all that it calls make is longer than what came in: it says more and counts as full. Else prove '..UptoSaid'. A law counts once. -/
mutual
def uptoBulk {H : Type} : DataW H → Nat
  | .lit (.string bytes) => bytes.length + 1
  | .lit _ => 1
  | .nil => 1
  | .ptr d => uptoBulk d + 1
  | .slice elems spare => uptoBulkAll elems + uptoBulkAll spare + 1
  | .agg parts => uptoBulkAll parts + 1
  | .iface _ d => uptoBulk d + 1
  | .map entries => uptoBulkEntries entries + 1
  | .held _ => 1
def uptoBulkAll {H : Type} : List (DataW H) → Nat
  | [] => 0
  | d :: r => uptoBulk d + uptoBulkAll r
def uptoBulkEntries {H : Type} : List (Lit × DataW H) → Nat
  | [] => 0
  | x :: r => uptoBulkEntry x + uptoBulkEntries r
def uptoBulkEntry {H : Type} : Lit × DataW H → Nat
  | (.string bytes, d) => bytes.length + uptoBulk d + 1
  | (_, d) => uptoBulk d + 1
 end
def uptoSmall : (H : Type) → List (DataW H) → Bool := fun _ ds => decide (uptoBulkAll ds ≤ 1048576)
def OpenSpec.upto (s : _root_.Go.ChangeSpec) : _root_.Go.OpenSpec := { _root_.Go.OpenSpec.ofChange s with cond := some uptoSmall }

/-- 'exciselaw04.SeqtreeLong', WHERE WHAT IT READS IS OF BULK AT MOST 1048576: true; the input reads as it did. -/
def seqtreeLongUptoRow : OpenClaim := { program := "ytncmgbbbekabdaa", sum := "fdb5f5c94b7a6c619285aabc9eac67f4b45e24e254a07ab777a9a8e84fb7dfe2", func := "excise/exciselaw04.SeqtreeLong", spec := "seqtreeLong", recurses := true, apart := false, narrowed := true }
def SeqtreeLongUptoSaid : Prop := seqtreeLongUptoRow.holds Try.pinned (OpenSpec.upto seqtreeLongSpec)

/-- 'exciselaw04.SeqtreeUndoes', WHERE WHAT IT READS IS OF BULK AT MOST 1048576: true; the input reads as it did. -/
def seqtreeUndoesUptoRow : OpenClaim := { program := "ytncmgbbbekabdaa", sum := "fdb5f5c94b7a6c619285aabc9eac67f4b45e24e254a07ab777a9a8e84fb7dfe2", func := "excise/exciselaw04.SeqtreeUndoes", spec := "seqtreeUndoes", unfollowed := true, recurses := true, apart := false, narrowed := true }
def SeqtreeUndoesUptoSaid : Prop := seqtreeUndoesUptoRow.holds Try.pinned (OpenSpec.upto seqtreeUndoesSpec)

/-- 'exciselaw04.SeqtreeDoes', WHERE WHAT IT READS IS OF BULK AT MOST 1048576: true; the input reads as it did. -/
def seqtreeDoesUptoRow : OpenClaim := { program := "ytncmgbbbekabdaa", sum := "fdb5f5c94b7a6c619285aabc9eac67f4b45e24e254a07ab777a9a8e84fb7dfe2", func := "excise/exciselaw04.SeqtreeDoes", spec := "seqtreeDoes", unfollowed := true, recurses := true, apart := false, narrowed := true }
def SeqtreeDoesUptoSaid : Prop := seqtreeDoesUptoRow.holds Try.pinned (OpenSpec.upto seqtreeDoesSpec)

/-- 'exciselaw04.SeqtreeNone', WHERE WHAT IT READS IS OF BULK AT MOST 1048576: true; the input reads as it did. -/
def seqtreeNoneUptoRow : OpenClaim := { program := "ytncmgbbbekabdaa", sum := "fdb5f5c94b7a6c619285aabc9eac67f4b45e24e254a07ab777a9a8e84fb7dfe2", func := "excise/exciselaw04.SeqtreeNone", spec := "seqtreeNone", unfollowed := true, recurses := true, apart := false, narrowed := true }
def SeqtreeNoneUptoSaid : Prop := seqtreeNoneUptoRow.holds Try.pinned (OpenSpec.upto seqtreeNoneSpec)

end Rows
end Go.Proofs.Ytncmgbbbekabdaa
