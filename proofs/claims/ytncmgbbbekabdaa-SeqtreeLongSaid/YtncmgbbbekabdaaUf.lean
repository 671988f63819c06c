/- SeqtreeUndoes: what its loops are told of. -/
import Derived.Test.YtncmgbbbekabdaaMi
import Derived.Test.YtncmgbbbekabdaaMd
namespace Go.Proofs.Ytncmgbbbekabdaa
open Go Go.Am Go.RowKit
set_option maxRecDepth 100000
set_option linter.unusedVariables false
set_option linter.unusedSimpArgs false
/-- The places: at, id, to, the tree; the script and how far it is gone through. -/
def e4 (sl : AV) (n : Nat) (a d o : Int) (t : Nat) (i : Int) : List AV := envOf 101 [(1, .int .i64 a), (2, .int .i64 d), (3, .int .i64 o), (9, .ptr (some (t, 0))), (28, sl), (29, .int .i64 n), (30, .int .i64 i)]
def x4 (a d o : Int) (t : Nat) : List AV := envOf 101 [(1, .int .i64 a), (2, .int .i64 d), (3, .int .i64 o), (9, .ptr (some (t, 0)))]
def r4 (a d o : Int) (t w c : Nat) : List AV := envOf 101 [(1, .int .i64 a), (2, .int .i64 d), (3, .int .i64 o), (9, .ptr (some (t, 0))), (12, .ptr (some (w, 0))), (41, .ptr (some (t, 0))), (42, V15 c)]
def T4 (sl : AV) (n : Nat) (a d o : Int) (X Y : AHeap → Nat → Prop) (st : St) (K : AExit → St → Prop) : Prop := ∃ H t, st = (e4 sl n a d o t 0, H) ∧ X H t ∧ ∀ H', Y H' t → K (.exit 0) (x4 a d o t, H')
end Go.Proofs.Ytncmgbbbekabdaa
