/- What SeqtreeUndoes must meet: written by vcgen.py. -/
import Derived.Test.YtncmgbbbekabdaaUf
namespace Go.Proofs.Ytncmgbbbekabdaa
open Go Go.Am
set_option maxRecDepth 100000
set_option linter.unusedVariables false
def q4 (a d o : Int) (t w c : Nat) (i z : Int) : List AV := envOf 101 [(1, .int .i64 a), (2, .int .i64 d), (3, .int .i64 o), (9, .ptr (some (t, 0))), (12, .ptr (some (w, 0))), (14, .int .i64 z), (41, .ptr (some (t, 0))), (42, V15 c), (43, .int .i64 i), (44, .int .i64 z)]
end Go.Proofs.Ytncmgbbbekabdaa
