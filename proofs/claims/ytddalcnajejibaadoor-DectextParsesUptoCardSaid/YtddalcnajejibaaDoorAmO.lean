/- Runs of the whole program by the evaluator itself: for closed calls. -/
import Derived.Test.YtddalcnajejibaaDoorAmN
set_option linter.unusedVariables false
set_option linter.unusedSimpArgs false
namespace Go.Am
open Go Go.RowKit

end Go.Am
