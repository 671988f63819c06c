/- Appends of one element, on any memory. -/
import Derived.Test.YtddalcnajejibaaDoorAmY
set_option linter.unusedVariables false
set_option linter.unusedSimpArgs false
namespace Go.Am
open Go Go.RowKit

section
variable {P : Program} {S : Specs}

end

end Go.Am
