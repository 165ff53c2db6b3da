/- Draws of turns and tasks. -/
import Derived.Test.YtcbhhbkghbnljaaQDraw
set_option linter.unusedVariables false
set_option linter.unusedSimpArgs false
namespace Go.Proofs.Ytcbhhbkghbnljaa.Vf
open Go Go.V Go.RowKit

end Go.Proofs.Ytcbhhbkghbnljaa.Vf
