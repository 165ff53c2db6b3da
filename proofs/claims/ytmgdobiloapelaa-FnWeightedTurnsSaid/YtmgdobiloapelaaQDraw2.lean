/- Draws of turns and tasks. -/
import Derived.Test.YtmgdobiloapelaaQDraw
set_option linter.unusedVariables false
set_option linter.unusedSimpArgs false
namespace Go.Proofs.Ytmgdobiloapelaa.Vf
open Go Go.V Go.RowKit

end Go.Proofs.Ytmgdobiloapelaa.Vf
