/- Draws of states. -/
import Derived.Test.YtcbhhbkghbnljaaQDraw2
import Derived.Test.YtcbhhbkghbnljaaQ02k
set_option linter.unusedVariables false
set_option linter.unusedSimpArgs false
namespace Go.Proofs.Ytcbhhbkghbnljaa.Vf
open Go Go.V Go.RowKit

def l02Table : List (List Int) := [[1], [2, 2], [2, 3], [2, 4, 4], [3, 3, 3], [2, 3, 6], [3, 4, 4], [3, 4, 5], [2, 5, 6], [4, 4, 4, 4], [3, 4, 6, 6], [2, 4, 8, 8], [1, 2], [3, 5, 5, 5], [4, 5, 5, 5], [2, 6, 7]]
theorem l02Table_len : ∀ l ∈ l02Table, 1 ≤ l.length ∧ l.length ≤ 8 := by decide

end Go.Proofs.Ytcbhhbkghbnljaa.Vf
