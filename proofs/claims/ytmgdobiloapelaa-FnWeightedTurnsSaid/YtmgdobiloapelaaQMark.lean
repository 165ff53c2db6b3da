/- Marks and what is held of them. -/
import Derived.Test.YtmgdobiloapelaaQ01
set_option linter.unusedVariables false
set_option linter.unusedSimpArgs false
namespace Go.Proofs.Ytmgdobiloapelaa.Vf
open Go Go.V Go.RowKit

/-- Numbers upwards. -/
def upF : Int → Nat → List Int
  | _, 0 => []
  | a, n + 1 => a :: upF (a + 1) n

theorem upF_len : ∀ (n : Nat) (a : Int), (upF a n).length = n
  | 0, _ => rfl
  | n + 1, a => by simp [upF, upF_len n]

end Go.Proofs.Ytmgdobiloapelaa.Vf
