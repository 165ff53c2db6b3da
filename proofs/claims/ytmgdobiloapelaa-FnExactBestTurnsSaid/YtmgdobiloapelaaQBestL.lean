/- Pure: BestTurns returns what the reference's returns. Conditions: as each theorem states. My own. -/
import Derived.Test.YtmgdobiloapelaaQBestA
set_option linter.unusedVariables false
set_option linter.unusedSimpArgs false
namespace Go.Proofs.Ytmgdobiloapelaa.Vf
open Go Go.V Go.RowKit

theorem law_BestTurns {k : Nat} {l : List Int} {n : Int} (hk : 2097152 ≤ k) : laws_FnExactBestTurns.f k l n = some true := by
  unfold laws_FnExactBestTurns.f
  by_cases hl : 1048576 < (l.length : Int)
  · rw [if_pos hl]
  rw [if_neg hl]
  have hl : l.length ≤ 1048576 := by omega
  have hb := best_len l n
  have e1 := toInt64S_f hk hl
  have e2 := eqInt64S_f (a := (bestR l n).1) (b := (bestR l n).1) hk (by omega)
  have e3 := eqInt64S_f (a := l) (b := l) hk hl
  have e4 := markInt64S_f (l := l) (a := 1) hk hl (by omega) (by omega)
  have e5 := markInt64S_f (l := (bestR l n).1) (a := 1) hk (by omega) (by omega) (by omega)
  have e6 := heldInt64S_f (m := (bestR l n).1.length) (a := 1) hk (by omega) (by omega) (by omega)
  simp only [e1, spec_Best_f hk hl, impl_Best_f hk hl, e2, e3, e4, e5, e6, Option.bind_some, decide_true, if_true]
  rw [if_neg (by omega), if_neg (by omega), if_neg (by omega)]

end Go.Proofs.Ytmgdobiloapelaa.Vf
