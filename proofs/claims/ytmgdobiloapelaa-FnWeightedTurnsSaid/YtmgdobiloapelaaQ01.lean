/- The laws' own helpers; tasks. -/
import Derived.Test.YtmgdobiloapelaaQBase
set_option linter.unusedVariables false
set_option linter.unusedSimpArgs false
namespace Go.Proofs.Ytmgdobiloapelaa.Vf
open Go Go.V Go.RowKit

/-! ### Copies, comparisons -/

/-! ### Tasks -/

theorem l01In_f (a b c : Int) : spec_l01In.f a b c = some (decide (b ≤ a ∧ a ≤ c)) := by
  unfold spec_l01In.f
  by_cases h : b ≤ a <;> simp [h]
theorem within_f (a b c : Int) : impl_within.f a b c = some (decide (b ≤ a ∧ a ≤ c)) := by
  unfold impl_within.f
  by_cases h : b ≤ a <;> simp [h]
theorem length_f (l : List Int) : impl_length_int64.f l = some (l.length : Int) := rfl
def gapB (g : Int) : Bool := decide (1 ≤ g ∧ g ≤ 40)
/-- Tasks. -/
def isT (l : List Int) : Bool := decide (1 ≤ l.length ∧ l.length ≤ 8) && l.all gapB

theorem isT_iff {l : List Int} : isT l = true ↔ (1 ≤ l.length ∧ l.length ≤ 8) ∧ ∀ g ∈ l, 1 ≤ g ∧ g ≤ 40 := by
  unfold isT gapB
  simp [List.all_eq_true]

end Go.Proofs.Ytmgdobiloapelaa.Vf
