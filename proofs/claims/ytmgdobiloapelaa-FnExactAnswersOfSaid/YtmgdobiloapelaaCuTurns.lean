/- Turns of so many tasks, as the reference looks at them. -/
import Derived.Test.YtmgdobiloapelaaCx1
import Derived.Test.YtmgdobiloapelaaCuLaws
set_option linter.unusedVariables false
set_option linter.unusedSimpArgs false
namespace Go.Proofs.Ytmgdobiloapelaa.Cb
open Go.RowKit Go.Proofs.YtmgdobiloapelaaW.PrintWords Go.Proofs.YtmgdobiloapelaaW.PrintLast Go.Proofs.Ytmgdobiloapelaa.C

theorem in_some (a b c : Int) : spec_l01In.f a b c = some (inB b c a) := by
  unfold spec_l01In.f inB
  by_cases h : a ≥ b
  · rw [if_pos h, decide_eq_true (show b ≤ a from h), Bool.true_and]
  · rw [if_neg h, decide_eq_false (show ¬ b ≤ a from h), Bool.false_and]
theorem inB_iff (a b c : Int) : inB b c a = true ↔ b ≤ a ∧ a ≤ c := by simp [inB]
theorem all_iff (l : List Int) (a b : Int) : l.all (inB a b) = true ↔ ∀ x ∈ l, a ≤ x ∧ x ≤ b := by simp [List.all_eq_true, inB_iff]
/-- Turns of m tasks. -/
def turnsB (l : List Int) (m : Int) : Bool := inB 1 120 (l.length : Int) && l.all (inB (-1) (m - 1))
theorem turnsB_iff (l : List Int) (m : Int) : turnsB l m = true ↔ (1 ≤ l.length ∧ l.length ≤ 120) ∧ ∀ x ∈ l, -1 ≤ x ∧ x ≤ m - 1 := by
  unfold turnsB
  rw [Bool.and_eq_true, inB_iff, all_iff]
  constructor
  · rintro ⟨h1, h2⟩; exact ⟨by omega, h2⟩
  · rintro ⟨h1, h2⟩; exact ⟨by omega, h2⟩
end Go.Proofs.Ytmgdobiloapelaa.Cb
