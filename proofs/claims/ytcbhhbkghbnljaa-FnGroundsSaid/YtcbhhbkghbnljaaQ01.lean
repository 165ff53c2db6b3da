/- The laws' own helpers; tasks. -/
import Derived.Test.YtcbhhbkghbnljaaQBase
set_option linter.unusedVariables false
set_option linter.unusedSimpArgs false
namespace Go.Proofs.Ytcbhhbkghbnljaa.Vf
open Go Go.V Go.RowKit

/-! ### Copies, comparisons -/

/-! ### Tasks -/

theorem l01In_f (a b c : Int) : spec_l01In.f a b c = some (decide (b ≤ a ∧ a ≤ c)) := by
  unfold spec_l01In.f
  by_cases h : b ≤ a <;> simp [h]
theorem within_f (a b c : Int) : impl_within.f a b c = some (decide (b ≤ a ∧ a ≤ c)) := by
  unfold impl_within.f
  by_cases h : b ≤ a <;> simp [h]
theorem length_f (l : List Int) : impl_length_int64.f l = some (l.length : Int) := rfl
theorem many_f (l : List Int) : impl_Tasks_many.f l = some (l.length : Int) := rfl
theorem l01K_f (l : List Int) : spec_l01K.f l = some (l.length : Int) := rfl

def gapB (g : Int) : Bool := decide (1 ≤ g ∧ g ≤ 40)
/-- Tasks. -/
def isT (l : List Int) : Bool := decide (1 ≤ l.length ∧ l.length ≤ 8) && l.all gapB

theorem isT_iff {l : List Int} : isT l = true ↔ (1 ≤ l.length ∧ l.length ≤ 8) ∧ ∀ g ∈ l, 1 ≤ g ∧ g ≤ 40 := by
  unfold isT gapB
  simp [List.all_eq_true]

theorem areAll_tasks {k : Nat} {l : List Int} (hk : 2097152 ≤ k) (hl : l.length ≤ 1048576) : impl_areAll_int64_impl_IsTasks_1.f k l () = some (l.all gapB) := by
  obtain ⟨j, h1, h2⟩ := idx_run (L := slices_IndexFunc_int64_int64_impl_areAll_int64_1_impl_IsTasks_1.l0 k) (p := fun x => !gapB x) (l := l) (c := ())
    (fun n i hi => by
      simp only [slices_IndexFunc_int64_int64_impl_areAll_int64_1_impl_IsTasks_1.l0, slices_IndexFunc_int64_int64_impl_areAll_int64_1_impl_IsTasks_1.s0]
      rw [if_pos (by omega), if_pos (by omega), if_pos (by omega)]
      simp only [impl_areAll_int64_1_impl_IsTasks_1.f, impl_IsTasks_1.f, within_f, Option.bind_some, gapB, w64n (show i ≤ 9223372036854775806 by omega)]
      by_cases h : 1 ≤ rd l i ∧ rd l i ≤ 40 <;> simp [h])
    (fun n => by
      simp only [slices_IndexFunc_int64_int64_impl_areAll_int64_1_impl_IsTasks_1.l0, slices_IndexFunc_int64_int64_impl_areAll_int64_1_impl_IsTasks_1.s0]
      rw [if_neg (by omega)]) l.length 0 k (by omega) (by omega) (by omega)
  unfold impl_areAll_int64_impl_IsTasks_1.f slices_ContainsFunc_int64_int64_impl_areAll_int64_1_impl_IsTasks_1.f slices_IndexFunc_int64_int64_impl_areAll_int64_1_impl_IsTasks_1.f slices_IndexFunc_int64_int64_impl_areAll_int64_1_impl_IsTasks_1.g
  rw [show slices_IndexFunc_int64_int64_impl_areAll_int64_1_impl_IsTasks_1.l0 k k l () l.length 0 = some j from h1, Option.bind_some, Option.bind_some]
  rw [List.drop_zero] at h2
  congr 1
  exact all_iff (p := fun x => !gapB x) (fun _ => rfl) h2

theorem isTasks_f {k : Nat} {l : List Int} (hk : 2097152 ≤ k) (hl : l.length ≤ 1048576) : impl_IsTasks.f k l = some (isT l) := by
  unfold impl_IsTasks.f
  simp only [length_f, within_f, Option.bind_some, areAll_tasks hk hl]
  unfold isT
  by_cases h : 1 ≤ l.length ∧ l.length ≤ 8
  · rw [if_pos (by simp; omega)]; simp [h]
  · rw [if_neg (by simp; omega)]; simp [h]

end Go.Proofs.Ytcbhhbkghbnljaa.Vf
