/- How many bits: the library's count. -/
import Derived.Test.YtcbhhbkghbnljaaQ08b
set_option linter.unusedVariables false
set_option linter.unusedSimpArgs false
namespace Go.Proofs.Ytcbhhbkghbnljaa.Vf
open Go Go.V Go.RowKit

theorem ones_f {x : Nat} (h : x < 256) : bits_OnesCount64.f (x : Int) = some (popc x : Int) := by
  unfold bits_OnesCount64.f
  simp only [andV_eq, shrV_eq]
  revert x
  decide +kernel

theorem members_f {x : Nat} (h : x < 256) : impl_members.f (x : Int) = some (popc x : Int) := by
  unfold impl_members.f
  rw [u64_nat h, ones_f h]; rfl

end Go.Proofs.Ytcbhhbkghbnljaa.Vf
