/- The law FnChannels: it gives true at every input and leaves what it reads as it was. Conditions: none beyond the row's own. Joined by a program of my own (law.py). -/
import Derived.Test.YtcbhhbkghbnljaaRows
import Derived.Test.YtcbhhbkghbnljaaChecked
import Derived.Test.YtcbhhbkghbnljaaQb
import Derived.WalkKit
import Derived.ProofKit
import Derived.OpenShut
import Derived.ShutString
import Derived.ChangeOld
import Derived.Below
import Derived.SizedLaws
import Derived.Lib.SmallJoins
namespace Go.Proofs.Ytcbhhbkghbnljaa.fnChannels
open Go.ChangeShapes Go.WideShapes Go.ChangeAt Go.RowKit
set_option linter.unusedVariables false
set_option linter.unusedSimpArgs false
theorem own : ownKnob Try.prog.godebug = none := by kernel_rfl
theorem laidOut : laidOutB Try.prog = true := by kernel_rfl
theorem pure' : ∀ x, Go.V.BL (Go.V.flatC (Vf.S11 0).ps) x → ∃ k y, (fun k => (Vf.S11 k).fn) k x = some y ∧ (Go.V.splitD [Go.V.D1.dat .bool] (Go.V.outsC (Vf.S11 0).ps) y).1 = true :=
  fun x h => ⟨2097152, true, Vf.law_FnChannels (Nat.le_refl _) (Vf.bytes_of h.2), rfl⟩
set_option maxRecDepth 100000 in
theorem lifted (os : Os) (started : os.Started) (H : Type) (enc : TypeId × Value → H) :
    ReturnsInHanded {} Try.checked os 11 .any (Rows.fnChannelsSpec.pre6 enc Try.prog Try.f11 Rows.fnChannelsRow.domain false) (Rows.fnChannelsSpec.post enc Try.prog Try.f11 false true false false) := by
  refine returnsInHanded_of_change_sized (C := Try.checked) own started (by kernel_rfl) Try.func11
    (ChangeSpec.witness6 (enc := enc) (C := Try.checked) false ⟨#[], #[.slice none 0 0], []⟩ 8 (by kernel_rfl) (by kernel_rfl) (by kernel_rfl) (by kernel_rfl)) ?_
  intro W base args ds gs before hval0 hW hcnd hsz0 _
  have hval : ∀ (j : Nat) t v, Try.f11.params[j]? = some t → args[j]? = some v → Value.okWide Try.prog W .any base t v := hval0
  have hW' := hW
  obtain ⟨p, q, hA0, hV, rfl, hfz, hnd⟩ := hW
  have hA : DataW.TrodAll enc Try.prog W 0 (fun _ => true) true Try.f11.params.toList args.toList ds p := hA0
  rw [Try.params11] at hA hval
  obtain ⟨rfl, rfl⟩ := trodVars_none hV
  have r0 := hA
  obtain ⟨v0, vs0, d0, ds0, p0, q0, hargs0, rfl, rfl, h0, r1⟩ := trodAll_cons r0
  obtain ⟨rfl, rfl, rfl⟩ := trodAll_nil r1
  refine (Go.V.law_calls (ps := (Vf.S11 0).ps) (F := fun k => (Vf.S11 k).fn) Vf.tbOk (by kernel_rfl) rfl (fun k => Vf.M11 k) pure' hA (fun j t v ht ha => hval j t v (by rw [Array.getElem?_toList] at ht; exact ht) ha)).mono fun e W' ⟨he, bel⟩ => ?_
  subst he
  exact ⟨_, rfl, _, _, _, [], _, [], hW', trodAll_mk1 (shut_bool Try.underlying4 _), Go.V.args_stay laidOut bel (by kernel_rfl) hA, rfl, bel.frame _, fun h => by cases h⟩
theorem over : Rows.fnChannelsRow.holds Try.pinned (OpenSpec.ofChange Rows.fnChannelsSpec) :=
  OpenClaim.holds_of_wide 11 Try.f11 rfl rfl rfl rfl rfl rfl rfl ⟨rfl, rfl, rfl, rfl, rfl⟩ rfl rfl rfl rfl rfl (by kernel_rfl) Try.func11 (by kernel_rfl)
    (of_decide_eq_true (by kernel_rfl)) (by unfold Func.isWrapper; first | (rw [if_pos (by decide +kernel)]; kernel_rfl) | (rw [if_neg (by decide +kernel)]; exact ⟨rfl, rfl⟩))
    (fun os started H enc _ => lifted os started H enc)
theorem proved : Rows.FnChannelsSaid := over
#print axioms proved
end Go.Proofs.Ytcbhhbkghbnljaa.fnChannels
namespace Go.Proofs.Ytcbhhbkghbnljaa
/-- The row, under a short name, for the claim. -/
theorem fnChannels_holds : Rows.FnChannelsSaid := fnChannels.proved
end Go.Proofs.Ytcbhhbkghbnljaa
