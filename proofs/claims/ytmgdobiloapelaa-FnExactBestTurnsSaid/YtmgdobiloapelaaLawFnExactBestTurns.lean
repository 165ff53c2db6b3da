/- The law FnExactBestTurns: it gives true at every input and leaves what it reads as it was. Conditions: none beyond the row's own. Joined by a program of my own (law.py). -/
import Derived.Test.YtmgdobiloapelaaRows
import Derived.Test.YtmgdobiloapelaaChecked
import Derived.Test.YtmgdobiloapelaaQBestL
import Derived.WalkKit
import Derived.ProofKit
import Derived.OpenShut
import Derived.ShutString
import Derived.ChangeOld
import Derived.Below
import Derived.SizedLaws
import Derived.Lib.SmallJoins
namespace Go.Proofs.Ytmgdobiloapelaa.fnExactBestTurns
open Go.ChangeShapes Go.WideShapes Go.ChangeAt Go.RowKit
set_option linter.unusedVariables false
set_option linter.unusedSimpArgs false
theorem own : ownKnob Try.prog.godebug = none := by kernel_rfl
theorem laidOut : laidOutB Try.prog = true := by kernel_rfl
theorem pure' : ∀ x, Go.V.BL (Go.V.flatC (Vf.S4 0).ps) x → ∃ k y, (fun k => (Vf.S4 k).fn) k x = some y ∧ (Go.V.splitD [Go.V.D1.dat .bool] (Go.V.outsC (Vf.S4 0).ps) y).1 = true :=
  fun x h => ⟨2097152, true, Vf.law_BestTurns (Nat.le_refl _), rfl⟩
set_option maxRecDepth 100000 in
theorem lifted (os : Os) (started : os.Started) (H : Type) (enc : TypeId × Value → H) :
    ReturnsInHanded {} Try.checked os 4 .any (Rows.fnExactBestTurnsSpec.pre6 enc Try.prog Try.f4 Rows.fnExactBestTurnsRow.domain false) (Rows.fnExactBestTurnsSpec.post enc Try.prog Try.f4 false true false false) := by
  refine returnsInHanded_of_change_sized (C := Try.checked) own started (by kernel_rfl) Try.func4
    (ChangeSpec.witness6 (enc := enc) (C := Try.checked) false ⟨#[], #[.slice none 0 0, .int .i64 0], []⟩ 8 (by kernel_rfl) (by kernel_rfl) (by kernel_rfl) (by kernel_rfl)) ?_
  intro W base args ds gs before hval0 hW hcnd hsz0 _
  have hval : ∀ (j : Nat) t v, Try.f4.params[j]? = some t → args[j]? = some v → Value.okWide Try.prog W .any base t v := hval0
  have hW' := hW
  obtain ⟨p, q, hA0, hV, rfl, hfz, hnd⟩ := hW
  have hA : DataW.TrodAll enc Try.prog W 0 (fun _ => true) true Try.f4.params.toList args.toList ds p := hA0
  rw [Try.params4] at hA hval
  obtain ⟨rfl, rfl⟩ := trodVars_none hV
  have r0 := hA
  obtain ⟨v0, vs0, d0, ds0, p0, q0, hargs0, rfl, rfl, h0, r1⟩ := trodAll_cons r0
  obtain ⟨v1, vs1, d1, ds1, p1, q1, hargs1, rfl, rfl, h1, r2⟩ := trodAll_cons r1
  obtain ⟨rfl, rfl, rfl⟩ := trodAll_nil r2
  refine (Go.V.law_calls (ps := (Vf.S4 0).ps) (F := fun k => (Vf.S4 k).fn) Vf.tbOk (by kernel_rfl) rfl (fun k => Vf.M4 k) pure' hA (fun j t v ht ha => hval j t v (by rw [Array.getElem?_toList] at ht; exact ht) ha)).mono fun e W' ⟨he, bel⟩ => ?_
  subst he
  exact ⟨_, rfl, _, _, _, [], _, [], hW', trodAll_mk1 (shut_bool Try.underlying4 _), Go.V.args_stay laidOut bel (by kernel_rfl) hA, rfl, bel.frame _, fun h => by cases h⟩
theorem over : Rows.fnExactBestTurnsRow.holds Try.pinned (OpenSpec.ofChange Rows.fnExactBestTurnsSpec) :=
  OpenClaim.holds_of_wide 4 Try.f4 rfl rfl rfl rfl rfl rfl rfl ⟨rfl, rfl, rfl, rfl, rfl⟩ rfl rfl rfl rfl rfl (by kernel_rfl) Try.func4 (by kernel_rfl)
    (of_decide_eq_true (by kernel_rfl)) (by unfold Func.isWrapper; first | (rw [if_pos (by decide +kernel)]; kernel_rfl) | (rw [if_neg (by decide +kernel)]; exact ⟨rfl, rfl⟩))
    (fun os started H enc _ => lifted os started H enc)
theorem proved : Rows.FnExactBestTurnsSaid := over
#print axioms proved
end Go.Proofs.Ytmgdobiloapelaa.fnExactBestTurns
namespace Go.Proofs.Ytmgdobiloapelaa
/-- The row, under a short name, for the claim. -/
theorem fnExactBestTurns_holds : Rows.FnExactBestTurnsSaid := fnExactBestTurns.proved
end Go.Proofs.Ytmgdobiloapelaa
