/- The law FnExactFirstSplit: it gives true at every input and leaves what it reads as it was; and the card, which ties the listed variables. Conditions: none beyond the row's own. Joined by a program of my own (lawlaid.py), after the kit's worked text Woown. -/
import Derived.Test.YtcbhhbkghbnljaaDoorRows
import Derived.Test.YtcbhhbkghbnljaaDoorCards
import Derived.Test.YtcbhhbkghbnljaaDoorTie
import Derived.Test.YtcbhhbkghbnljaaDoorChecked
import Derived.Test.YtcbhhbkghbnljaaDoorQa
import Derived.WalkKit
import Derived.ProofKit
import Derived.OpenShut
import Derived.ShutString
import Derived.ChangeOld
import Derived.Below
import Derived.SizedLaws
import Derived.Lib.SmallJoins
import Derived.Lay
import Derived.SevenTiedAt
namespace Go.Proofs.YtcbhhbkghbnljaaDoor.fnExactFirstSplit
open Go.ChangeShapes Go.WideShapes Go.ChangeAt Go.RowKit
set_option linter.unusedVariables false
set_option linter.unusedSimpArgs false
theorem own : ownKnob Tryd.prog.godebug = none := by kernel_rfl
theorem laidOut : laidOutB Tryd.prog = true := by kernel_rfl
theorem pure' : ∀ x, Go.V.BL (Go.V.flatC (Vf.S3 0).ps) x → ∃ k y, (fun k => (Vf.S3 k).fn) k x = some y ∧ (Go.V.splitD [Go.V.D1.dat .bool] (Go.V.outsC (Vf.S3 0).ps) y).1 = true :=
  fun x h => ⟨2097152, true, Vf.law_FirstSplit (Nat.le_refl _) (Go.Proofs.YtcbhhbkghbnljaaDoor.Vf.maxLen_eq ▸ h.1.1), rfl⟩
set_option maxRecDepth 100000 in
theorem lifted (os : Os) (started : os.Started) (H : Type) (enc : TypeId × Value → H) :
    ReturnsInHanded {} Tryd.checked os 3 .any (fun w args => (Rows.fnExactFirstSplitSpec.pre enc Tryd.prog Tryd.f3 [] false w args ∧ laidMetH Tryd.prog Rows.fnExactFirstSplitRow.laid w) ∧ sizedMet enc Tryd.prog Tryd.f3 (OpenSpec.ofChange Rows.fnExactFirstSplitSpec) false w args)
      (Rows.fnExactFirstSplitSpec.post enc Tryd.prog Tryd.f3 false true false false) := by
  refine returnsInHanded_of_change_and (C := Tryd.checked) (X := fun w _ => laidMetH Tryd.prog Rows.fnExactFirstSplitRow.laid w) (fun _ _ _ hh h => h.of_heap hh) own started (by kernel_rfl) Tryd.func3
    (ChangeSpec.witness_shaped (enc := enc) (C := Tryd.checked) (os := os) (X := fun w _ => laidMetH Tryd.prog Rows.fnExactFirstSplitRow.laid w) false (World.laidAll Tryd.prog os Rows.fnExactFirstSplitRow.laid) #[.agg #[.slice none 0 0], .int .i64 0] 8 (World.laidAll_os _ _ _)
      (World.shaped_of_ZipB (by kernel_rfl) (by kernel_rfl)) (by kernel_rfl) (by kernel_rfl) (by kernel_rfl)
      (by rw [MakeChecks.laidMetH_plain _ _ _ (by kernel_rfl)]; exact laidMet_laidAll _ (by kernel_rfl) (by kernel_rfl))) ?_
  intro W base args ds gs before hval0 hW _ _ _ _
  have hval : ∀ (j : Nat) t v, Tryd.f3.params[j]? = some t → args[j]? = some v → Value.okWide Tryd.prog W .any base t v := hval0
  have hW' := hW
  obtain ⟨p, q, hA0, hV, rfl, hfz, hnd⟩ := hW
  have hA : DataW.TrodAll enc Tryd.prog W 0 (fun _ => true) true Tryd.f3.params.toList args.toList ds p := hA0
  rw [Tryd.params3] at hA hval
  obtain ⟨rfl, rfl⟩ := trodVars_none hV
  have r0 := hA
  obtain ⟨v0, vs0, d0, ds0, p0, q0, hargs0, rfl, rfl, h0, r1⟩ := trodAll_cons r0
  obtain ⟨v1, vs1, d1, ds1, p1, q1, hargs1, rfl, rfl, h1, r2⟩ := trodAll_cons r1
  obtain ⟨rfl, rfl, rfl⟩ := trodAll_nil r2
  refine (Go.V.law_calls (ps := (Vf.S3 0).ps) (F := fun k => (Vf.S3 k).fn) Vf.tbOk (by kernel_rfl) rfl (fun k => Vf.M3 k) pure' hA (fun j t v ht ha => hval j t v (by rw [Array.getElem?_toList] at ht; exact ht) ha)).mono fun e W' ⟨he, bel⟩ => ?_
  subst he
  exact ⟨_, rfl, _, _, _, [], _, [], hW', trodAll_mk1 (shut_bool Tryd.underlying4 _), Go.V.args_stay laidOut bel (by kernel_rfl) hA, rfl, bel.frame _, fun h => by cases h⟩
theorem over : Rows.fnExactFirstSplitRow.holds Tryd.pinned (OpenSpec.ofChange Rows.fnExactFirstSplitSpec) :=
  OpenClaim.holds_of_wide 3 Tryd.f3 rfl rfl rfl rfl rfl rfl rfl ⟨rfl, rfl, rfl, rfl, rfl⟩ rfl rfl rfl rfl rfl (by kernel_rfl) Tryd.func3 (by kernel_rfl)
    (of_decide_eq_true (by kernel_rfl)) (by unfold Func.isWrapper; first | (rw [if_pos (by decide +kernel)]; kernel_rfl) | (rw [if_neg (by decide +kernel)]; exact ⟨rfl, rfl⟩))
    (fun os started H enc _ => lifted os started H enc)
theorem card : Rows.FnExactFirstSplitCardSaid :=
  Claim7.holds_tied_plain_at .later [] [.data, .data, .data] true (true, "459b398b5d854b2ac6d27a687f7946b7a088c62df72c26a17dcf0f8ecc61ea95") false over (fun _ h => by cases h) (by kernel_rfl) (fun _ h => by cases h) fnExactFirstSplit_row_tie rfl ⟨rfl, rfl⟩ (by kernel_rfl) rfl
    (fun f fn hf hfn => by
      obtain rfl : f = 3 := Option.some.inj ((show Tryd.prog.funcNamed "loop.example/g01404/laws.FnExactFirstSplit" = some 3 by kernel_rfl).symm.trans hf) |>.symm
      obtain rfl : fn = Tryd.f3 := (Option.some.inj (Tryd.func3.symm.trans hfn)).symm
      exact ⟨by kernel_rfl, fun j t ht => by
        rw [Tryd.params3] at ht
        have hm : t ∈ [24, 2] := by simpa using Array.mem_of_getElem? ht
        have hall : ([24, 2].all fun u => !Tryd.prog.wantsStandIn u) = true := by kernel_rfl
        exact (show Tryd.prog.wantsStandIn t = false by simpa using List.all_eq_true.1 hall t hm)⟩)
    (by kernel_rfl)
#print axioms card
end Go.Proofs.YtcbhhbkghbnljaaDoor.fnExactFirstSplit
namespace Go.Proofs.YtcbhhbkghbnljaaDoor
/-- The tied card, under a short name, for the claim. -/
theorem fnExactFirstSplit_holds : Rows.FnExactFirstSplitCardSaid := fnExactFirstSplit.card
end Go.Proofs.YtcbhhbkghbnljaaDoor
