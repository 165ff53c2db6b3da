/- The law FnSplits: it gives true at every input and leaves what it reads as it was; and the card, which ties the listed variables. Conditions: none beyond the row's own. Joined by a program of my own (lawlaid.py), after the kit's worked text Woown. -/
import Derived.Test.YtcbhhbkghbnljaaGreatDoorRows
import Derived.Test.YtcbhhbkghbnljaaGreatDoorCards
import Derived.Test.YtcbhhbkghbnljaaGreatDoorTie
import Derived.Test.YtcbhhbkghbnljaaGreatDoorChecked
import Derived.Test.YtcbhhbkghbnljaaGreatDoorQc
import Derived.Test.YtcbhhbkghbnljaaGreatDoorVc
import Derived.WalkKit
import Derived.ProofKit
import Derived.OpenShut
import Derived.ShutString
import Derived.ChangeOld
import Derived.Below
import Derived.SizedLaws
import Derived.Lib.SmallJoins
import Derived.Lay
import Derived.SevenTiedAt
import Derived.Lib.LaidTab
import Derived.Lib.ItoaNum
namespace Go.Proofs.YtcbhhbkghbnljaaGreatDoor.fnSplits
open Go.ChangeShapes Go.WideShapes Go.ChangeAt Go.RowKit
set_option linter.unusedVariables false
set_option linter.unusedSimpArgs false
theorem own : ownKnob Tryz.prog.godebug = none := by kernel_rfl
theorem laidOut : laidOutB Tryz.prog = true := by kernel_rfl
theorem pure' : ∀ x, Go.V.BL (Go.V.flatC (Vf.S4 0).ps) x → ∃ k y, (fun k => (Vf.S4 k).fn) k x = some y ∧ (Go.V.splitD [Go.V.D1.dat .bool] (Go.V.outsC (Vf.S4 0).ps) y).1 = true :=
  fun x h => ⟨2097152, true, Vf.law_FnSplits (Nat.le_refl _) (Vf.bytes_of h.2), rfl⟩
theorem tabMem {P : Program} {W : World} {name : String} {k : IntKind} {zs : List Int} {g : Nat} {t e : TypeId} {n : Nat} (hg : P.globalNamed name = some g) (hty : (P.globals[g]?).map (·.type) = some t) (ht : P.underlying t = some (.array n e))
    (he : P.underlying e = some (.int k)) (hce : P.cellsOf e = 1) (hct : P.cellsOf t = n) : ∀ {laid : List (String × DataW Unit)} {ps : List MemPlace}, DataW.LaidVars P W laid ps → (name, Lib.tabData k zs) ∈ laid → Lib.TabIs P W name k zs
  | [], _, _, hm => by cases hm
  | (n', d') :: r, ps, ⟨g', t', cs, fuel, p, q, hg', ht', hvar, hd, hr, _⟩, hm => by
    rcases List.mem_cons.1 hm with hh | hh
    · cases hh
      obtain rfl := Option.some.inj (hg.symm.trans hg')
      obtain rfl := Option.some.inj (hty.symm.trans ht')
      unfold Lib.TabIs
      rw [hvar, ← Lib.cells_of_tab ht he hce hct hd]
    · exact tabMem hg hty ht he hce hct hr hh
theorem glOf {W : World} (hL : laidMetH Tryz.prog Rows.fnSplitsRow.laid W) : Go.V.Gl Tryz.prog W fun _ => False := by
  rw [MakeChecks.laidMetH_plain _ _ _ (by kernel_rfl)] at hL
  obtain ⟨ps, hv, _⟩ := hL
  have ht : Lib.TabIs Tryz.prog W "internal/strconv.uint64pow10" .u64 Lib.pow10Tab := tabMem (g := 0) (t := 189) (e := 59) (n := 20) (by kernel_rfl) (by kernel_rfl) (by kernel_rfl) (by kernel_rfl) (by kernel_rfl) (by kernel_rfl) hv (List.mem_of_getElem? (i := 2) (by kernel_rfl))
  intro g hg
  refine ⟨id, ?_, ht⟩
  have h2 := ht
  unfold Lib.TabIs World.var? at h2
  rw [hg] at h2
  by_cases hlt : g < W.heap.size
  · exact hlt
  · rw [Option.bind_some, Array.getElem?_eq_none (by omega)] at h2
    cases h2
set_option maxRecDepth 100000 in
theorem lifted (os : Os) (started : os.Started) (H : Type) (enc : TypeId × Value → H) :
    ReturnsInHanded {} Tryz.checked os 4 .any (fun w args => (Rows.fnSplitsSpec.pre enc Tryz.prog Tryz.f4 [] false w args ∧ laidMetH Tryz.prog Rows.fnSplitsRow.laid w) ∧ sizedMet enc Tryz.prog Tryz.f4 (OpenSpec.ofChange Rows.fnSplitsSpec) false w args)
      (Rows.fnSplitsSpec.post enc Tryz.prog Tryz.f4 false true false false) := by
  refine returnsInHanded_of_change_and (C := Tryz.checked) (X := fun w _ => laidMetH Tryz.prog Rows.fnSplitsRow.laid w) (fun _ _ _ hh h => h.of_heap hh) own started (by kernel_rfl) Tryz.func4
    (ChangeSpec.witness_shaped (enc := enc) (C := Tryz.checked) (os := os) (X := fun w _ => laidMetH Tryz.prog Rows.fnSplitsRow.laid w) false (World.laidAll Tryz.prog os Rows.fnSplitsRow.laid) #[.slice none 0 0] 8 (World.laidAll_os _ _ _)
      (World.shaped_of_ZipB (by kernel_rfl) (by kernel_rfl)) (by kernel_rfl) (by kernel_rfl) (by kernel_rfl)
      (by rw [MakeChecks.laidMetH_plain _ _ _ (by kernel_rfl)]; exact laidMet_laidAll _ (by kernel_rfl) (by kernel_rfl))) ?_
  intro W base args ds gs before hval0 hW _ _ hL _
  have hval : ∀ (j : Nat) t v, Tryz.f4.params[j]? = some t → args[j]? = some v → Value.okWide Tryz.prog W .any base t v := hval0
  have hW' := hW
  obtain ⟨p, q, hA0, hV, rfl, hfz, hnd⟩ := hW
  have hA : DataW.TrodAll enc Tryz.prog W 0 (fun _ => true) true Tryz.f4.params.toList args.toList ds p := hA0
  rw [Tryz.params4] at hA hval
  obtain ⟨rfl, rfl⟩ := trodVars_none hV
  have r0 := hA
  obtain ⟨v0, vs0, d0, ds0, p0, q0, hargs0, rfl, rfl, h0, r1⟩ := trodAll_cons r0
  obtain ⟨rfl, rfl, rfl⟩ := trodAll_nil r1
  refine (Go.V.law_calls (ps := (Vf.S4 0).ps) (F := fun k => (Vf.S4 k).fn) Vf.tbOk (glOf hL) (by kernel_rfl) rfl (fun k => Vf.M4 k) pure' hA (fun j t v ht ha => hval j t v (by rw [Array.getElem?_toList] at ht; exact ht) ha)).mono fun e W' ⟨he, bel⟩ => ?_
  subst he
  exact ⟨_, rfl, _, _, _, [], _, [], hW', trodAll_mk1 (shut_bool Tryz.underlying4 _), Go.V.args_stay laidOut bel (by kernel_rfl) hA, rfl, bel.frame _, fun h => by cases h⟩
theorem over : Rows.fnSplitsRow.holds Tryz.pinned (OpenSpec.ofChange Rows.fnSplitsSpec) :=
  OpenClaim.holds_of_wide 4 Tryz.f4 rfl rfl rfl rfl rfl rfl rfl ⟨rfl, rfl, rfl, rfl, rfl⟩ rfl rfl rfl rfl rfl (by kernel_rfl) Tryz.func4 (by kernel_rfl)
    (of_decide_eq_true (by kernel_rfl)) (by unfold Func.isWrapper; first | (rw [if_pos (by decide +kernel)]; kernel_rfl) | (rw [if_neg (by decide +kernel)]; exact ⟨rfl, rfl⟩))
    (fun os started H enc _ => lifted os started H enc)
theorem card : Rows.FnSplitsCardSaid :=
  Claim7.holds_tied_plain_at .later [] [.data, .data, .data] true (true, "4db3dc9c7f9ce56c48bf1f5b80d1d4e8f6d981ca349adc1e6c3243fd3db83837") false over (fun _ h => by cases h) (by kernel_rfl) (fun _ h => by cases h) fnSplits_row_tie rfl ⟨rfl, rfl⟩ (by kernel_rfl) rfl
    (fun f fn hf hfn => by
      obtain rfl : f = 4 := Option.some.inj ((show Tryz.prog.funcNamed "loop.example/g01404/laws.FnSplits" = some 4 by kernel_rfl).symm.trans hf) |>.symm
      obtain rfl : fn = Tryz.f4 := (Option.some.inj (Tryz.func4.symm.trans hfn)).symm
      exact ⟨by kernel_rfl, fun j t ht => by
        rw [Tryz.params4] at ht
        have hm : t ∈ [22] := by simpa using Array.mem_of_getElem? ht
        have hall : ([22].all fun u => !Tryz.prog.wantsStandIn u) = true := by kernel_rfl
        exact (show Tryz.prog.wantsStandIn t = false by simpa using List.all_eq_true.1 hall t hm)⟩)
    (by kernel_rfl)
#print axioms card
end Go.Proofs.YtcbhhbkghbnljaaGreatDoor.fnSplits
namespace Go.Proofs.YtcbhhbkghbnljaaGreatDoor
/-- The tied card, under a short name, for the claim. -/
theorem fnSplits_holds : Rows.FnSplitsCardSaid := fnSplits.card
end Go.Proofs.YtcbhhbkghbnljaaGreatDoor
