/-
  No cell of these rows narrows 'for every input' (looked for: loops, veiled, ifaces, maps, wideKeys, modest, calm, conditions, laid).
  DERIVED. THE GIVEN ROWS OF THIS SEAT. 12 by the template 'for every input the law returns true; each argument reads behind the call as it read before'; 0 by the template 'total and deterministic' (their statements: YtjkeadiepbldhaaTotals.lean).
  GIVEN WITH THE SEED: the statements are not yours to turn. If you find one false, say at which input.
  Laid BY PROGRAM, IN A SANDBOX (cutbox-rows.mjs): the forced cells as the released guide's own fill.sh prints them over the translation 16247bbb04b60a08… (all of the seat's roots in one cut). By AI agents, Wed Nov 11 2026. No macro, syntax, notation, axiom, sorry.
-/
import Derived.Test.YtjkeadiepbldhaaChecked
import GoSem.Claim
import GoSem.ClaimJoined
import GoSem.ClaimMapViews
import Derived.JoinedTies
import Derived.KernelRfl
namespace Go.Proofs.Ytjkeadiepbldhaa
/- THE CELL 'sum', in the pinned program and in every row, IS THE sha256 OF THE DUMP (.gsa) THAT YtjkeadiepbldhaaProg.lean LOADS. Nothing in Lean hashes anything: it is a label: what it is worth is what the hold of that sum in a sandbox is worth. -/
noncomputable def Try.pinned : Pinned := { name := "ytjkeadiepbldhaa", sum := "16247bbb04b60a082137fdca20d50c7323547bf9f4fca4b9a38f8b8544f7ea2a", checked := Try.checked }
namespace Rows
def none {H : Type} : Left H := { results := [], args := [] }

/-- 'laws.FnExactCountLasting': WHATEVER THE INPUT: true; the input reads as it did. -/
def fnExactCountLastingSpec : ChangeSpec := { name := "fnExactCountLasting", fn := fun _ => fun
  | [d] => { results := [.lit (.bool true)], args := [d] }
  | _ => none }
def fnExactCountLastingRow : OpenClaim := { program := "ytjkeadiepbldhaa", sum := "16247bbb04b60a082137fdca20d50c7323547bf9f4fca4b9a38f8b8544f7ea2a", func := "loop.example/g01404/laws.FnExactCountLasting", spec := "fnExactCountLasting", unfollowed := true, recurses := true, apart := false }
def FnExactCountLastingSaid : Prop := fnExactCountLastingRow.holds Try.pinned (OpenSpec.ofChange fnExactCountLastingSpec)

/-- ITS FALSE NEIGHBOUR: 'it returns false'. Refute it at one input. -/
def fnExactCountLastingWrong : ChangeSpec := { name := "fnExactCountLasting", fn := fun _ => fun
  | [d] => { results := [.lit (.bool false)], args := [d] }
  | _ => none }
def FnExactCountLastingWrongFalsely : Prop := fnExactCountLastingRow.holds Try.pinned (OpenSpec.ofChange fnExactCountLastingWrong)

/-- 'laws.FnExactCanServe': WHATEVER THE INPUT: true; the input reads as it did. -/
def fnExactCanServeSpec : ChangeSpec := { name := "fnExactCanServe", fn := fun _ => fun
  | [d] => { results := [.lit (.bool true)], args := [d] }
  | _ => none }
def fnExactCanServeRow : OpenClaim := { program := "ytjkeadiepbldhaa", sum := "16247bbb04b60a082137fdca20d50c7323547bf9f4fca4b9a38f8b8544f7ea2a", func := "loop.example/g01404/laws.FnExactCanServe", spec := "fnExactCanServe", unfollowed := true, recurses := true, apart := false }
def FnExactCanServeSaid : Prop := fnExactCanServeRow.holds Try.pinned (OpenSpec.ofChange fnExactCanServeSpec)

/-- ITS FALSE NEIGHBOUR: 'it returns false'. Refute it at one input. -/
def fnExactCanServeWrong : ChangeSpec := { name := "fnExactCanServe", fn := fun _ => fun
  | [d] => { results := [.lit (.bool false)], args := [d] }
  | _ => none }
def FnExactCanServeWrongFalsely : Prop := fnExactCanServeRow.holds Try.pinned (OpenSpec.ofChange fnExactCanServeWrong)

/-- 'laws.FnExactIsLasting': WHATEVER THE INPUT: true; the input reads as it did. -/
def fnExactIsLastingSpec : ChangeSpec := { name := "fnExactIsLasting", fn := fun _ => fun
  | [d1, d2] => { results := [.lit (.bool true)], args := [d1, d2] }
  | _ => none }
def fnExactIsLastingRow : OpenClaim := { program := "ytjkeadiepbldhaa", sum := "16247bbb04b60a082137fdca20d50c7323547bf9f4fca4b9a38f8b8544f7ea2a", func := "loop.example/g01404/laws.FnExactIsLasting", spec := "fnExactIsLasting", unfollowed := true, recurses := true, apart := false }
def FnExactIsLastingSaid : Prop := fnExactIsLastingRow.holds Try.pinned (OpenSpec.ofChange fnExactIsLastingSpec)

/-- ITS FALSE NEIGHBOUR: 'it returns false'. Refute it at one input. -/
def fnExactIsLastingWrong : ChangeSpec := { name := "fnExactIsLasting", fn := fun _ => fun
  | [d1, d2] => { results := [.lit (.bool false)], args := [d1, d2] }
  | _ => none }
def FnExactIsLastingWrongFalsely : Prop := fnExactIsLastingRow.holds Try.pinned (OpenSpec.ofChange fnExactIsLastingWrong)

/-- 'laws.FnExactFirstKept': WHATEVER THE INPUT: true; the input reads as it did. -/
def fnExactFirstKeptSpec : ChangeSpec := { name := "fnExactFirstKept", fn := fun _ => fun
  | [d1, d2, d3] => { results := [.lit (.bool true)], args := [d1, d2, d3] }
  | _ => none }
def fnExactFirstKeptRow : OpenClaim := { program := "ytjkeadiepbldhaa", sum := "16247bbb04b60a082137fdca20d50c7323547bf9f4fca4b9a38f8b8544f7ea2a", func := "loop.example/g01404/laws.FnExactFirstKept", spec := "fnExactFirstKept", unfollowed := true, recurses := true, apart := false }
def FnExactFirstKeptSaid : Prop := fnExactFirstKeptRow.holds Try.pinned (OpenSpec.ofChange fnExactFirstKeptSpec)

/-- ITS FALSE NEIGHBOUR: 'it returns false'. Refute it at one input. -/
def fnExactFirstKeptWrong : ChangeSpec := { name := "fnExactFirstKept", fn := fun _ => fun
  | [d1, d2, d3] => { results := [.lit (.bool false)], args := [d1, d2, d3] }
  | _ => none }
def FnExactFirstKeptWrongFalsely : Prop := fnExactFirstKeptRow.holds Try.pinned (OpenSpec.ofChange fnExactFirstKeptWrong)

/-- 'laws.FnExactLeastPlay': WHATEVER THE INPUT: true; the input reads as it did. -/
def fnExactLeastPlaySpec : ChangeSpec := { name := "fnExactLeastPlay", fn := fun _ => fun
  | [d] => { results := [.lit (.bool true)], args := [d] }
  | _ => none }
def fnExactLeastPlayRow : OpenClaim := { program := "ytjkeadiepbldhaa", sum := "16247bbb04b60a082137fdca20d50c7323547bf9f4fca4b9a38f8b8544f7ea2a", func := "loop.example/g01404/laws.FnExactLeastPlay", spec := "fnExactLeastPlay", unfollowed := true, recurses := true, apart := false }
def FnExactLeastPlaySaid : Prop := fnExactLeastPlayRow.holds Try.pinned (OpenSpec.ofChange fnExactLeastPlaySpec)

/-- ITS FALSE NEIGHBOUR: 'it returns false'. Refute it at one input. -/
def fnExactLeastPlayWrong : ChangeSpec := { name := "fnExactLeastPlay", fn := fun _ => fun
  | [d] => { results := [.lit (.bool false)], args := [d] }
  | _ => none }
def FnExactLeastPlayWrongFalsely : Prop := fnExactLeastPlayRow.holds Try.pinned (OpenSpec.ofChange fnExactLeastPlayWrong)

/-- 'laws.FnExactKeepingChoices': WHATEVER THE INPUT: true; the input reads as it did. -/
def fnExactKeepingChoicesSpec : ChangeSpec := { name := "fnExactKeepingChoices", fn := fun _ => fun
  | [d1, d2] => { results := [.lit (.bool true)], args := [d1, d2] }
  | _ => none }
def fnExactKeepingChoicesRow : OpenClaim := { program := "ytjkeadiepbldhaa", sum := "16247bbb04b60a082137fdca20d50c7323547bf9f4fca4b9a38f8b8544f7ea2a", func := "loop.example/g01404/laws.FnExactKeepingChoices", spec := "fnExactKeepingChoices", unfollowed := true, recurses := true, apart := false }
def FnExactKeepingChoicesSaid : Prop := fnExactKeepingChoicesRow.holds Try.pinned (OpenSpec.ofChange fnExactKeepingChoicesSpec)

/-- ITS FALSE NEIGHBOUR: 'it returns false'. Refute it at one input. -/
def fnExactKeepingChoicesWrong : ChangeSpec := { name := "fnExactKeepingChoices", fn := fun _ => fun
  | [d1, d2] => { results := [.lit (.bool false)], args := [d1, d2] }
  | _ => none }
def FnExactKeepingChoicesWrongFalsely : Prop := fnExactKeepingChoicesRow.holds Try.pinned (OpenSpec.ofChange fnExactKeepingChoicesWrong)

/-- 'laws.FnExactLeastTower': WHATEVER THE INPUT: true; the input reads as it did. -/
def fnExactLeastTowerSpec : ChangeSpec := { name := "fnExactLeastTower", fn := fun _ => fun
  | [d] => { results := [.lit (.bool true)], args := [d] }
  | _ => none }
def fnExactLeastTowerRow : OpenClaim := { program := "ytjkeadiepbldhaa", sum := "16247bbb04b60a082137fdca20d50c7323547bf9f4fca4b9a38f8b8544f7ea2a", func := "loop.example/g01404/laws.FnExactLeastTower", spec := "fnExactLeastTower", unfollowed := true, recurses := true, apart := false }
def FnExactLeastTowerSaid : Prop := fnExactLeastTowerRow.holds Try.pinned (OpenSpec.ofChange fnExactLeastTowerSpec)

/-- ITS FALSE NEIGHBOUR: 'it returns false'. Refute it at one input. -/
def fnExactLeastTowerWrong : ChangeSpec := { name := "fnExactLeastTower", fn := fun _ => fun
  | [d] => { results := [.lit (.bool false)], args := [d] }
  | _ => none }
def FnExactLeastTowerWrongFalsely : Prop := fnExactLeastTowerRow.holds Try.pinned (OpenSpec.ofChange fnExactLeastTowerWrong)

/-- 'laws.FnExactFewestSlots': WHATEVER THE INPUT: true; the input reads as it did. -/
def fnExactFewestSlotsSpec : ChangeSpec := { name := "fnExactFewestSlots", fn := fun _ => fun
  | [d] => { results := [.lit (.bool true)], args := [d] }
  | _ => none }
def fnExactFewestSlotsRow : OpenClaim := { program := "ytjkeadiepbldhaa", sum := "16247bbb04b60a082137fdca20d50c7323547bf9f4fca4b9a38f8b8544f7ea2a", func := "loop.example/g01404/laws.FnExactFewestSlots", spec := "fnExactFewestSlots", unfollowed := true, recurses := true, apart := false }
def FnExactFewestSlotsSaid : Prop := fnExactFewestSlotsRow.holds Try.pinned (OpenSpec.ofChange fnExactFewestSlotsSpec)

/-- ITS FALSE NEIGHBOUR: 'it returns false'. Refute it at one input. -/
def fnExactFewestSlotsWrong : ChangeSpec := { name := "fnExactFewestSlots", fn := fun _ => fun
  | [d] => { results := [.lit (.bool false)], args := [d] }
  | _ => none }
def FnExactFewestSlotsWrongFalsely : Prop := fnExactFewestSlotsRow.holds Try.pinned (OpenSpec.ofChange fnExactFewestSlotsWrong)

/-- 'laws.FnExactLeastGap': WHATEVER THE INPUT: true; the input reads as it did. -/
def fnExactLeastGapSpec : ChangeSpec := { name := "fnExactLeastGap", fn := fun _ => fun
  | [d1, d2] => { results := [.lit (.bool true)], args := [d1, d2] }
  | _ => none }
def fnExactLeastGapRow : OpenClaim := { program := "ytjkeadiepbldhaa", sum := "16247bbb04b60a082137fdca20d50c7323547bf9f4fca4b9a38f8b8544f7ea2a", func := "loop.example/g01404/laws.FnExactLeastGap", spec := "fnExactLeastGap", unfollowed := true, recurses := true, apart := false }
def FnExactLeastGapSaid : Prop := fnExactLeastGapRow.holds Try.pinned (OpenSpec.ofChange fnExactLeastGapSpec)

/-- ITS FALSE NEIGHBOUR: 'it returns false'. Refute it at one input. -/
def fnExactLeastGapWrong : ChangeSpec := { name := "fnExactLeastGap", fn := fun _ => fun
  | [d1, d2] => { results := [.lit (.bool false)], args := [d1, d2] }
  | _ => none }
def FnExactLeastGapWrongFalsely : Prop := fnExactLeastGapRow.holds Try.pinned (OpenSpec.ofChange fnExactLeastGapWrong)

/-- 'laws.FnExactCountSafe': WHATEVER THE INPUT: true; the input reads as it did. -/
def fnExactCountSafeSpec : ChangeSpec := { name := "fnExactCountSafe", fn := fun _ => fun
  | [d1, d2] => { results := [.lit (.bool true)], args := [d1, d2] }
  | _ => none }
def fnExactCountSafeRow : OpenClaim := { program := "ytjkeadiepbldhaa", sum := "16247bbb04b60a082137fdca20d50c7323547bf9f4fca4b9a38f8b8544f7ea2a", func := "loop.example/g01404/laws.FnExactCountSafe", spec := "fnExactCountSafe", unfollowed := true, recurses := true, apart := false }
def FnExactCountSafeSaid : Prop := fnExactCountSafeRow.holds Try.pinned (OpenSpec.ofChange fnExactCountSafeSpec)

/-- ITS FALSE NEIGHBOUR: 'it returns false'. Refute it at one input. -/
def fnExactCountSafeWrong : ChangeSpec := { name := "fnExactCountSafe", fn := fun _ => fun
  | [d1, d2] => { results := [.lit (.bool false)], args := [d1, d2] }
  | _ => none }
def FnExactCountSafeWrongFalsely : Prop := fnExactCountSafeRow.holds Try.pinned (OpenSpec.ofChange fnExactCountSafeWrong)

/-- 'laws.FnExactCanWatch': WHATEVER THE INPUT: true; the input reads as it did. -/
def fnExactCanWatchSpec : ChangeSpec := { name := "fnExactCanWatch", fn := fun _ => fun
  | [d1, d2] => { results := [.lit (.bool true)], args := [d1, d2] }
  | _ => none }
def fnExactCanWatchRow : OpenClaim := { program := "ytjkeadiepbldhaa", sum := "16247bbb04b60a082137fdca20d50c7323547bf9f4fca4b9a38f8b8544f7ea2a", func := "loop.example/g01404/laws.FnExactCanWatch", spec := "fnExactCanWatch", unfollowed := true, recurses := true, apart := false }
def FnExactCanWatchSaid : Prop := fnExactCanWatchRow.holds Try.pinned (OpenSpec.ofChange fnExactCanWatchSpec)

/-- ITS FALSE NEIGHBOUR: 'it returns false'. Refute it at one input. -/
def fnExactCanWatchWrong : ChangeSpec := { name := "fnExactCanWatch", fn := fun _ => fun
  | [d1, d2] => { results := [.lit (.bool false)], args := [d1, d2] }
  | _ => none }
def FnExactCanWatchWrongFalsely : Prop := fnExactCanWatchRow.holds Try.pinned (OpenSpec.ofChange fnExactCanWatchWrong)

/-- 'laws.FnExactFirstRoute': WHATEVER THE INPUT: true; the input reads as it did. -/
def fnExactFirstRouteSpec : ChangeSpec := { name := "fnExactFirstRoute", fn := fun _ => fun
  | [d1, d2] => { results := [.lit (.bool true)], args := [d1, d2] }
  | _ => none }
def fnExactFirstRouteRow : OpenClaim := { program := "ytjkeadiepbldhaa", sum := "16247bbb04b60a082137fdca20d50c7323547bf9f4fca4b9a38f8b8544f7ea2a", func := "loop.example/g01404/laws.FnExactFirstRoute", spec := "fnExactFirstRoute", unfollowed := true, recurses := true, apart := false }
def FnExactFirstRouteSaid : Prop := fnExactFirstRouteRow.holds Try.pinned (OpenSpec.ofChange fnExactFirstRouteSpec)

/-- ITS FALSE NEIGHBOUR: 'it returns false'. Refute it at one input. -/
def fnExactFirstRouteWrong : ChangeSpec := { name := "fnExactFirstRoute", fn := fun _ => fun
  | [d1, d2] => { results := [.lit (.bool false)], args := [d1, d2] }
  | _ => none }
def FnExactFirstRouteWrongFalsely : Prop := fnExactFirstRouteRow.holds Try.pinned (OpenSpec.ofChange fnExactFirstRouteWrong)

/- THE SECOND FORM. 'bulk': how many values and letters a reading holds, each counted each time it is reached (what is shared counts as often as it is met; a slice's spare places count too). A statement '..UptoSaid' is the law's where the arguments, and the package variables that the reading takes, are together of bulk at most 1048576: NARROWER than '..Said'. Prove '..Said' where nothing that the law and all that it calls make is longer than what came in: it says more and counts as full. Else prove '..UptoSaid'. A law counts once. -/
mutual
def uptoBulk {H : Type} : DataW H → Nat
  | .lit (.string bytes) => bytes.length + 1
  | .lit _ => 1
  | .nil => 1
  | .ptr d => uptoBulk d + 1
  | .slice elems spare => uptoBulkAll elems + uptoBulkAll spare + 1
  | .agg parts => uptoBulkAll parts + 1
  | .iface _ d => uptoBulk d + 1
  | .map entries => uptoBulkEntries entries + 1
  | .held _ => 1
def uptoBulkAll {H : Type} : List (DataW H) → Nat
  | [] => 0
  | d :: r => uptoBulk d + uptoBulkAll r
def uptoBulkEntries {H : Type} : List (Lit × DataW H) → Nat
  | [] => 0
  | x :: r => uptoBulkEntry x + uptoBulkEntries r
def uptoBulkEntry {H : Type} : Lit × DataW H → Nat
  | (.string bytes, d) => bytes.length + uptoBulk d + 1
  | (_, d) => uptoBulk d + 1
 end
def uptoSmall : (H : Type) → List (DataW H) → Bool := fun _ ds => decide (uptoBulkAll ds ≤ 1048576)
def OpenSpec.upto (s : _root_.Go.ChangeSpec) : _root_.Go.OpenSpec := { _root_.Go.OpenSpec.ofChange s with cond := some uptoSmall }

/-- 'laws.FnExactCountLasting', WHERE WHAT IT READS IS OF BULK AT MOST 1048576: true; the input reads as it did. -/
def fnExactCountLastingUptoRow : OpenClaim := { program := "ytjkeadiepbldhaa", sum := "16247bbb04b60a082137fdca20d50c7323547bf9f4fca4b9a38f8b8544f7ea2a", func := "loop.example/g01404/laws.FnExactCountLasting", spec := "fnExactCountLasting", unfollowed := true, recurses := true, apart := false, narrowed := true }
def FnExactCountLastingUptoSaid : Prop := fnExactCountLastingUptoRow.holds Try.pinned (OpenSpec.upto fnExactCountLastingSpec)

/-- 'laws.FnExactCanServe', WHERE WHAT IT READS IS OF BULK AT MOST 1048576: true; the input reads as it did. -/
def fnExactCanServeUptoRow : OpenClaim := { program := "ytjkeadiepbldhaa", sum := "16247bbb04b60a082137fdca20d50c7323547bf9f4fca4b9a38f8b8544f7ea2a", func := "loop.example/g01404/laws.FnExactCanServe", spec := "fnExactCanServe", unfollowed := true, recurses := true, apart := false, narrowed := true }
def FnExactCanServeUptoSaid : Prop := fnExactCanServeUptoRow.holds Try.pinned (OpenSpec.upto fnExactCanServeSpec)

/-- 'laws.FnExactIsLasting', WHERE WHAT IT READS IS OF BULK AT MOST 1048576: true; the input reads as it did. -/
def fnExactIsLastingUptoRow : OpenClaim := { program := "ytjkeadiepbldhaa", sum := "16247bbb04b60a082137fdca20d50c7323547bf9f4fca4b9a38f8b8544f7ea2a", func := "loop.example/g01404/laws.FnExactIsLasting", spec := "fnExactIsLasting", unfollowed := true, recurses := true, apart := false, narrowed := true }
def FnExactIsLastingUptoSaid : Prop := fnExactIsLastingUptoRow.holds Try.pinned (OpenSpec.upto fnExactIsLastingSpec)

/-- 'laws.FnExactFirstKept', WHERE WHAT IT READS IS OF BULK AT MOST 1048576: true; the input reads as it did. -/
def fnExactFirstKeptUptoRow : OpenClaim := { program := "ytjkeadiepbldhaa", sum := "16247bbb04b60a082137fdca20d50c7323547bf9f4fca4b9a38f8b8544f7ea2a", func := "loop.example/g01404/laws.FnExactFirstKept", spec := "fnExactFirstKept", unfollowed := true, recurses := true, apart := false, narrowed := true }
def FnExactFirstKeptUptoSaid : Prop := fnExactFirstKeptUptoRow.holds Try.pinned (OpenSpec.upto fnExactFirstKeptSpec)

/-- 'laws.FnExactLeastPlay', WHERE WHAT IT READS IS OF BULK AT MOST 1048576: true; the input reads as it did. -/
def fnExactLeastPlayUptoRow : OpenClaim := { program := "ytjkeadiepbldhaa", sum := "16247bbb04b60a082137fdca20d50c7323547bf9f4fca4b9a38f8b8544f7ea2a", func := "loop.example/g01404/laws.FnExactLeastPlay", spec := "fnExactLeastPlay", unfollowed := true, recurses := true, apart := false, narrowed := true }
def FnExactLeastPlayUptoSaid : Prop := fnExactLeastPlayUptoRow.holds Try.pinned (OpenSpec.upto fnExactLeastPlaySpec)

/-- 'laws.FnExactKeepingChoices', WHERE WHAT IT READS IS OF BULK AT MOST 1048576: true; the input reads as it did. -/
def fnExactKeepingChoicesUptoRow : OpenClaim := { program := "ytjkeadiepbldhaa", sum := "16247bbb04b60a082137fdca20d50c7323547bf9f4fca4b9a38f8b8544f7ea2a", func := "loop.example/g01404/laws.FnExactKeepingChoices", spec := "fnExactKeepingChoices", unfollowed := true, recurses := true, apart := false, narrowed := true }
def FnExactKeepingChoicesUptoSaid : Prop := fnExactKeepingChoicesUptoRow.holds Try.pinned (OpenSpec.upto fnExactKeepingChoicesSpec)

/-- 'laws.FnExactLeastTower', WHERE WHAT IT READS IS OF BULK AT MOST 1048576: true; the input reads as it did. -/
def fnExactLeastTowerUptoRow : OpenClaim := { program := "ytjkeadiepbldhaa", sum := "16247bbb04b60a082137fdca20d50c7323547bf9f4fca4b9a38f8b8544f7ea2a", func := "loop.example/g01404/laws.FnExactLeastTower", spec := "fnExactLeastTower", unfollowed := true, recurses := true, apart := false, narrowed := true }
def FnExactLeastTowerUptoSaid : Prop := fnExactLeastTowerUptoRow.holds Try.pinned (OpenSpec.upto fnExactLeastTowerSpec)

/-- 'laws.FnExactFewestSlots', WHERE WHAT IT READS IS OF BULK AT MOST 1048576: true; the input reads as it did. -/
def fnExactFewestSlotsUptoRow : OpenClaim := { program := "ytjkeadiepbldhaa", sum := "16247bbb04b60a082137fdca20d50c7323547bf9f4fca4b9a38f8b8544f7ea2a", func := "loop.example/g01404/laws.FnExactFewestSlots", spec := "fnExactFewestSlots", unfollowed := true, recurses := true, apart := false, narrowed := true }
def FnExactFewestSlotsUptoSaid : Prop := fnExactFewestSlotsUptoRow.holds Try.pinned (OpenSpec.upto fnExactFewestSlotsSpec)

/-- 'laws.FnExactLeastGap', WHERE WHAT IT READS IS OF BULK AT MOST 1048576: true; the input reads as it did. -/
def fnExactLeastGapUptoRow : OpenClaim := { program := "ytjkeadiepbldhaa", sum := "16247bbb04b60a082137fdca20d50c7323547bf9f4fca4b9a38f8b8544f7ea2a", func := "loop.example/g01404/laws.FnExactLeastGap", spec := "fnExactLeastGap", unfollowed := true, recurses := true, apart := false, narrowed := true }
def FnExactLeastGapUptoSaid : Prop := fnExactLeastGapUptoRow.holds Try.pinned (OpenSpec.upto fnExactLeastGapSpec)

/-- 'laws.FnExactCountSafe', WHERE WHAT IT READS IS OF BULK AT MOST 1048576: true; the input reads as it did. -/
def fnExactCountSafeUptoRow : OpenClaim := { program := "ytjkeadiepbldhaa", sum := "16247bbb04b60a082137fdca20d50c7323547bf9f4fca4b9a38f8b8544f7ea2a", func := "loop.example/g01404/laws.FnExactCountSafe", spec := "fnExactCountSafe", unfollowed := true, recurses := true, apart := false, narrowed := true }
def FnExactCountSafeUptoSaid : Prop := fnExactCountSafeUptoRow.holds Try.pinned (OpenSpec.upto fnExactCountSafeSpec)

/-- 'laws.FnExactCanWatch', WHERE WHAT IT READS IS OF BULK AT MOST 1048576: true; the input reads as it did. -/
def fnExactCanWatchUptoRow : OpenClaim := { program := "ytjkeadiepbldhaa", sum := "16247bbb04b60a082137fdca20d50c7323547bf9f4fca4b9a38f8b8544f7ea2a", func := "loop.example/g01404/laws.FnExactCanWatch", spec := "fnExactCanWatch", unfollowed := true, recurses := true, apart := false, narrowed := true }
def FnExactCanWatchUptoSaid : Prop := fnExactCanWatchUptoRow.holds Try.pinned (OpenSpec.upto fnExactCanWatchSpec)

/-- 'laws.FnExactFirstRoute', WHERE WHAT IT READS IS OF BULK AT MOST 1048576: true; the input reads as it did. -/
def fnExactFirstRouteUptoRow : OpenClaim := { program := "ytjkeadiepbldhaa", sum := "16247bbb04b60a082137fdca20d50c7323547bf9f4fca4b9a38f8b8544f7ea2a", func := "loop.example/g01404/laws.FnExactFirstRoute", spec := "fnExactFirstRoute", unfollowed := true, recurses := true, apart := false, narrowed := true }
def FnExactFirstRouteUptoSaid : Prop := fnExactFirstRouteUptoRow.holds Try.pinned (OpenSpec.upto fnExactFirstRouteSpec)

end Rows
end Go.Proofs.Ytjkeadiepbldhaa
