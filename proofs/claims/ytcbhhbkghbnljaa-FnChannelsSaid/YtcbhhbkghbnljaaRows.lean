/-
  No cell of these rows narrows 'for every input' (looked for: loops, veiled, ifaces, maps, wideKeys, modest, calm, conditions, laid).
  DERIVED. THE GIVEN ROWS OF THIS SEAT. 9 by the template 'for every input the law returns true; each argument reads behind the call as it read before'; 0 by the template 'total and deterministic' (their statements: YtcbhhbkghbnljaaTotals.lean).
  GIVEN WITH THE SEED: the statements are not yours to turn. If you find one false, say at which input.
  Laid BY PROGRAM, IN A SANDBOX (cutbox-rows.mjs): the forced cells as the released guide's own fill.sh prints them over the translation d290a207b251ed8d… (all of the seat's roots in one cut). By AI agents, Wed Nov 11 2026. No macro, syntax, notation, axiom, sorry.
-/
import Derived.Test.YtcbhhbkghbnljaaChecked
import GoSem.Claim
import GoSem.ClaimJoined
import GoSem.ClaimMapViews
import Derived.JoinedTies
import Derived.KernelRfl
namespace Go.Proofs.Ytcbhhbkghbnljaa
/- THE CELL 'sum', in the pinned program and in every row, IS THE sha256 OF THE DUMP (.gsa) THAT YtcbhhbkghbnljaaProg.lean LOADS. Nothing in Lean hashes anything: it is a label: what it is worth is what the hold of that sum in a sandbox is worth. -/
noncomputable def Try.pinned : Pinned := { name := "ytcbhhbkghbnljaa", sum := "d290a207b251ed8d133e7a79e5417973395ba067985980ce4a2aab596722c515", checked := Try.checked }
namespace Rows
def none {H : Type} : Left H := { results := [], args := [] }

/-- 'laws.FnExactLeastEqualGap': WHATEVER THE INPUT: true; the input reads as it did. -/
def fnExactLeastEqualGapSpec : ChangeSpec := { name := "fnExactLeastEqualGap", fn := fun _ => fun
  | [d1, d2] => { results := [.lit (.bool true)], args := [d1, d2] }
  | _ => none }
def fnExactLeastEqualGapRow : OpenClaim := { program := "ytcbhhbkghbnljaa", sum := "d290a207b251ed8d133e7a79e5417973395ba067985980ce4a2aab596722c515", func := "loop.example/g01404/laws.FnExactLeastEqualGap", spec := "fnExactLeastEqualGap", unfollowed := true, recurses := true, apart := false }
def FnExactLeastEqualGapSaid : Prop := fnExactLeastEqualGapRow.holds Try.pinned (OpenSpec.ofChange fnExactLeastEqualGapSpec)

/-- ITS FALSE NEIGHBOUR: 'it returns false'. Refute it at one input. -/
def fnExactLeastEqualGapWrong : ChangeSpec := { name := "fnExactLeastEqualGap", fn := fun _ => fun
  | [d1, d2] => { results := [.lit (.bool false)], args := [d1, d2] }
  | _ => none }
def FnExactLeastEqualGapWrongFalsely : Prop := fnExactLeastEqualGapRow.holds Try.pinned (OpenSpec.ofChange fnExactLeastEqualGapWrong)

/-- 'laws.FnExactCanServeOn': WHATEVER THE INPUT: true; the input reads as it did. -/
def fnExactCanServeOnSpec : ChangeSpec := { name := "fnExactCanServeOn", fn := fun _ => fun
  | [d1, d2] => { results := [.lit (.bool true)], args := [d1, d2] }
  | _ => none }
def fnExactCanServeOnRow : OpenClaim := { program := "ytcbhhbkghbnljaa", sum := "d290a207b251ed8d133e7a79e5417973395ba067985980ce4a2aab596722c515", func := "loop.example/g01404/laws.FnExactCanServeOn", spec := "fnExactCanServeOn", unfollowed := true, recurses := true, apart := false }
def FnExactCanServeOnSaid : Prop := fnExactCanServeOnRow.holds Try.pinned (OpenSpec.ofChange fnExactCanServeOnSpec)

/-- ITS FALSE NEIGHBOUR: 'it returns false'. Refute it at one input. -/
def fnExactCanServeOnWrong : ChangeSpec := { name := "fnExactCanServeOn", fn := fun _ => fun
  | [d1, d2] => { results := [.lit (.bool false)], args := [d1, d2] }
  | _ => none }
def FnExactCanServeOnWrongFalsely : Prop := fnExactCanServeOnRow.holds Try.pinned (OpenSpec.ofChange fnExactCanServeOnWrong)

/-- 'laws.FnExactFewestChannels': WHATEVER THE INPUT: true; the input reads as it did. -/
def fnExactFewestChannelsSpec : ChangeSpec := { name := "fnExactFewestChannels", fn := fun _ => fun
  | [d] => { results := [.lit (.bool true)], args := [d] }
  | _ => none }
def fnExactFewestChannelsRow : OpenClaim := { program := "ytcbhhbkghbnljaa", sum := "d290a207b251ed8d133e7a79e5417973395ba067985980ce4a2aab596722c515", func := "loop.example/g01404/laws.FnExactFewestChannels", spec := "fnExactFewestChannels", unfollowed := true, recurses := true, apart := false }
def FnExactFewestChannelsSaid : Prop := fnExactFewestChannelsRow.holds Try.pinned (OpenSpec.ofChange fnExactFewestChannelsSpec)

/-- ITS FALSE NEIGHBOUR: 'it returns false'. Refute it at one input. -/
def fnExactFewestChannelsWrong : ChangeSpec := { name := "fnExactFewestChannels", fn := fun _ => fun
  | [d] => { results := [.lit (.bool false)], args := [d] }
  | _ => none }
def FnExactFewestChannelsWrongFalsely : Prop := fnExactFewestChannelsRow.holds Try.pinned (OpenSpec.ofChange fnExactFewestChannelsWrong)

/-- 'laws.FnExactLeastPlayOn': WHATEVER THE INPUT: true; the input reads as it did. -/
def fnExactLeastPlayOnSpec : ChangeSpec := { name := "fnExactLeastPlayOn", fn := fun _ => fun
  | [d1, d2] => { results := [.lit (.bool true)], args := [d1, d2] }
  | _ => none }
def fnExactLeastPlayOnRow : OpenClaim := { program := "ytcbhhbkghbnljaa", sum := "d290a207b251ed8d133e7a79e5417973395ba067985980ce4a2aab596722c515", func := "loop.example/g01404/laws.FnExactLeastPlayOn", spec := "fnExactLeastPlayOn", unfollowed := true, recurses := true, apart := false }
def FnExactLeastPlayOnSaid : Prop := fnExactLeastPlayOnRow.holds Try.pinned (OpenSpec.ofChange fnExactLeastPlayOnSpec)

/-- ITS FALSE NEIGHBOUR: 'it returns false'. Refute it at one input. -/
def fnExactLeastPlayOnWrong : ChangeSpec := { name := "fnExactLeastPlayOn", fn := fun _ => fun
  | [d1, d2] => { results := [.lit (.bool false)], args := [d1, d2] }
  | _ => none }
def FnExactLeastPlayOnWrongFalsely : Prop := fnExactLeastPlayOnRow.holds Try.pinned (OpenSpec.ofChange fnExactLeastPlayOnWrong)

/-- 'laws.FnStates': WHATEVER THE INPUT: true; the input reads as it did. -/
def fnStatesSpec : ChangeSpec := { name := "fnStates", fn := fun _ => fun
  | [d] => { results := [.lit (.bool true)], args := [d] }
  | _ => none }
def fnStatesRow : OpenClaim := { program := "ytcbhhbkghbnljaa", sum := "d290a207b251ed8d133e7a79e5417973395ba067985980ce4a2aab596722c515", func := "loop.example/g01404/laws.FnStates", spec := "fnStates", unfollowed := true, recurses := true, apart := false }
def FnStatesSaid : Prop := fnStatesRow.holds Try.pinned (OpenSpec.ofChange fnStatesSpec)

/-- ITS FALSE NEIGHBOUR: 'it returns false'. Refute it at one input. -/
def fnStatesWrong : ChangeSpec := { name := "fnStates", fn := fun _ => fun
  | [d] => { results := [.lit (.bool false)], args := [d] }
  | _ => none }
def FnStatesWrongFalsely : Prop := fnStatesRow.holds Try.pinned (OpenSpec.ofChange fnStatesWrong)

/-- 'laws.FnPlays': WHATEVER THE INPUT: true; the input reads as it did. -/
def fnPlaysSpec : ChangeSpec := { name := "fnPlays", fn := fun _ => fun
  | [d] => { results := [.lit (.bool true)], args := [d] }
  | _ => none }
def fnPlaysRow : OpenClaim := { program := "ytcbhhbkghbnljaa", sum := "d290a207b251ed8d133e7a79e5417973395ba067985980ce4a2aab596722c515", func := "loop.example/g01404/laws.FnPlays", spec := "fnPlays", unfollowed := true, recurses := true, apart := false }
def FnPlaysSaid : Prop := fnPlaysRow.holds Try.pinned (OpenSpec.ofChange fnPlaysSpec)

/-- ITS FALSE NEIGHBOUR: 'it returns false'. Refute it at one input. -/
def fnPlaysWrong : ChangeSpec := { name := "fnPlays", fn := fun _ => fun
  | [d] => { results := [.lit (.bool false)], args := [d] }
  | _ => none }
def FnPlaysWrongFalsely : Prop := fnPlaysRow.holds Try.pinned (OpenSpec.ofChange fnPlaysWrong)

/-- 'laws.FnGrounds': WHATEVER THE INPUT: true; the input reads as it did. -/
def fnGroundsSpec : ChangeSpec := { name := "fnGrounds", fn := fun _ => fun
  | [d] => { results := [.lit (.bool true)], args := [d] }
  | _ => none }
def fnGroundsRow : OpenClaim := { program := "ytcbhhbkghbnljaa", sum := "d290a207b251ed8d133e7a79e5417973395ba067985980ce4a2aab596722c515", func := "loop.example/g01404/laws.FnGrounds", spec := "fnGrounds", unfollowed := true, recurses := true, apart := false }
def FnGroundsSaid : Prop := fnGroundsRow.holds Try.pinned (OpenSpec.ofChange fnGroundsSpec)

/-- ITS FALSE NEIGHBOUR: 'it returns false'. Refute it at one input. -/
def fnGroundsWrong : ChangeSpec := { name := "fnGrounds", fn := fun _ => fun
  | [d] => { results := [.lit (.bool false)], args := [d] }
  | _ => none }
def FnGroundsWrongFalsely : Prop := fnGroundsRow.holds Try.pinned (OpenSpec.ofChange fnGroundsWrong)

/-- 'laws.FnRoutes': WHATEVER THE INPUT: true; the input reads as it did. -/
def fnRoutesSpec : ChangeSpec := { name := "fnRoutes", fn := fun _ => fun
  | [d] => { results := [.lit (.bool true)], args := [d] }
  | _ => none }
def fnRoutesRow : OpenClaim := { program := "ytcbhhbkghbnljaa", sum := "d290a207b251ed8d133e7a79e5417973395ba067985980ce4a2aab596722c515", func := "loop.example/g01404/laws.FnRoutes", spec := "fnRoutes", unfollowed := true, recurses := true, apart := false }
def FnRoutesSaid : Prop := fnRoutesRow.holds Try.pinned (OpenSpec.ofChange fnRoutesSpec)

/-- ITS FALSE NEIGHBOUR: 'it returns false'. Refute it at one input. -/
def fnRoutesWrong : ChangeSpec := { name := "fnRoutes", fn := fun _ => fun
  | [d] => { results := [.lit (.bool false)], args := [d] }
  | _ => none }
def FnRoutesWrongFalsely : Prop := fnRoutesRow.holds Try.pinned (OpenSpec.ofChange fnRoutesWrong)

/-- 'laws.FnChannels': WHATEVER THE INPUT: true; the input reads as it did. -/
def fnChannelsSpec : ChangeSpec := { name := "fnChannels", fn := fun _ => fun
  | [d] => { results := [.lit (.bool true)], args := [d] }
  | _ => none }
def fnChannelsRow : OpenClaim := { program := "ytcbhhbkghbnljaa", sum := "d290a207b251ed8d133e7a79e5417973395ba067985980ce4a2aab596722c515", func := "loop.example/g01404/laws.FnChannels", spec := "fnChannels", unfollowed := true, recurses := true, apart := false }
def FnChannelsSaid : Prop := fnChannelsRow.holds Try.pinned (OpenSpec.ofChange fnChannelsSpec)

/-- ITS FALSE NEIGHBOUR: 'it returns false'. Refute it at one input. -/
def fnChannelsWrong : ChangeSpec := { name := "fnChannels", fn := fun _ => fun
  | [d] => { results := [.lit (.bool false)], args := [d] }
  | _ => none }
def FnChannelsWrongFalsely : Prop := fnChannelsRow.holds Try.pinned (OpenSpec.ofChange fnChannelsWrong)

/- THE SECOND FORM. 'bulk': how many values and letters a reading holds, each counted each time it is reached (what is shared counts as often as it is met; a slice's spare places count too). A statement '..UptoSaid' is the law's where the arguments, and the package variables that the reading takes, are together of bulk at most 1048576: NARROWER than '..Said'. Prove '..Said' where nothing that the law and all that it calls make is longer than what came in: it says more and counts as full. Else prove '..UptoSaid'. A law counts once. -/
mutual
def uptoBulk {H : Type} : DataW H → Nat
  | .lit (.string bytes) => bytes.length + 1
  | .lit _ => 1
  | .nil => 1
  | .ptr d => uptoBulk d + 1
  | .slice elems spare => uptoBulkAll elems + uptoBulkAll spare + 1
  | .agg parts => uptoBulkAll parts + 1
  | .iface _ d => uptoBulk d + 1
  | .map entries => uptoBulkEntries entries + 1
  | .held _ => 1
def uptoBulkAll {H : Type} : List (DataW H) → Nat
  | [] => 0
  | d :: r => uptoBulk d + uptoBulkAll r
def uptoBulkEntries {H : Type} : List (Lit × DataW H) → Nat
  | [] => 0
  | x :: r => uptoBulkEntry x + uptoBulkEntries r
def uptoBulkEntry {H : Type} : Lit × DataW H → Nat
  | (.string bytes, d) => bytes.length + uptoBulk d + 1
  | (_, d) => uptoBulk d + 1
 end
def uptoSmall : (H : Type) → List (DataW H) → Bool := fun _ ds => decide (uptoBulkAll ds ≤ 1048576)
def OpenSpec.upto (s : _root_.Go.ChangeSpec) : _root_.Go.OpenSpec := { _root_.Go.OpenSpec.ofChange s with cond := some uptoSmall }

/-- 'laws.FnExactLeastEqualGap', WHERE WHAT IT READS IS OF BULK AT MOST 1048576: true; the input reads as it did. -/
def fnExactLeastEqualGapUptoRow : OpenClaim := { program := "ytcbhhbkghbnljaa", sum := "d290a207b251ed8d133e7a79e5417973395ba067985980ce4a2aab596722c515", func := "loop.example/g01404/laws.FnExactLeastEqualGap", spec := "fnExactLeastEqualGap", unfollowed := true, recurses := true, apart := false, narrowed := true }
def FnExactLeastEqualGapUptoSaid : Prop := fnExactLeastEqualGapUptoRow.holds Try.pinned (OpenSpec.upto fnExactLeastEqualGapSpec)

/-- 'laws.FnExactCanServeOn', WHERE WHAT IT READS IS OF BULK AT MOST 1048576: true; the input reads as it did. -/
def fnExactCanServeOnUptoRow : OpenClaim := { program := "ytcbhhbkghbnljaa", sum := "d290a207b251ed8d133e7a79e5417973395ba067985980ce4a2aab596722c515", func := "loop.example/g01404/laws.FnExactCanServeOn", spec := "fnExactCanServeOn", unfollowed := true, recurses := true, apart := false, narrowed := true }
def FnExactCanServeOnUptoSaid : Prop := fnExactCanServeOnUptoRow.holds Try.pinned (OpenSpec.upto fnExactCanServeOnSpec)

/-- 'laws.FnExactFewestChannels', WHERE WHAT IT READS IS OF BULK AT MOST 1048576: true; the input reads as it did. -/
def fnExactFewestChannelsUptoRow : OpenClaim := { program := "ytcbhhbkghbnljaa", sum := "d290a207b251ed8d133e7a79e5417973395ba067985980ce4a2aab596722c515", func := "loop.example/g01404/laws.FnExactFewestChannels", spec := "fnExactFewestChannels", unfollowed := true, recurses := true, apart := false, narrowed := true }
def FnExactFewestChannelsUptoSaid : Prop := fnExactFewestChannelsUptoRow.holds Try.pinned (OpenSpec.upto fnExactFewestChannelsSpec)

/-- 'laws.FnExactLeastPlayOn', WHERE WHAT IT READS IS OF BULK AT MOST 1048576: true; the input reads as it did. -/
def fnExactLeastPlayOnUptoRow : OpenClaim := { program := "ytcbhhbkghbnljaa", sum := "d290a207b251ed8d133e7a79e5417973395ba067985980ce4a2aab596722c515", func := "loop.example/g01404/laws.FnExactLeastPlayOn", spec := "fnExactLeastPlayOn", unfollowed := true, recurses := true, apart := false, narrowed := true }
def FnExactLeastPlayOnUptoSaid : Prop := fnExactLeastPlayOnUptoRow.holds Try.pinned (OpenSpec.upto fnExactLeastPlayOnSpec)

/-- 'laws.FnStates', WHERE WHAT IT READS IS OF BULK AT MOST 1048576: true; the input reads as it did. -/
def fnStatesUptoRow : OpenClaim := { program := "ytcbhhbkghbnljaa", sum := "d290a207b251ed8d133e7a79e5417973395ba067985980ce4a2aab596722c515", func := "loop.example/g01404/laws.FnStates", spec := "fnStates", unfollowed := true, recurses := true, apart := false, narrowed := true }
def FnStatesUptoSaid : Prop := fnStatesUptoRow.holds Try.pinned (OpenSpec.upto fnStatesSpec)

/-- 'laws.FnPlays', WHERE WHAT IT READS IS OF BULK AT MOST 1048576: true; the input reads as it did. -/
def fnPlaysUptoRow : OpenClaim := { program := "ytcbhhbkghbnljaa", sum := "d290a207b251ed8d133e7a79e5417973395ba067985980ce4a2aab596722c515", func := "loop.example/g01404/laws.FnPlays", spec := "fnPlays", unfollowed := true, recurses := true, apart := false, narrowed := true }
def FnPlaysUptoSaid : Prop := fnPlaysUptoRow.holds Try.pinned (OpenSpec.upto fnPlaysSpec)

/-- 'laws.FnGrounds', WHERE WHAT IT READS IS OF BULK AT MOST 1048576: true; the input reads as it did. -/
def fnGroundsUptoRow : OpenClaim := { program := "ytcbhhbkghbnljaa", sum := "d290a207b251ed8d133e7a79e5417973395ba067985980ce4a2aab596722c515", func := "loop.example/g01404/laws.FnGrounds", spec := "fnGrounds", unfollowed := true, recurses := true, apart := false, narrowed := true }
def FnGroundsUptoSaid : Prop := fnGroundsUptoRow.holds Try.pinned (OpenSpec.upto fnGroundsSpec)

/-- 'laws.FnRoutes', WHERE WHAT IT READS IS OF BULK AT MOST 1048576: true; the input reads as it did. -/
def fnRoutesUptoRow : OpenClaim := { program := "ytcbhhbkghbnljaa", sum := "d290a207b251ed8d133e7a79e5417973395ba067985980ce4a2aab596722c515", func := "loop.example/g01404/laws.FnRoutes", spec := "fnRoutes", unfollowed := true, recurses := true, apart := false, narrowed := true }
def FnRoutesUptoSaid : Prop := fnRoutesUptoRow.holds Try.pinned (OpenSpec.upto fnRoutesSpec)

/-- 'laws.FnChannels', WHERE WHAT IT READS IS OF BULK AT MOST 1048576: true; the input reads as it did. -/
def fnChannelsUptoRow : OpenClaim := { program := "ytcbhhbkghbnljaa", sum := "d290a207b251ed8d133e7a79e5417973395ba067985980ce4a2aab596722c515", func := "loop.example/g01404/laws.FnChannels", spec := "fnChannels", unfollowed := true, recurses := true, apart := false, narrowed := true }
def FnChannelsUptoSaid : Prop := fnChannelsUptoRow.holds Try.pinned (OpenSpec.upto fnChannelsSpec)

end Rows
end Go.Proofs.Ytcbhhbkghbnljaa
