/-
  No cell of these rows narrows 'for every input' (looked for: loops, veiled, ifaces, maps, wideKeys, modest, calm, conditions, laid).
  DERIVED. THE GIVEN ROWS OF THIS SEAT. 12 by the template 'for every input the law returns true; each argument reads behind the call as it read before'; 0 by the template 'total and deterministic' (their statements: YtdleajokhhijhaaTotals.lean).
  GIVEN WITH THE SEED: the statements are not yours to turn. If you find one false, say at which input.
  Laid BY PROGRAM, IN A SANDBOX (cutbox-rows.mjs): the forced cells as the released guide's own fill.sh prints them over the translation 6c25aa196571f5b0… (all of the seat's roots in one cut). By AI agents, Wed Nov 11 2026. No macro, syntax, notation, axiom, sorry.
-/
import Derived.Test.YtdleajokhhijhaaChecked
import GoSem.Claim
import GoSem.ClaimJoined
import GoSem.ClaimMapViews
import Derived.JoinedTies
import Derived.KernelRfl
namespace Go.Proofs.Ytdleajokhhijhaa
/- THE CELL 'sum', in the pinned program and in every row, IS THE sha256 OF THE DUMP (.gsa) THAT YtdleajokhhijhaaProg.lean LOADS. Nothing in Lean hashes anything: it is a label: what it is worth is what the hold of that sum in a sandbox is worth. -/
noncomputable def Try.pinned : Pinned := { name := "ytdleajokhhijhaa", sum := "6c25aa196571f5b0c89e0239371d972a9d30c93a829f4968d18473aa0a224874", checked := Try.checked }
namespace Rows
def none {H : Type} : Left H := { results := [], args := [] }

/-- 'laws.FnExactNewDesk': WHATEVER THE INPUT: true; the input reads as it did. -/
def fnExactNewDeskSpec : ChangeSpec := { name := "fnExactNewDesk", fn := fun _ => fun
  | [] => { results := [.lit (.bool true)], args := [] }
  | _ => none }
def fnExactNewDeskRow : OpenClaim := { program := "ytdleajokhhijhaa", sum := "6c25aa196571f5b0c89e0239371d972a9d30c93a829f4968d18473aa0a224874", func := "loop.example/g01404/laws.FnExactNewDesk", spec := "fnExactNewDesk", apart := false }
def FnExactNewDeskSaid : Prop := fnExactNewDeskRow.holds Try.pinned (OpenSpec.ofChange fnExactNewDeskSpec)

/-- ITS FALSE NEIGHBOUR: 'it returns false'. Refute it at one input. -/
def fnExactNewDeskWrong : ChangeSpec := { name := "fnExactNewDesk", fn := fun _ => fun
  | [] => { results := [.lit (.bool false)], args := [] }
  | _ => none }
def FnExactNewDeskWrongFalsely : Prop := fnExactNewDeskRow.holds Try.pinned (OpenSpec.ofChange fnExactNewDeskWrong)

/-- 'laws.FnExactEvenMean': WHATEVER THE INPUT: true; the input reads as it did. -/
def fnExactEvenMeanSpec : ChangeSpec := { name := "fnExactEvenMean", fn := fun _ => fun
  | [d] => { results := [.lit (.bool true)], args := [d] }
  | _ => none }
def fnExactEvenMeanRow : OpenClaim := { program := "ytdleajokhhijhaa", sum := "6c25aa196571f5b0c89e0239371d972a9d30c93a829f4968d18473aa0a224874", func := "loop.example/g01404/laws.FnExactEvenMean", spec := "fnExactEvenMean", unfollowed := true, recurses := true, apart := false }
def FnExactEvenMeanSaid : Prop := fnExactEvenMeanRow.holds Try.pinned (OpenSpec.ofChange fnExactEvenMeanSpec)

/-- ITS FALSE NEIGHBOUR: 'it returns false'. Refute it at one input. -/
def fnExactEvenMeanWrong : ChangeSpec := { name := "fnExactEvenMean", fn := fun _ => fun
  | [d] => { results := [.lit (.bool false)], args := [d] }
  | _ => none }
def FnExactEvenMeanWrongFalsely : Prop := fnExactEvenMeanRow.holds Try.pinned (OpenSpec.ofChange fnExactEvenMeanWrong)

/-- 'laws.FnExactTurnsFromShares': WHATEVER THE INPUT: true; the input reads as it did. -/
def fnExactTurnsFromSharesSpec : ChangeSpec := { name := "fnExactTurnsFromShares", fn := fun _ => fun
  | [d] => { results := [.lit (.bool true)], args := [d] }
  | _ => none }
def fnExactTurnsFromSharesRow : OpenClaim := { program := "ytdleajokhhijhaa", sum := "6c25aa196571f5b0c89e0239371d972a9d30c93a829f4968d18473aa0a224874", func := "loop.example/g01404/laws.FnExactTurnsFromShares", spec := "fnExactTurnsFromShares", unfollowed := true, recurses := true, apart := false }
def FnExactTurnsFromSharesSaid : Prop := fnExactTurnsFromSharesRow.holds Try.pinned (OpenSpec.ofChange fnExactTurnsFromSharesSpec)

/-- ITS FALSE NEIGHBOUR: 'it returns false'. Refute it at one input. -/
def fnExactTurnsFromSharesWrong : ChangeSpec := { name := "fnExactTurnsFromShares", fn := fun _ => fun
  | [d] => { results := [.lit (.bool false)], args := [d] }
  | _ => none }
def FnExactTurnsFromSharesWrongFalsely : Prop := fnExactTurnsFromSharesRow.holds Try.pinned (OpenSpec.ofChange fnExactTurnsFromSharesWrong)

/-- 'laws.FnExactWaitForBoth': WHATEVER THE INPUT: true; the input reads as it did. -/
def fnExactWaitForBothSpec : ChangeSpec := { name := "fnExactWaitForBoth", fn := fun _ => fun
  | [d1, d2, d3, d4] => { results := [.lit (.bool true)], args := [d1, d2, d3, d4] }
  | _ => none }
def fnExactWaitForBothRow : OpenClaim := { program := "ytdleajokhhijhaa", sum := "6c25aa196571f5b0c89e0239371d972a9d30c93a829f4968d18473aa0a224874", func := "loop.example/g01404/laws.FnExactWaitForBoth", spec := "fnExactWaitForBoth", unfollowed := true, recurses := true, apart := false }
def FnExactWaitForBothSaid : Prop := fnExactWaitForBothRow.holds Try.pinned (OpenSpec.ofChange fnExactWaitForBothSpec)

/-- ITS FALSE NEIGHBOUR: 'it returns false'. Refute it at one input. -/
def fnExactWaitForBothWrong : ChangeSpec := { name := "fnExactWaitForBoth", fn := fun _ => fun
  | [d1, d2, d3, d4] => { results := [.lit (.bool false)], args := [d1, d2, d3, d4] }
  | _ => none }
def FnExactWaitForBothWrongFalsely : Prop := fnExactWaitForBothRow.holds Try.pinned (OpenSpec.ofChange fnExactWaitForBothWrong)

/-- 'laws.FnExactWaitFrom': WHATEVER THE INPUT: true; the input reads as it did. -/
def fnExactWaitFromSpec : ChangeSpec := { name := "fnExactWaitFrom", fn := fun _ => fun
  | [d1, d2, d3] => { results := [.lit (.bool true)], args := [d1, d2, d3] }
  | _ => none }
def fnExactWaitFromRow : OpenClaim := { program := "ytdleajokhhijhaa", sum := "6c25aa196571f5b0c89e0239371d972a9d30c93a829f4968d18473aa0a224874", func := "loop.example/g01404/laws.FnExactWaitFrom", spec := "fnExactWaitFrom", unfollowed := true, recurses := true, apart := false }
def FnExactWaitFromSaid : Prop := fnExactWaitFromRow.holds Try.pinned (OpenSpec.ofChange fnExactWaitFromSpec)

/-- ITS FALSE NEIGHBOUR: 'it returns false'. Refute it at one input. -/
def fnExactWaitFromWrong : ChangeSpec := { name := "fnExactWaitFrom", fn := fun _ => fun
  | [d1, d2, d3] => { results := [.lit (.bool false)], args := [d1, d2, d3] }
  | _ => none }
def FnExactWaitFromWrongFalsely : Prop := fnExactWaitFromRow.holds Try.pinned (OpenSpec.ofChange fnExactWaitFromWrong)

/-- 'laws.FnExactWorstSlot': WHATEVER THE INPUT: true; the input reads as it did. -/
def fnExactWorstSlotSpec : ChangeSpec := { name := "fnExactWorstSlot", fn := fun _ => fun
  | [d1, d2] => { results := [.lit (.bool true)], args := [d1, d2] }
  | _ => none }
def fnExactWorstSlotRow : OpenClaim := { program := "ytdleajokhhijhaa", sum := "6c25aa196571f5b0c89e0239371d972a9d30c93a829f4968d18473aa0a224874", func := "loop.example/g01404/laws.FnExactWorstSlot", spec := "fnExactWorstSlot", unfollowed := true, recurses := true, apart := false }
def FnExactWorstSlotSaid : Prop := fnExactWorstSlotRow.holds Try.pinned (OpenSpec.ofChange fnExactWorstSlotSpec)

/-- ITS FALSE NEIGHBOUR: 'it returns false'. Refute it at one input. -/
def fnExactWorstSlotWrong : ChangeSpec := { name := "fnExactWorstSlot", fn := fun _ => fun
  | [d1, d2] => { results := [.lit (.bool false)], args := [d1, d2] }
  | _ => none }
def FnExactWorstSlotWrongFalsely : Prop := fnExactWorstSlotRow.holds Try.pinned (OpenSpec.ofChange fnExactWorstSlotWrong)

/-- 'laws.FnExactCountWithin': WHATEVER THE INPUT: true; the input reads as it did. -/
def fnExactCountWithinSpec : ChangeSpec := { name := "fnExactCountWithin", fn := fun _ => fun
  | [d1, d2, d3] => { results := [.lit (.bool true)], args := [d1, d2, d3] }
  | _ => none }
def fnExactCountWithinRow : OpenClaim := { program := "ytdleajokhhijhaa", sum := "6c25aa196571f5b0c89e0239371d972a9d30c93a829f4968d18473aa0a224874", func := "loop.example/g01404/laws.FnExactCountWithin", spec := "fnExactCountWithin", unfollowed := true, recurses := true, apart := false }
def FnExactCountWithinSaid : Prop := fnExactCountWithinRow.holds Try.pinned (OpenSpec.ofChange fnExactCountWithinSpec)

/-- ITS FALSE NEIGHBOUR: 'it returns false'. Refute it at one input. -/
def fnExactCountWithinWrong : ChangeSpec := { name := "fnExactCountWithin", fn := fun _ => fun
  | [d1, d2, d3] => { results := [.lit (.bool false)], args := [d1, d2, d3] }
  | _ => none }
def FnExactCountWithinWrongFalsely : Prop := fnExactCountWithinRow.holds Try.pinned (OpenSpec.ofChange fnExactCountWithinWrong)

/-- 'laws.FnExactMeanForBoth': WHATEVER THE INPUT: true; the input reads as it did. -/
def fnExactMeanForBothSpec : ChangeSpec := { name := "fnExactMeanForBoth", fn := fun _ => fun
  | [d1, d2, d3] => { results := [.lit (.bool true)], args := [d1, d2, d3] }
  | _ => none }
def fnExactMeanForBothRow : OpenClaim := { program := "ytdleajokhhijhaa", sum := "6c25aa196571f5b0c89e0239371d972a9d30c93a829f4968d18473aa0a224874", func := "loop.example/g01404/laws.FnExactMeanForBoth", spec := "fnExactMeanForBoth", unfollowed := true, recurses := true, apart := false }
def FnExactMeanForBothSaid : Prop := fnExactMeanForBothRow.holds Try.pinned (OpenSpec.ofChange fnExactMeanForBothSpec)

/-- ITS FALSE NEIGHBOUR: 'it returns false'. Refute it at one input. -/
def fnExactMeanForBothWrong : ChangeSpec := { name := "fnExactMeanForBoth", fn := fun _ => fun
  | [d1, d2, d3] => { results := [.lit (.bool false)], args := [d1, d2, d3] }
  | _ => none }
def FnExactMeanForBothWrongFalsely : Prop := fnExactMeanForBothRow.holds Try.pinned (OpenSpec.ofChange fnExactMeanForBothWrong)

/-- 'laws.FnExactMeanWait': WHATEVER THE INPUT: true; the input reads as it did. -/
def fnExactMeanWaitSpec : ChangeSpec := { name := "fnExactMeanWait", fn := fun _ => fun
  | [d1, d2] => { results := [.lit (.bool true)], args := [d1, d2] }
  | _ => none }
def fnExactMeanWaitRow : OpenClaim := { program := "ytdleajokhhijhaa", sum := "6c25aa196571f5b0c89e0239371d972a9d30c93a829f4968d18473aa0a224874", func := "loop.example/g01404/laws.FnExactMeanWait", spec := "fnExactMeanWait", unfollowed := true, recurses := true, apart := false }
def FnExactMeanWaitSaid : Prop := fnExactMeanWaitRow.holds Try.pinned (OpenSpec.ofChange fnExactMeanWaitSpec)

/-- ITS FALSE NEIGHBOUR: 'it returns false'. Refute it at one input. -/
def fnExactMeanWaitWrong : ChangeSpec := { name := "fnExactMeanWait", fn := fun _ => fun
  | [d1, d2] => { results := [.lit (.bool false)], args := [d1, d2] }
  | _ => none }
def FnExactMeanWaitWrongFalsely : Prop := fnExactMeanWaitRow.holds Try.pinned (OpenSpec.ofChange fnExactMeanWaitWrong)

/-- 'laws.FnExactIsDesk': WHATEVER THE INPUT: true; the input reads as it did. -/
def fnExactIsDeskSpec : ChangeSpec := { name := "fnExactIsDesk", fn := fun _ => fun
  | [d] => { results := [.lit (.bool true)], args := [d] }
  | _ => none }
def fnExactIsDeskRow : OpenClaim := { program := "ytdleajokhhijhaa", sum := "6c25aa196571f5b0c89e0239371d972a9d30c93a829f4968d18473aa0a224874", func := "loop.example/g01404/laws.FnExactIsDesk", spec := "fnExactIsDesk", unfollowed := true, recurses := true, apart := false }
def FnExactIsDeskSaid : Prop := fnExactIsDeskRow.holds Try.pinned (OpenSpec.ofChange fnExactIsDeskSpec)

/-- ITS FALSE NEIGHBOUR: 'it returns false'. Refute it at one input. -/
def fnExactIsDeskWrong : ChangeSpec := { name := "fnExactIsDesk", fn := fun _ => fun
  | [d] => { results := [.lit (.bool false)], args := [d] }
  | _ => none }
def FnExactIsDeskWrongFalsely : Prop := fnExactIsDeskRow.holds Try.pinned (OpenSpec.ofChange fnExactIsDeskWrong)

/-- 'laws.FnExactSharesByWeights': WHATEVER THE INPUT: true; the input reads as it did. -/
def fnExactSharesByWeightsSpec : ChangeSpec := { name := "fnExactSharesByWeights", fn := fun _ => fun
  | [d1, d2] => { results := [.lit (.bool true)], args := [d1, d2] }
  | _ => none }
def fnExactSharesByWeightsRow : OpenClaim := { program := "ytdleajokhhijhaa", sum := "6c25aa196571f5b0c89e0239371d972a9d30c93a829f4968d18473aa0a224874", func := "loop.example/g01404/laws.FnExactSharesByWeights", spec := "fnExactSharesByWeights", unfollowed := true, recurses := true, apart := false }
def FnExactSharesByWeightsSaid : Prop := fnExactSharesByWeightsRow.holds Try.pinned (OpenSpec.ofChange fnExactSharesByWeightsSpec)

/-- ITS FALSE NEIGHBOUR: 'it returns false'. Refute it at one input. -/
def fnExactSharesByWeightsWrong : ChangeSpec := { name := "fnExactSharesByWeights", fn := fun _ => fun
  | [d1, d2] => { results := [.lit (.bool false)], args := [d1, d2] }
  | _ => none }
def FnExactSharesByWeightsWrongFalsely : Prop := fnExactSharesByWeightsRow.holds Try.pinned (OpenSpec.ofChange fnExactSharesByWeightsWrong)

/-- 'laws.FnExactMeanByWeights': WHATEVER THE INPUT: true; the input reads as it did. -/
def fnExactMeanByWeightsSpec : ChangeSpec := { name := "fnExactMeanByWeights", fn := fun _ => fun
  | [d1, d2] => { results := [.lit (.bool true)], args := [d1, d2] }
  | _ => none }
def fnExactMeanByWeightsRow : OpenClaim := { program := "ytdleajokhhijhaa", sum := "6c25aa196571f5b0c89e0239371d972a9d30c93a829f4968d18473aa0a224874", func := "loop.example/g01404/laws.FnExactMeanByWeights", spec := "fnExactMeanByWeights", unfollowed := true, recurses := true, apart := false }
def FnExactMeanByWeightsSaid : Prop := fnExactMeanByWeightsRow.holds Try.pinned (OpenSpec.ofChange fnExactMeanByWeightsSpec)

/-- ITS FALSE NEIGHBOUR: 'it returns false'. Refute it at one input. -/
def fnExactMeanByWeightsWrong : ChangeSpec := { name := "fnExactMeanByWeights", fn := fun _ => fun
  | [d1, d2] => { results := [.lit (.bool false)], args := [d1, d2] }
  | _ => none }
def FnExactMeanByWeightsWrongFalsely : Prop := fnExactMeanByWeightsRow.holds Try.pinned (OpenSpec.ofChange fnExactMeanByWeightsWrong)

/- THE SECOND FORM. 'bulk': how many values and letters a reading holds, each counted each time it is reached (what is shared counts as often as it is met; a slice's spare places count too). A statement '..UptoSaid' is the law's where the arguments, and the package variables that the reading takes, are together of bulk at most 1048576: NARROWER than '..Said'. Prove '..Said' where nothing that the law and all that it calls make is longer than what came in: it says more and counts as full. Else prove '..UptoSaid'. A law counts once. -/
mutual
def uptoBulk {H : Type} : DataW H → Nat
  | .lit (.string bytes) => bytes.length + 1
  | .lit _ => 1
  | .nil => 1
  | .ptr d => uptoBulk d + 1
  | .slice elems spare => uptoBulkAll elems + uptoBulkAll spare + 1
  | .agg parts => uptoBulkAll parts + 1
  | .iface _ d => uptoBulk d + 1
  | .map entries => uptoBulkEntries entries + 1
  | .held _ => 1
def uptoBulkAll {H : Type} : List (DataW H) → Nat
  | [] => 0
  | d :: r => uptoBulk d + uptoBulkAll r
def uptoBulkEntries {H : Type} : List (Lit × DataW H) → Nat
  | [] => 0
  | x :: r => uptoBulkEntry x + uptoBulkEntries r
def uptoBulkEntry {H : Type} : Lit × DataW H → Nat
  | (.string bytes, d) => bytes.length + uptoBulk d + 1
  | (_, d) => uptoBulk d + 1
 end
def uptoSmall : (H : Type) → List (DataW H) → Bool := fun _ ds => decide (uptoBulkAll ds ≤ 1048576)
def OpenSpec.upto (s : _root_.Go.ChangeSpec) : _root_.Go.OpenSpec := { _root_.Go.OpenSpec.ofChange s with cond := some uptoSmall }

/-- 'laws.FnExactNewDesk', WHERE WHAT IT READS IS OF BULK AT MOST 1048576: true; the input reads as it did. -/
def fnExactNewDeskUptoRow : OpenClaim := { program := "ytdleajokhhijhaa", sum := "6c25aa196571f5b0c89e0239371d972a9d30c93a829f4968d18473aa0a224874", func := "loop.example/g01404/laws.FnExactNewDesk", spec := "fnExactNewDesk", apart := false, narrowed := true }
def FnExactNewDeskUptoSaid : Prop := fnExactNewDeskUptoRow.holds Try.pinned (OpenSpec.upto fnExactNewDeskSpec)

/-- 'laws.FnExactEvenMean', WHERE WHAT IT READS IS OF BULK AT MOST 1048576: true; the input reads as it did. -/
def fnExactEvenMeanUptoRow : OpenClaim := { program := "ytdleajokhhijhaa", sum := "6c25aa196571f5b0c89e0239371d972a9d30c93a829f4968d18473aa0a224874", func := "loop.example/g01404/laws.FnExactEvenMean", spec := "fnExactEvenMean", unfollowed := true, recurses := true, apart := false, narrowed := true }
def FnExactEvenMeanUptoSaid : Prop := fnExactEvenMeanUptoRow.holds Try.pinned (OpenSpec.upto fnExactEvenMeanSpec)

/-- 'laws.FnExactTurnsFromShares', WHERE WHAT IT READS IS OF BULK AT MOST 1048576: true; the input reads as it did. -/
def fnExactTurnsFromSharesUptoRow : OpenClaim := { program := "ytdleajokhhijhaa", sum := "6c25aa196571f5b0c89e0239371d972a9d30c93a829f4968d18473aa0a224874", func := "loop.example/g01404/laws.FnExactTurnsFromShares", spec := "fnExactTurnsFromShares", unfollowed := true, recurses := true, apart := false, narrowed := true }
def FnExactTurnsFromSharesUptoSaid : Prop := fnExactTurnsFromSharesUptoRow.holds Try.pinned (OpenSpec.upto fnExactTurnsFromSharesSpec)

/-- 'laws.FnExactWaitForBoth', WHERE WHAT IT READS IS OF BULK AT MOST 1048576: true; the input reads as it did. -/
def fnExactWaitForBothUptoRow : OpenClaim := { program := "ytdleajokhhijhaa", sum := "6c25aa196571f5b0c89e0239371d972a9d30c93a829f4968d18473aa0a224874", func := "loop.example/g01404/laws.FnExactWaitForBoth", spec := "fnExactWaitForBoth", unfollowed := true, recurses := true, apart := false, narrowed := true }
def FnExactWaitForBothUptoSaid : Prop := fnExactWaitForBothUptoRow.holds Try.pinned (OpenSpec.upto fnExactWaitForBothSpec)

/-- 'laws.FnExactWaitFrom', WHERE WHAT IT READS IS OF BULK AT MOST 1048576: true; the input reads as it did. -/
def fnExactWaitFromUptoRow : OpenClaim := { program := "ytdleajokhhijhaa", sum := "6c25aa196571f5b0c89e0239371d972a9d30c93a829f4968d18473aa0a224874", func := "loop.example/g01404/laws.FnExactWaitFrom", spec := "fnExactWaitFrom", unfollowed := true, recurses := true, apart := false, narrowed := true }
def FnExactWaitFromUptoSaid : Prop := fnExactWaitFromUptoRow.holds Try.pinned (OpenSpec.upto fnExactWaitFromSpec)

/-- 'laws.FnExactWorstSlot', WHERE WHAT IT READS IS OF BULK AT MOST 1048576: true; the input reads as it did. -/
def fnExactWorstSlotUptoRow : OpenClaim := { program := "ytdleajokhhijhaa", sum := "6c25aa196571f5b0c89e0239371d972a9d30c93a829f4968d18473aa0a224874", func := "loop.example/g01404/laws.FnExactWorstSlot", spec := "fnExactWorstSlot", unfollowed := true, recurses := true, apart := false, narrowed := true }
def FnExactWorstSlotUptoSaid : Prop := fnExactWorstSlotUptoRow.holds Try.pinned (OpenSpec.upto fnExactWorstSlotSpec)

/-- 'laws.FnExactCountWithin', WHERE WHAT IT READS IS OF BULK AT MOST 1048576: true; the input reads as it did. -/
def fnExactCountWithinUptoRow : OpenClaim := { program := "ytdleajokhhijhaa", sum := "6c25aa196571f5b0c89e0239371d972a9d30c93a829f4968d18473aa0a224874", func := "loop.example/g01404/laws.FnExactCountWithin", spec := "fnExactCountWithin", unfollowed := true, recurses := true, apart := false, narrowed := true }
def FnExactCountWithinUptoSaid : Prop := fnExactCountWithinUptoRow.holds Try.pinned (OpenSpec.upto fnExactCountWithinSpec)

/-- 'laws.FnExactMeanForBoth', WHERE WHAT IT READS IS OF BULK AT MOST 1048576: true; the input reads as it did. -/
def fnExactMeanForBothUptoRow : OpenClaim := { program := "ytdleajokhhijhaa", sum := "6c25aa196571f5b0c89e0239371d972a9d30c93a829f4968d18473aa0a224874", func := "loop.example/g01404/laws.FnExactMeanForBoth", spec := "fnExactMeanForBoth", unfollowed := true, recurses := true, apart := false, narrowed := true }
def FnExactMeanForBothUptoSaid : Prop := fnExactMeanForBothUptoRow.holds Try.pinned (OpenSpec.upto fnExactMeanForBothSpec)

/-- 'laws.FnExactMeanWait', WHERE WHAT IT READS IS OF BULK AT MOST 1048576: true; the input reads as it did. -/
def fnExactMeanWaitUptoRow : OpenClaim := { program := "ytdleajokhhijhaa", sum := "6c25aa196571f5b0c89e0239371d972a9d30c93a829f4968d18473aa0a224874", func := "loop.example/g01404/laws.FnExactMeanWait", spec := "fnExactMeanWait", unfollowed := true, recurses := true, apart := false, narrowed := true }
def FnExactMeanWaitUptoSaid : Prop := fnExactMeanWaitUptoRow.holds Try.pinned (OpenSpec.upto fnExactMeanWaitSpec)

/-- 'laws.FnExactIsDesk', WHERE WHAT IT READS IS OF BULK AT MOST 1048576: true; the input reads as it did. -/
def fnExactIsDeskUptoRow : OpenClaim := { program := "ytdleajokhhijhaa", sum := "6c25aa196571f5b0c89e0239371d972a9d30c93a829f4968d18473aa0a224874", func := "loop.example/g01404/laws.FnExactIsDesk", spec := "fnExactIsDesk", unfollowed := true, recurses := true, apart := false, narrowed := true }
def FnExactIsDeskUptoSaid : Prop := fnExactIsDeskUptoRow.holds Try.pinned (OpenSpec.upto fnExactIsDeskSpec)

/-- 'laws.FnExactSharesByWeights', WHERE WHAT IT READS IS OF BULK AT MOST 1048576: true; the input reads as it did. -/
def fnExactSharesByWeightsUptoRow : OpenClaim := { program := "ytdleajokhhijhaa", sum := "6c25aa196571f5b0c89e0239371d972a9d30c93a829f4968d18473aa0a224874", func := "loop.example/g01404/laws.FnExactSharesByWeights", spec := "fnExactSharesByWeights", unfollowed := true, recurses := true, apart := false, narrowed := true }
def FnExactSharesByWeightsUptoSaid : Prop := fnExactSharesByWeightsUptoRow.holds Try.pinned (OpenSpec.upto fnExactSharesByWeightsSpec)

/-- 'laws.FnExactMeanByWeights', WHERE WHAT IT READS IS OF BULK AT MOST 1048576: true; the input reads as it did. -/
def fnExactMeanByWeightsUptoRow : OpenClaim := { program := "ytdleajokhhijhaa", sum := "6c25aa196571f5b0c89e0239371d972a9d30c93a829f4968d18473aa0a224874", func := "loop.example/g01404/laws.FnExactMeanByWeights", spec := "fnExactMeanByWeights", unfollowed := true, recurses := true, apart := false, narrowed := true }
def FnExactMeanByWeightsUptoSaid : Prop := fnExactMeanByWeightsUptoRow.holds Try.pinned (OpenSpec.upto fnExactMeanByWeightsSpec)

end Rows
end Go.Proofs.Ytdleajokhhijhaa
