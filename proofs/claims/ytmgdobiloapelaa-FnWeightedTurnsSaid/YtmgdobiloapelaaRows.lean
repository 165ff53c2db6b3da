/-
  No cell of these rows narrows 'for every input' (looked for: loops, veiled, ifaces, maps, wideKeys, modest, calm, conditions, laid).
  DERIVED. THE GIVEN ROWS OF THIS SEAT. 10 by the template 'for every input the law returns true; each argument reads behind the call as it read before'; 0 by the template 'total and deterministic' (their statements: YtmgdobiloapelaaTotals.lean).
  GIVEN WITH THE SEED: the statements are not yours to turn. If you find one false, say at which input.
  Laid BY PROGRAM, IN A SANDBOX (cutbox-rows.mjs): the forced cells as the released guide's own fill.sh prints them over the translation 4034d261427ab09b… (all of the seat's roots in one cut). By AI agents, Wed Nov 11 2026. No macro, syntax, notation, axiom, sorry.
-/
import Derived.Test.YtmgdobiloapelaaChecked
import GoSem.Claim
import GoSem.ClaimJoined
import GoSem.ClaimMapViews
import Derived.JoinedTies
import Derived.KernelRfl
namespace Go.Proofs.Ytmgdobiloapelaa
/- THE CELL 'sum', in the pinned program and in every row, IS THE sha256 OF THE DUMP (.gsa) THAT YtmgdobiloapelaaProg.lean LOADS. Nothing in Lean hashes anything: it is a label: what it is worth is what the hold of that sum in a sandbox is worth. -/
noncomputable def Try.pinned : Pinned := { name := "ytmgdobiloapelaa", sum := "4034d261427ab09bf86cd964af20e3c03a05d816bf843b820c74e199648390a3", checked := Try.checked }
namespace Rows
def none {H : Type} : Left H := { results := [], args := [] }

/-- 'laws.FnExactAnswersOf': WHATEVER THE INPUT: true; the input reads as it did. -/
def fnExactAnswersOfSpec : ChangeSpec := { name := "fnExactAnswersOf", fn := fun _ => fun
  | [d1, d2] => { results := [.lit (.bool true)], args := [d1, d2] }
  | _ => none }
def fnExactAnswersOfRow : OpenClaim := { program := "ytmgdobiloapelaa", sum := "4034d261427ab09bf86cd964af20e3c03a05d816bf843b820c74e199648390a3", func := "loop.example/g01404/laws.FnExactAnswersOf", spec := "fnExactAnswersOf", apart := false }
def FnExactAnswersOfSaid : Prop := fnExactAnswersOfRow.holds Try.pinned (OpenSpec.ofChange fnExactAnswersOfSpec)

/-- ITS FALSE NEIGHBOUR: 'it returns false'. Refute it at one input. -/
def fnExactAnswersOfWrong : ChangeSpec := { name := "fnExactAnswersOf", fn := fun _ => fun
  | [d1, d2] => { results := [.lit (.bool false)], args := [d1, d2] }
  | _ => none }
def FnExactAnswersOfWrongFalsely : Prop := fnExactAnswersOfRow.holds Try.pinned (OpenSpec.ofChange fnExactAnswersOfWrong)

/-- 'laws.FnExactBestTurns': WHATEVER THE INPUT: true; the input reads as it did. -/
def fnExactBestTurnsSpec : ChangeSpec := { name := "fnExactBestTurns", fn := fun _ => fun
  | [d1, d2] => { results := [.lit (.bool true)], args := [d1, d2] }
  | _ => none }
def fnExactBestTurnsRow : OpenClaim := { program := "ytmgdobiloapelaa", sum := "4034d261427ab09bf86cd964af20e3c03a05d816bf843b820c74e199648390a3", func := "loop.example/g01404/laws.FnExactBestTurns", spec := "fnExactBestTurns", unfollowed := true, recurses := true, apart := false }
def FnExactBestTurnsSaid : Prop := fnExactBestTurnsRow.holds Try.pinned (OpenSpec.ofChange fnExactBestTurnsSpec)

/-- ITS FALSE NEIGHBOUR: 'it returns false'. Refute it at one input. -/
def fnExactBestTurnsWrong : ChangeSpec := { name := "fnExactBestTurns", fn := fun _ => fun
  | [d1, d2] => { results := [.lit (.bool false)], args := [d1, d2] }
  | _ => none }
def FnExactBestTurnsWrongFalsely : Prop := fnExactBestTurnsRow.holds Try.pinned (OpenSpec.ofChange fnExactBestTurnsWrong)

/-- 'laws.FnExactDeadlineSlots': WHATEVER THE INPUT: true; the input reads as it did. -/
def fnExactDeadlineSlotsSpec : ChangeSpec := { name := "fnExactDeadlineSlots", fn := fun _ => fun
  | [d] => { results := [.lit (.bool true)], args := [d] }
  | _ => none }
def fnExactDeadlineSlotsRow : OpenClaim := { program := "ytmgdobiloapelaa", sum := "4034d261427ab09bf86cd964af20e3c03a05d816bf843b820c74e199648390a3", func := "loop.example/g01404/laws.FnExactDeadlineSlots", spec := "fnExactDeadlineSlots", apart := false }
def FnExactDeadlineSlotsSaid : Prop := fnExactDeadlineSlotsRow.holds Try.pinned (OpenSpec.ofChange fnExactDeadlineSlotsSpec)

/-- ITS FALSE NEIGHBOUR: 'it returns false'. Refute it at one input. -/
def fnExactDeadlineSlotsWrong : ChangeSpec := { name := "fnExactDeadlineSlots", fn := fun _ => fun
  | [d] => { results := [.lit (.bool false)], args := [d] }
  | _ => none }
def FnExactDeadlineSlotsWrongFalsely : Prop := fnExactDeadlineSlotsRow.holds Try.pinned (OpenSpec.ofChange fnExactDeadlineSlotsWrong)

/-- 'laws.FnExactTurnsOfJobs': WHATEVER THE INPUT: true; the input reads as it did. -/
def fnExactTurnsOfJobsSpec : ChangeSpec := { name := "fnExactTurnsOfJobs", fn := fun _ => fun
  | [d] => { results := [.lit (.bool true)], args := [d] }
  | _ => none }
def fnExactTurnsOfJobsRow : OpenClaim := { program := "ytmgdobiloapelaa", sum := "4034d261427ab09bf86cd964af20e3c03a05d816bf843b820c74e199648390a3", func := "loop.example/g01404/laws.FnExactTurnsOfJobs", spec := "fnExactTurnsOfJobs", apart := false }
def FnExactTurnsOfJobsSaid : Prop := fnExactTurnsOfJobsRow.holds Try.pinned (OpenSpec.ofChange fnExactTurnsOfJobsSpec)

/-- ITS FALSE NEIGHBOUR: 'it returns false'. Refute it at one input. -/
def fnExactTurnsOfJobsWrong : ChangeSpec := { name := "fnExactTurnsOfJobs", fn := fun _ => fun
  | [d] => { results := [.lit (.bool false)], args := [d] }
  | _ => none }
def FnExactTurnsOfJobsWrongFalsely : Prop := fnExactTurnsOfJobsRow.holds Try.pinned (OpenSpec.ofChange fnExactTurnsOfJobsWrong)

/-- 'laws.FnExactOrderByDeadlines': WHATEVER THE INPUT: true; the input reads as it did. -/
def fnExactOrderByDeadlinesSpec : ChangeSpec := { name := "fnExactOrderByDeadlines", fn := fun _ => fun
  | [d] => { results := [.lit (.bool true)], args := [d] }
  | _ => none }
def fnExactOrderByDeadlinesRow : OpenClaim := { program := "ytmgdobiloapelaa", sum := "4034d261427ab09bf86cd964af20e3c03a05d816bf843b820c74e199648390a3", func := "loop.example/g01404/laws.FnExactOrderByDeadlines", spec := "fnExactOrderByDeadlines", unfollowed := true, recurses := true, apart := false }
def FnExactOrderByDeadlinesSaid : Prop := fnExactOrderByDeadlinesRow.holds Try.pinned (OpenSpec.ofChange fnExactOrderByDeadlinesSpec)

/-- ITS FALSE NEIGHBOUR: 'it returns false'. Refute it at one input. -/
def fnExactOrderByDeadlinesWrong : ChangeSpec := { name := "fnExactOrderByDeadlines", fn := fun _ => fun
  | [d] => { results := [.lit (.bool false)], args := [d] }
  | _ => none }
def FnExactOrderByDeadlinesWrongFalsely : Prop := fnExactOrderByDeadlinesRow.holds Try.pinned (OpenSpec.ofChange fnExactOrderByDeadlinesWrong)

/-- 'laws.FnExactGapsOfTurns': WHATEVER THE INPUT: true; the input reads as it did. -/
def fnExactGapsOfTurnsSpec : ChangeSpec := { name := "fnExactGapsOfTurns", fn := fun _ => fun
  | [d] => { results := [.lit (.bool true)], args := [d] }
  | _ => none }
def fnExactGapsOfTurnsRow : OpenClaim := { program := "ytmgdobiloapelaa", sum := "4034d261427ab09bf86cd964af20e3c03a05d816bf843b820c74e199648390a3", func := "loop.example/g01404/laws.FnExactGapsOfTurns", spec := "fnExactGapsOfTurns", unfollowed := true, recurses := true, apart := false }
def FnExactGapsOfTurnsSaid : Prop := fnExactGapsOfTurnsRow.holds Try.pinned (OpenSpec.ofChange fnExactGapsOfTurnsSpec)

/-- ITS FALSE NEIGHBOUR: 'it returns false'. Refute it at one input. -/
def fnExactGapsOfTurnsWrong : ChangeSpec := { name := "fnExactGapsOfTurns", fn := fun _ => fun
  | [d] => { results := [.lit (.bool false)], args := [d] }
  | _ => none }
def FnExactGapsOfTurnsWrongFalsely : Prop := fnExactGapsOfTurnsRow.holds Try.pinned (OpenSpec.ofChange fnExactGapsOfTurnsWrong)

/-- 'laws.FnJobs': WHATEVER THE INPUT: true; the input reads as it did. -/
def fnJobsSpec : ChangeSpec := { name := "fnJobs", fn := fun _ => fun
  | [d] => { results := [.lit (.bool true)], args := [d] }
  | _ => none }
def fnJobsRow : OpenClaim := { program := "ytmgdobiloapelaa", sum := "4034d261427ab09bf86cd964af20e3c03a05d816bf843b820c74e199648390a3", func := "loop.example/g01404/laws.FnJobs", spec := "fnJobs", apart := false }
def FnJobsSaid : Prop := fnJobsRow.holds Try.pinned (OpenSpec.ofChange fnJobsSpec)

/-- ITS FALSE NEIGHBOUR: 'it returns false'. Refute it at one input. -/
def fnJobsWrong : ChangeSpec := { name := "fnJobs", fn := fun _ => fun
  | [d] => { results := [.lit (.bool false)], args := [d] }
  | _ => none }
def FnJobsWrongFalsely : Prop := fnJobsRow.holds Try.pinned (OpenSpec.ofChange fnJobsWrong)

/-- 'laws.FnWaits': WHATEVER THE INPUT: true; the input reads as it did. -/
def fnWaitsSpec : ChangeSpec := { name := "fnWaits", fn := fun _ => fun
  | [d] => { results := [.lit (.bool true)], args := [d] }
  | _ => none }
def fnWaitsRow : OpenClaim := { program := "ytmgdobiloapelaa", sum := "4034d261427ab09bf86cd964af20e3c03a05d816bf843b820c74e199648390a3", func := "loop.example/g01404/laws.FnWaits", spec := "fnWaits", unfollowed := true, recurses := true, apart := false }
def FnWaitsSaid : Prop := fnWaitsRow.holds Try.pinned (OpenSpec.ofChange fnWaitsSpec)

/-- ITS FALSE NEIGHBOUR: 'it returns false'. Refute it at one input. -/
def fnWaitsWrong : ChangeSpec := { name := "fnWaits", fn := fun _ => fun
  | [d] => { results := [.lit (.bool false)], args := [d] }
  | _ => none }
def FnWaitsWrongFalsely : Prop := fnWaitsRow.holds Try.pinned (OpenSpec.ofChange fnWaitsWrong)

/-- 'laws.FnWeightedTurns': WHATEVER THE INPUT: true; the input reads as it did. -/
def fnWeightedTurnsSpec : ChangeSpec := { name := "fnWeightedTurns", fn := fun _ => fun
  | [d] => { results := [.lit (.bool true)], args := [d] }
  | _ => none }
def fnWeightedTurnsRow : OpenClaim := { program := "ytmgdobiloapelaa", sum := "4034d261427ab09bf86cd964af20e3c03a05d816bf843b820c74e199648390a3", func := "loop.example/g01404/laws.FnWeightedTurns", spec := "fnWeightedTurns", unfollowed := true, recurses := true, apart := false }
def FnWeightedTurnsSaid : Prop := fnWeightedTurnsRow.holds Try.pinned (OpenSpec.ofChange fnWeightedTurnsSpec)

/-- ITS FALSE NEIGHBOUR: 'it returns false'. Refute it at one input. -/
def fnWeightedTurnsWrong : ChangeSpec := { name := "fnWeightedTurns", fn := fun _ => fun
  | [d] => { results := [.lit (.bool false)], args := [d] }
  | _ => none }
def FnWeightedTurnsWrongFalsely : Prop := fnWeightedTurnsRow.holds Try.pinned (OpenSpec.ofChange fnWeightedTurnsWrong)

/-- 'laws.FnAnswers': WHATEVER THE INPUT: true; the input reads as it did. -/
def fnAnswersSpec : ChangeSpec := { name := "fnAnswers", fn := fun _ => fun
  | [d] => { results := [.lit (.bool true)], args := [d] }
  | _ => none }
def fnAnswersRow : OpenClaim := { program := "ytmgdobiloapelaa", sum := "4034d261427ab09bf86cd964af20e3c03a05d816bf843b820c74e199648390a3", func := "loop.example/g01404/laws.FnAnswers", spec := "fnAnswers", unfollowed := true, recurses := true, apart := false }
def FnAnswersSaid : Prop := fnAnswersRow.holds Try.pinned (OpenSpec.ofChange fnAnswersSpec)

/-- ITS FALSE NEIGHBOUR: 'it returns false'. Refute it at one input. -/
def fnAnswersWrong : ChangeSpec := { name := "fnAnswers", fn := fun _ => fun
  | [d] => { results := [.lit (.bool false)], args := [d] }
  | _ => none }
def FnAnswersWrongFalsely : Prop := fnAnswersRow.holds Try.pinned (OpenSpec.ofChange fnAnswersWrong)

/- THE SECOND FORM. 'bulk': how many values and letters a reading holds, each counted each time it is reached (what is shared counts as often as it is met; a slice's spare places count too). A statement '..UptoSaid' is the law's where the arguments, and the package variables that the reading takes, are together of bulk at most 1048576: NARROWER than '..Said'. Prove '..Said' where nothing that the law and all that it calls make is longer than what came in: it says more and counts as full. Else prove '..UptoSaid'. A law counts once. -/
mutual
def uptoBulk {H : Type} : DataW H → Nat
  | .lit (.string bytes) => bytes.length + 1
  | .lit _ => 1
  | .nil => 1
  | .ptr d => uptoBulk d + 1
  | .slice elems spare => uptoBulkAll elems + uptoBulkAll spare + 1
  | .agg parts => uptoBulkAll parts + 1
  | .iface _ d => uptoBulk d + 1
  | .map entries => uptoBulkEntries entries + 1
  | .held _ => 1
def uptoBulkAll {H : Type} : List (DataW H) → Nat
  | [] => 0
  | d :: r => uptoBulk d + uptoBulkAll r
def uptoBulkEntries {H : Type} : List (Lit × DataW H) → Nat
  | [] => 0
  | x :: r => uptoBulkEntry x + uptoBulkEntries r
def uptoBulkEntry {H : Type} : Lit × DataW H → Nat
  | (.string bytes, d) => bytes.length + uptoBulk d + 1
  | (_, d) => uptoBulk d + 1
 end
def uptoSmall : (H : Type) → List (DataW H) → Bool := fun _ ds => decide (uptoBulkAll ds ≤ 1048576)
def OpenSpec.upto (s : _root_.Go.ChangeSpec) : _root_.Go.OpenSpec := { _root_.Go.OpenSpec.ofChange s with cond := some uptoSmall }

/-- 'laws.FnExactAnswersOf', WHERE WHAT IT READS IS OF BULK AT MOST 1048576: true; the input reads as it did. -/
def fnExactAnswersOfUptoRow : OpenClaim := { program := "ytmgdobiloapelaa", sum := "4034d261427ab09bf86cd964af20e3c03a05d816bf843b820c74e199648390a3", func := "loop.example/g01404/laws.FnExactAnswersOf", spec := "fnExactAnswersOf", apart := false, narrowed := true }
def FnExactAnswersOfUptoSaid : Prop := fnExactAnswersOfUptoRow.holds Try.pinned (OpenSpec.upto fnExactAnswersOfSpec)

/-- 'laws.FnExactBestTurns', WHERE WHAT IT READS IS OF BULK AT MOST 1048576: true; the input reads as it did. -/
def fnExactBestTurnsUptoRow : OpenClaim := { program := "ytmgdobiloapelaa", sum := "4034d261427ab09bf86cd964af20e3c03a05d816bf843b820c74e199648390a3", func := "loop.example/g01404/laws.FnExactBestTurns", spec := "fnExactBestTurns", unfollowed := true, recurses := true, apart := false, narrowed := true }
def FnExactBestTurnsUptoSaid : Prop := fnExactBestTurnsUptoRow.holds Try.pinned (OpenSpec.upto fnExactBestTurnsSpec)

/-- 'laws.FnExactDeadlineSlots', WHERE WHAT IT READS IS OF BULK AT MOST 1048576: true; the input reads as it did. -/
def fnExactDeadlineSlotsUptoRow : OpenClaim := { program := "ytmgdobiloapelaa", sum := "4034d261427ab09bf86cd964af20e3c03a05d816bf843b820c74e199648390a3", func := "loop.example/g01404/laws.FnExactDeadlineSlots", spec := "fnExactDeadlineSlots", apart := false, narrowed := true }
def FnExactDeadlineSlotsUptoSaid : Prop := fnExactDeadlineSlotsUptoRow.holds Try.pinned (OpenSpec.upto fnExactDeadlineSlotsSpec)

/-- 'laws.FnExactTurnsOfJobs', WHERE WHAT IT READS IS OF BULK AT MOST 1048576: true; the input reads as it did. -/
def fnExactTurnsOfJobsUptoRow : OpenClaim := { program := "ytmgdobiloapelaa", sum := "4034d261427ab09bf86cd964af20e3c03a05d816bf843b820c74e199648390a3", func := "loop.example/g01404/laws.FnExactTurnsOfJobs", spec := "fnExactTurnsOfJobs", apart := false, narrowed := true }
def FnExactTurnsOfJobsUptoSaid : Prop := fnExactTurnsOfJobsUptoRow.holds Try.pinned (OpenSpec.upto fnExactTurnsOfJobsSpec)

/-- 'laws.FnExactOrderByDeadlines', WHERE WHAT IT READS IS OF BULK AT MOST 1048576: true; the input reads as it did. -/
def fnExactOrderByDeadlinesUptoRow : OpenClaim := { program := "ytmgdobiloapelaa", sum := "4034d261427ab09bf86cd964af20e3c03a05d816bf843b820c74e199648390a3", func := "loop.example/g01404/laws.FnExactOrderByDeadlines", spec := "fnExactOrderByDeadlines", unfollowed := true, recurses := true, apart := false, narrowed := true }
def FnExactOrderByDeadlinesUptoSaid : Prop := fnExactOrderByDeadlinesUptoRow.holds Try.pinned (OpenSpec.upto fnExactOrderByDeadlinesSpec)

/-- 'laws.FnExactGapsOfTurns', WHERE WHAT IT READS IS OF BULK AT MOST 1048576: true; the input reads as it did. -/
def fnExactGapsOfTurnsUptoRow : OpenClaim := { program := "ytmgdobiloapelaa", sum := "4034d261427ab09bf86cd964af20e3c03a05d816bf843b820c74e199648390a3", func := "loop.example/g01404/laws.FnExactGapsOfTurns", spec := "fnExactGapsOfTurns", unfollowed := true, recurses := true, apart := false, narrowed := true }
def FnExactGapsOfTurnsUptoSaid : Prop := fnExactGapsOfTurnsUptoRow.holds Try.pinned (OpenSpec.upto fnExactGapsOfTurnsSpec)

/-- 'laws.FnJobs', WHERE WHAT IT READS IS OF BULK AT MOST 1048576: true; the input reads as it did. -/
def fnJobsUptoRow : OpenClaim := { program := "ytmgdobiloapelaa", sum := "4034d261427ab09bf86cd964af20e3c03a05d816bf843b820c74e199648390a3", func := "loop.example/g01404/laws.FnJobs", spec := "fnJobs", apart := false, narrowed := true }
def FnJobsUptoSaid : Prop := fnJobsUptoRow.holds Try.pinned (OpenSpec.upto fnJobsSpec)

/-- 'laws.FnWaits', WHERE WHAT IT READS IS OF BULK AT MOST 1048576: true; the input reads as it did. -/
def fnWaitsUptoRow : OpenClaim := { program := "ytmgdobiloapelaa", sum := "4034d261427ab09bf86cd964af20e3c03a05d816bf843b820c74e199648390a3", func := "loop.example/g01404/laws.FnWaits", spec := "fnWaits", unfollowed := true, recurses := true, apart := false, narrowed := true }
def FnWaitsUptoSaid : Prop := fnWaitsUptoRow.holds Try.pinned (OpenSpec.upto fnWaitsSpec)

/-- 'laws.FnWeightedTurns', WHERE WHAT IT READS IS OF BULK AT MOST 1048576: true; the input reads as it did. -/
def fnWeightedTurnsUptoRow : OpenClaim := { program := "ytmgdobiloapelaa", sum := "4034d261427ab09bf86cd964af20e3c03a05d816bf843b820c74e199648390a3", func := "loop.example/g01404/laws.FnWeightedTurns", spec := "fnWeightedTurns", unfollowed := true, recurses := true, apart := false, narrowed := true }
def FnWeightedTurnsUptoSaid : Prop := fnWeightedTurnsUptoRow.holds Try.pinned (OpenSpec.upto fnWeightedTurnsSpec)

/-- 'laws.FnAnswers', WHERE WHAT IT READS IS OF BULK AT MOST 1048576: true; the input reads as it did. -/
def fnAnswersUptoRow : OpenClaim := { program := "ytmgdobiloapelaa", sum := "4034d261427ab09bf86cd964af20e3c03a05d816bf843b820c74e199648390a3", func := "loop.example/g01404/laws.FnAnswers", spec := "fnAnswers", unfollowed := true, recurses := true, apart := false, narrowed := true }
def FnAnswersUptoSaid : Prop := fnAnswersUptoRow.holds Try.pinned (OpenSpec.upto fnAnswersSpec)

end Rows
end Go.Proofs.Ytmgdobiloapelaa
