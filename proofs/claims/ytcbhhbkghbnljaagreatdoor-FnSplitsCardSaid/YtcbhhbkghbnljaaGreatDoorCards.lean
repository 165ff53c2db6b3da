/-
  DERIVED. GIVEN WITH THE SEED: THE CARDS: each row of YtcbhhbkghbnljaaGreatDoorRows.lean that lists a variable, with what it lists TIED to the program's text (the seventh form; the later family's looks); each row that meets fmt, with fmt's text TOLD by the authors' own Lean function (tested against real Go, not proved from fmt's source: count such statements apart). THE CARD IS WHAT COUNTS. Prove the row's statement (the work); the ties are given (YtcbhhbkghbnljaaGreatDoorTie.lean); close each card by the builder's one call (the guide's Derived/Test/ToyasCard.lean, 'card_holds'). Laid BY PROGRAM, IN A SANDBOX (cutbox-door.mjs). By AI agents, Wed Nov 11 2026. No macro, syntax, notation, axiom, sorry.
-/
import Derived.Test.YtcbhhbkghbnljaaGreatDoorRows
import GoSem.ClaimSeven
namespace Go.Proofs.YtcbhhbkghbnljaaGreatDoor
namespace Rows

/-- THE TIED CARD OF 'laws.FnCuttingRules'. -/
def fnCuttingRulesCard : Claim7 := { stood := { row := fnCuttingRulesRow, standIns := [], harness := (true, "4db3dc9c7f9ce56c48bf1f5b80d1d4e8f6d981ca349adc1e6c3243fd3db83837"), looks := false }, kinds := [], alts := [], laidByText := true, laidKinds := [.data, .data, .data], laidTests := true, laidLooks := .later }
def FnCuttingRulesCardSaid : Prop := Claim7.holds Tryz.pinned (.plain (OpenSpec.ofChange fnCuttingRulesSpec)) fnCuttingRulesCard

/-- THE TIED CARD OF 'laws.FnSplits'. -/
def fnSplitsCard : Claim7 := { stood := { row := fnSplitsRow, standIns := [], harness := (true, "4db3dc9c7f9ce56c48bf1f5b80d1d4e8f6d981ca349adc1e6c3243fd3db83837"), looks := false }, kinds := [], alts := [], laidByText := true, laidKinds := [.data, .data, .data], laidTests := true, laidLooks := .later }
def FnSplitsCardSaid : Prop := Claim7.holds Tryz.pinned (.plain (OpenSpec.ofChange fnSplitsSpec)) fnSplitsCard

/-- THE SECOND FORM's CARD OF 'laws.FnCuttingRules'. -/
def fnCuttingRulesUptoCard : Claim7 := { stood := { row := fnCuttingRulesUptoRow, standIns := [], harness := (true, "4db3dc9c7f9ce56c48bf1f5b80d1d4e8f6d981ca349adc1e6c3243fd3db83837"), looks := false }, kinds := [], alts := [], laidByText := true, laidKinds := [.data, .data, .data], laidTests := true, laidLooks := .later }
def FnCuttingRulesUptoCardSaid : Prop := Claim7.holds Tryz.pinned (.plain (OpenSpec.upto fnCuttingRulesSpec)) fnCuttingRulesUptoCard

/-- THE SECOND FORM's CARD OF 'laws.FnSplits'. -/
def fnSplitsUptoCard : Claim7 := { stood := { row := fnSplitsUptoRow, standIns := [], harness := (true, "4db3dc9c7f9ce56c48bf1f5b80d1d4e8f6d981ca349adc1e6c3243fd3db83837"), looks := false }, kinds := [], alts := [], laidByText := true, laidKinds := [.data, .data, .data], laidTests := true, laidLooks := .later }
def FnSplitsUptoCardSaid : Prop := Claim7.holds Tryz.pinned (.plain (OpenSpec.upto fnSplitsSpec)) fnSplitsUptoCard
end Rows
end Go.Proofs.YtcbhhbkghbnljaaGreatDoor
