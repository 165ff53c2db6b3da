/-
  DERIVED. GIVEN WITH THE SEED: THE CARDS: each row of YtcbhhbkghbnljaaDoorRows.lean that lists a variable, with what it lists TIED to the program's text (the seventh form; the later family's looks); each row that meets fmt, with fmt's text TOLD by the authors' own Lean function (tested against real Go, not proved from fmt's source: count such statements apart). THE CARD IS WHAT COUNTS. Prove the row's statement (the work); the ties are given (YtcbhhbkghbnljaaDoorTie.lean); close each card by the builder's one call (the guide's Derived/Test/ToyasCard.lean, 'card_holds'). Laid BY PROGRAM, IN A SANDBOX (cutbox-door.mjs). By AI agents, Wed Nov 11 2026. No macro, syntax, notation, axiom, sorry.
-/
import Derived.Test.YtcbhhbkghbnljaaDoorRows
import GoSem.ClaimSeven
namespace Go.Proofs.YtcbhhbkghbnljaaDoor
namespace Rows

/-- THE TIED CARD OF 'laws.FnExactFirstSplit'. -/
def fnExactFirstSplitCard : Claim7 := { stood := { row := fnExactFirstSplitRow, standIns := [], harness := (true, "459b398b5d854b2ac6d27a687f7946b7a088c62df72c26a17dcf0f8ecc61ea95"), looks := false }, kinds := [], alts := [], laidByText := true, laidKinds := [.data, .data, .data], laidTests := true, laidLooks := .later }
def FnExactFirstSplitCardSaid : Prop := Claim7.holds Tryd.pinned (.plain (OpenSpec.ofChange fnExactFirstSplitSpec)) fnExactFirstSplitCard

/-- THE SECOND FORM's CARD OF 'laws.FnExactFirstSplit'. -/
def fnExactFirstSplitUptoCard : Claim7 := { stood := { row := fnExactFirstSplitUptoRow, standIns := [], harness := (true, "459b398b5d854b2ac6d27a687f7946b7a088c62df72c26a17dcf0f8ecc61ea95"), looks := false }, kinds := [], alts := [], laidByText := true, laidKinds := [.data, .data, .data], laidTests := true, laidLooks := .later }
def FnExactFirstSplitUptoCardSaid : Prop := Claim7.holds Tryd.pinned (.plain (OpenSpec.upto fnExactFirstSplitSpec)) fnExactFirstSplitUptoCard
end Rows
end Go.Proofs.YtcbhhbkghbnljaaDoor
