/- Words of the kit's print, as its program wrote them for this claim: those that the claim names. -/
import Derived.Test.YtmgdobiloapelaaBwTab
namespace Go.Proofs.YtmgdobiloapelaaW.PrintLast
section
variable {P : Program} {ops : Array Oper} {Q : Exit → Act → World → Prop} {md : Region.Mode} {T : Bool × List (List Nat × List Nat)} {B : List Nat} {O : List Nat} {b : Nat → Bool} {i j n : Nat}
end
end Go.Proofs.YtmgdobiloapelaaW.PrintLast
